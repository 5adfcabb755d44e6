/- The walks of turnpikelaw15.given and parts: the same parts in a row of its own; two lists that hold the same parts: true. Conditions: at most 2^32 parts. -/
import Derived.Test.YtgkpiakapdgglaaDoorRStd
import Derived.Test.YtgkpiakapdgglaaDoorRegH
namespace Go.Proofs.YtgkpiakapdgglaaDoor
open Go.RowKit
set_option linter.unusedSimpArgs false
set_option linter.unusedVariables false
set_option maxRecDepth 1000000
theorem infoRPart : (Tryd.prog.info? 74).map (fun i => (i.zero, i.size, i.bytes)) = some (some (.agg #[.string ByteArray.empty, .string ByteArray.empty, .string ByteArray.empty, .string ByteArray.empty, .bool false]), 5, 72) := by kernel_rfl
theorem info_partsQ (h : (Tryd.prog.info? 74).map (fun i => (i.zero, i.size, i.bytes)) = some (some (.agg #[.string ByteArray.empty, .string ByteArray.empty, .string ByteArray.empty, .string ByteArray.empty, .bool false]), 5, 72)) : ∃ i, Tryd.prog.info? 74 = some i ∧ i.zero = some (.agg #[.string ByteArray.empty, .string ByteArray.empty, .string ByteArray.empty, .string ByteArray.empty, .bool false]) ∧ i.size = 5 ∧ i.bytes = 72 := by
  obtain ⟨i, hi, he⟩ := Option.map_eq_some_iff.1 h
  simp only [Prod.mk.injEq] at he
  exact ⟨i, hi, he.1, he.2.1, he.2.2⟩
theorem bd_q (i n : Nat) (h : i < n) (hn : n ≤ 1073741824) : i + 1 ≤ maxLen ∧ (i + 1) * 72 ≤ 140737488355328 ∧ i ≤ 2199023255552 := by unfold maxLen; omega
theorem prtsV_take (l : List Prt) (i : Nat) (p : Prt) (h : l[i]? = some p) : prtsV (l.take (i + 1)) = prtsV (l.take i) ++ [.string ⟨p.name.toArray⟩, .string ⟨p.file.toArray⟩, .string ⟨p.media.toArray⟩, .string ⟨p.body.toArray⟩, .bool p.has] := by
  rw [List.take_add_one, h, Option.toList_some, prtsV_snoc]; rfl
set_option maxHeartbeats 4000000 in
theorem given_any (v : Value) (l : List Prt) (w : World) (hN : l.length ≤ 1073741824) (h : PrtsIn w v l) :
    Calls Tryd.prog 19 #[v] w fun e w' => ∃ v', e = .returned v' ∧ w'.ownsRow w.heap.size 74 5 v' l.length (prtsV l) ∧ Below w.heap.size w w' := by
  obtain ⟨ao, cap, rfl, hat⟩ := h
  obtain ⟨i0, hi0, hz0, hz1, hz2⟩ := info_partsQ infoRPart
  obtain ⟨L, hL⟩ : ∃ L, w.heap.size = L := ⟨_, rfl⟩
  have hbb : Below L w (w.alloc (.cells #[] 74)) := by rw [← hL]; exact (Below.refl _ w).alloc (Nat.le_refl _) _
  have hrm : (w.alloc (.cells #[] 74)).ownsRow L 74 5 (.slice (some ⟨w.heap.size, 0, none⟩) 0 0) 0 [] := by rw [← hL]; exact World.ownsRow_made w #[] 0 (Nat.le_refl _) (by simp) rfl
  have HL := Lib.hid hL; clear hL
  have HATW := Lib.hid hat; clear hat
  go_enter Tryd.func19, Tryd.ntmps19
  go_wp2
  go_loopw [4, 3] (fun iv v wr => ∃ i : Nat, iv = .int .i64 i ∧ i ≤ l.length ∧ wr.ownsRow L 74 5 v i (prtsV (l.take i)) ∧ Below L w wr)
    (fun iv _ _ => l.length - (intOf iv).toNat)
  case atStart => exact ⟨0, rfl, Nat.zero_le _, hrm, hbb⟩
  case round =>
    clear hbb hrm
    obtain ⟨i, rfl, hi, hown, hb⟩ := hrel
    by_cases hlt : i < l.length
    · obtain ⟨p, hp⟩ : ∃ p, l[i]? = some p := ⟨_, List.getElem?_eq_getElem hlt⟩
      have hb' : Below w.heap.size w wr := by rw [HL.out]; exact hb
      obtain ⟨g, o, rfl, hC⟩ := HATW.out.below hb' i p hp
      have hgL : g < L := by
        obtain ⟨g', o', e, hg'⟩ := HATW.out i p hp
        injection e with e; injection e with e1 e2; subst e1; rw [← HL.out]; exact hg'.2.2.2.2.2
      have hS : Cells5 g (o + i * 5) p wr.drew := hC
      have k0 : (0 : Int) ≤ (i : Int) := Int.natCast_nonneg _
      have k1 : (i : Int) < (l.length : Int) := by omega
      have hbd := bd_q i l.length hlt hN
      have hwi := w64p i hbd.2.2
      have hsn := prtsV_take l i p hp
      have HS := Lib.hid hS; have HO := Lib.hid hown; have HB := Lib.hid hb; have HW := Lib.hid hwi; have HSN := Lib.hid hsn; have HP := Lib.hid hp
      clear hS hown hb hb' hwi hsn hp hC
      have hbL := bsz HB.out HL
      go_wp2
      refine wp_region_textH (Cells5 g (o + i * 5) p) [(0, true), (1, true), (2, true), (3, true), (4, true), (5, true), (6, true), (7, true), (8, true), (9, true), (10, true), (11, true), (12, true), (13, true), (14, true), (15, true), (16, true), (17, true), (18, true), (19, true), (20, true), (21, true), (22, true), (23, true), (24, true), (25, true), (26, true), (27, false), (28, false), (29, true)] (by kernel_rfl) (by kernel_rfl) (by kernel_rfl) (by kernel_rfl) HS.out ?_
      repeat (refine wpTxH_take rfl (by rfl) (v := ?_) ?_ ?_; rotate_left; · (intro w hS; obtain ⟨s0, s1, s2, s3, s4, _⟩ := hS; go_simp; with_reducible rfl))
      refine wpTxH_step rfl (fun K hK => ?_)
      go_simp
      refine hK _ _ ?_ ?_
      · exact keep5 HS.out _
      · clear hK K
        refine wpTxH_step rfl (fun K hK => ?_)
        refine step_append_own rfl (.tmp 12) (.tmp 39) 41 rfl L 74 i0 (.agg #[.string ByteArray.empty, .string ByteArray.empty, .string ByteArray.empty, .string ByteArray.empty, .bool false]) 5 72 Tryd.underlying41 hi0 hz0 hz1 hz2 rfl (by decide) _ _ _ rfl ((HO.out.alloc _).drew) ⟨wr.heap.size, 0, none⟩ 1 1 [.string ⟨p.name.toArray⟩, .string ⟨p.file.toArray⟩, .string ⟨p.media.toArray⟩, .string ⟨p.body.toArray⟩, .bool p.has] rfl rfl (cells_new wr 74 _) (by simp [Value.oneCell']) hbd.1 hbd.2.1 (by simp; exact Nat.le_trans hbL (Nat.le_succ _)) ?_
        intro v1 w1 hI1 hg1
        refine hK _ _ ?_ ?_
        · exact (keep5 HS.out _).grown hg1 (fun e => absurd (HO.out.lt g e.symm).1 (Nat.not_le.2 hgL))
        · clear hK K
          have hb1 : Below L w w1 := ((HB.out.alloc hbL _).drew).grown hg1 (by simp; exact Nat.le_trans hbL (Nat.le_succ _)) (fun k hk => (HO.out.lt k hk).1)
          have HI1 := Lib.hid hI1; have HB1 := Lib.hid hb1
          clear hI1 hb1 hg1
          refine wpTxH_take rfl (by rfl) (v := ?_) ?_ ?_
          rotate_left
          · intro w hS; clear hS; go_simp; with_reducible rfl
          refine wpTxH_nil ?_
          go_simp
          go_wp2
          have hwi := HW.out
          go_roundw
          case rel =>
            (try rw [hwi]); clear hwi
            refine ⟨i + 1, by go_num, by omega, ?_, HB1.out⟩
            rw [HSN.out]
            exact HI1.out
          case measure => (try rw [hwi]); clear hwi; simp [intOf]; omega
    · obtain rfl : i = l.length := by omega
      have hd : decide (l.length < l.length) = false := decide_eq_false (Nat.lt_irrefl _)
      rw [List.take_length] at hown
      have HO := Lib.hid hown; have HB := Lib.hid hb
      clear hown hb
      go_wp2
      go_ret
      rw [HL.out]
      exact ⟨_, rfl, HO.out, HB.out⟩
theorem prtAt_drew {w : World} {ao : Option Addr} {l : List Prt} (h : PrtAt w ao l) (n : Nat) : PrtAt (w.drewN n) ao l := h.below (below_drewN (Below.refl _ w) n)
set_option maxHeartbeats 4000000 in
theorem lawprts_any (v1 v2 : Value) (l : List Prt) (w : World) (hl : l.length ≤ 2199023255552) (h1 : PrtsIn w v1 l) (h2 : PrtsIn w v2 l) :
    Calls Tryd.prog 24 #[v1, v2] w fun e w' => e = .returned (.bool true) ∧ Below w.heap.size w w' := by
  obtain ⟨a1, cap1, rfl, h1⟩ := h1
  obtain ⟨a2, cap2, rfl, h2⟩ := h2
  go_enter Tryd.func24, Tryd.ntmps24
  go_wp2
  go_loopw [5] (fun iv wr => ∃ i k : Nat, iv = .int .i64 i ∧ i ≤ l.length ∧ wr = w.drewN k) (fun i _ => l.length - (intOf i).toNat)
  case atStart => exact ⟨0, 0, rfl, Nat.zero_le _, rfl⟩
  case round =>
    obtain ⟨i, k, rfl, hi, rfl⟩ := hrel
    by_cases hlt : i < l.length
    · obtain ⟨p, hp⟩ : ∃ p, l[i]? = some p := ⟨_, List.getElem?_eq_getElem hlt⟩
      obtain ⟨g1, o1, rfl, a0, a1, a2, a3, a4, _⟩ := prtAt_drew h1 k i p hp
      obtain ⟨g2, o2, rfl, b0, b1, b2, b3, b4, _⟩ := prtAt_drew h2 k i p hp
      obtain ⟨W2, hW2⟩ : ∃ W2, w.drewN k = W2 := ⟨_, rfl⟩
      rw [hW2] at a0 a1 a2 a3 a4 b0 b1 b2 b3 b4
      rw [hW2]
      have HW := Lib.hid hW2
      clear hW2 h1 h2
      have k0 : (0 : Int) ≤ (i : Int) := by omega
      have k1 : (i : Int) < (l.length : Int) := by omega
      have hwi := w64p i (Nat.le_trans hi hl)
      go_wp2_with fail
      refine wp_region_still_lit (by kernel_rfl) (by kernel_rfl) ?_
      repeat still_step
      refine wpStill_nil ?_
      go_wp2
      go_roundw
      case rel =>
        try rw [hwi]
        clear hwi
        exact ⟨i + 1, k + 1, by go_num, by omega, by rw [← HW.out]; rfl⟩
      case measure => (try rw [hwi]); clear hwi; simp [intOf]; omega
    · have hd : decide (i < l.length) = false := decide_eq_false hlt
      have bel := below_drewN (Below.refl w.heap.size w) k
      go_wp2
      go_ret
      exact ⟨rfl, bel⟩
end Go.Proofs.YtgkpiakapdgglaaDoor
