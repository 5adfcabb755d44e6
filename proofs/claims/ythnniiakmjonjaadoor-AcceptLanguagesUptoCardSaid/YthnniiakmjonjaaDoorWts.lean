/- The walks of turnpikelaw07.weights and sameWeights: the same words in a row of its own; two lists that hold the same words: true. Conditions: at most 2^30 words. -/
import Derived.Test.YthnniiakmjonjaaDoorAlk
namespace Go.Proofs.YthnniiakmjonjaaDoor
open Go.RowKit
set_option linter.unusedSimpArgs false
set_option linter.unusedVariables false
set_option maxRecDepth 1000000
theorem infoRWgt : (Tryd.prog.info? 110).map (fun i => (i.zero, i.size, i.bytes)) = some (some (.agg #[.string ByteArray.empty, .int .i64 0]), 2, 24) := by kernel_rfl
theorem info_partsW (h : (Tryd.prog.info? 110).map (fun i => (i.zero, i.size, i.bytes)) = some (some (.agg #[.string ByteArray.empty, .int .i64 0]), 2, 24)) : ∃ i, Tryd.prog.info? 110 = some i ∧ i.zero = some (.agg #[.string ByteArray.empty, .int .i64 0]) ∧ i.size = 2 ∧ i.bytes = 24 := by
  obtain ⟨i, hi, he⟩ := Option.map_eq_some_iff.1 h
  simp only [Prod.mk.injEq] at he
  exact ⟨i, hi, he.1, he.2.1, he.2.2⟩
theorem wgt_bd (i n : Nat) (h : i < n) (hn : n ≤ 1073741824) : i + 1 ≤ maxLen ∧ (i + 1) * 24 ≤ 140737488355328 := by unfold maxLen; omega
def WgtS (b a : Nat) (p : Wgt) (w : World) : Prop := WgtC w b a p
theorem wgtS_keep {w : World} {b a : Nat} {p : Wgt} (h : WgtS b a p w.drew) (o : Obj) : WgtS b a p ((w.alloc o).drew) := by
  have hc := (Below.refl w.heap.size w).alloc (Nat.le_refl _) o
  have hb : Below w.heap.size w.drew ((w.alloc o).drew) := ⟨hc.os, hc.tape, hc.output, hc.size, hc.block⟩
  exact WgtC.below h hb
theorem WgtC.grown {w w' : World} {b a : Nat} {p : Wgt} {row : Option Nat} (h : WgtC w b a p) (hg : w.grownBy w' row) (hne : some b ≠ row) : WgtC w' b a p :=
  ⟨Nat.lt_of_lt_of_le h.1 hg.size, hg.cell h.2.1 hne, hg.cell h.2.2 hne⟩
set_option maxHeartbeats 4000000 in
theorem weights_any (v : Value) (l : List Wgt) (w : World) (hN : l.length ≤ 1073741824) (h : WgtsIn w v l) :
    Calls Tryd.prog 26 #[v] w fun e w' => ∃ v', e = .returned v' ∧ w'.ownsRow w.heap.size 110 2 v' l.length (wgtsV l) ∧ Below w.heap.size w w' := by
  obtain ⟨ao, cap, rfl, hat⟩ := h
  obtain ⟨i0, hi0, hz0, hz1, hz2⟩ := info_partsW infoRWgt
  obtain ⟨L, hL⟩ : ∃ L, w.heap.size = L := ⟨_, rfl⟩
  have hbb : Below L w (w.alloc (.cells #[] 110)) := by rw [← hL]; exact (Below.refl _ w).alloc (Nat.le_refl _) _
  have hrm : (w.alloc (.cells #[] 110)).ownsRow L 110 2 (.slice (some ⟨w.heap.size, 0, none⟩) 0 0) 0 [] := by rw [← hL]; exact World.ownsRow_made w #[] 0 (Nat.le_refl _) (by simp) rfl
  have HL := Lib.hid hL; clear hL
  have HATW := Lib.hid hat; clear hat
  go_enter Tryd.func26, Tryd.ntmps26
  go_wp2
  go_loopw [4, 3] (fun iv v wr => ∃ i : Nat, iv = .int .i64 i ∧ i ≤ l.length ∧ wr.ownsRow L 110 2 v i (wgtsV (l.take i)) ∧ Below L w wr)
    (fun iv _ _ => l.length - (intOf iv).toNat)
  case atStart => exact ⟨0, rfl, Nat.zero_le _, hrm, hbb⟩
  case round =>
    clear hbb hrm
    obtain ⟨i, rfl, hi, hown, hb⟩ := hrel
    by_cases hlt : i < l.length
    · obtain ⟨p, hp⟩ : ∃ p, l[i]? = some p := ⟨_, List.getElem?_eq_getElem hlt⟩
      have hb' : Below w.heap.size w wr := by rw [HL.out]; exact hb
      obtain ⟨g, o, rfl, hC⟩ := HATW.out.below hb' i p hp
      have hgL : g < L := by
        obtain ⟨g', o', e, hg'⟩ := HATW.out i p hp
        injection e with e; injection e with e1 e2; subst e1; rw [← HL.out]; exact hg'.1
      have hS : WgtS g (o + i * 2) p wr.drew := hC
      have k0 : (0 : Int) ≤ (i : Int) := Int.natCast_nonneg _
      have k1 : (i : Int) < (l.length : Int) := by omega
      have hbd := wgt_bd i l.length hlt hN
      have hwi := wrap64_small i (small30 i _ hi hN)
      have hsn := wgtsV_take l i p hp
      have HS := Lib.hid hS; have HO := Lib.hid hown; have HB := Lib.hid hb; have HW := Lib.hid hwi; have HSN := Lib.hid hsn; have HP := Lib.hid hp
      clear hS hown hb hb' hwi hsn hp hC
      have hbL := bsz HB.out HL
      go_wp2
      refine wp_region_textH (WgtS g (o + i * 2) p) [(0, true), (1, true), (2, true), (3, true), (4, true), (5, true), (6, true), (7, true), (8, true), (9, true), (10, true), (11, true), (12, false), (13, false), (14, true)] (by kernel_rfl) (by kernel_rfl) (by kernel_rfl) (by kernel_rfl) HS.out ?_
      repeat (refine wpTxH_take rfl (by rfl) (v := ?_) ?_ ?_; rotate_left; · (intro w hS; obtain ⟨s0, s1, s2⟩ := hS; go_simp; with_reducible rfl))
      refine wpTxH_step rfl (fun K hK => ?_)
      go_simp
      refine hK _ _ ?_ ?_
      · exact wgtS_keep HS.out _
      · clear hK K
        refine wpTxH_step rfl (fun K hK => ?_)
        refine step_append_own rfl (.tmp 12) (.tmp 24) 45 rfl L 110 i0 (.agg #[.string ByteArray.empty, .int .i64 0]) 2 24 Tryd.underlying45 hi0 hz0 hz1 hz2 rfl (by decide) _ _ _ rfl ((HO.out.alloc _).drew) ⟨wr.heap.size, 0, none⟩ 1 1 [.string ⟨p.1.toArray⟩, .int .i64 p.2] rfl rfl (cells_new wr 110 _) (by simp [Value.oneCell']) hbd.1 hbd.2 (by simp; exact Nat.le_trans hbL (Nat.le_succ _)) ?_
        intro v1 w1 hI1 hg1
        refine hK _ _ ?_ ?_
        · exact WgtC.grown (wgtS_keep HS.out _) hg1 (fun e => absurd (HO.out.lt g e.symm).1 (Nat.not_le.2 hgL))
        · clear hK K
          have hb1 : Below L w w1 := ((HB.out.alloc hbL _).drew).grown hg1 (by simp; exact Nat.le_trans hbL (Nat.le_succ _)) (fun k hk => (HO.out.lt k hk).1)
          have HI1 := Lib.hid hI1; have HB1 := Lib.hid hb1
          clear hI1 hb1 hg1
          refine wpTxH_take rfl (by rfl) (v := ?_) ?_ ?_
          rotate_left
          · intro w hS; clear hS; go_simp; with_reducible rfl
          refine wpTxH_nil ?_
          go_simp
          go_wp2
          have hwi := HW.out
          go_roundw
          case rel =>
            (try rw [hwi]); clear hwi
            refine ⟨i + 1, by go_num, by omega, ?_, HB1.out⟩
            rw [HSN.out]
            exact HI1.out
          case measure => (try rw [hwi]); clear hwi; simp [intOf]; omega
    · obtain rfl : i = l.length := by omega
      have hd : decide (l.length < l.length) = false := decide_eq_false (Nat.lt_irrefl _)
      rw [List.take_length] at hown
      have HO := Lib.hid hown; have HB := Lib.hid hb
      clear hown hb
      go_wp2
      go_ret
      rw [HL.out]
      exact ⟨_, rfl, HO.out, HB.out⟩
theorem wgtAt_drew {w : World} {ao : Option Addr} {l : List Wgt} (h : WgtAt w ao l) (n : Nat) : WgtAt (w.drewN n) ao l := h.below (below_drewN (Below.refl _ w) n)
set_option maxHeartbeats 4000000 in
theorem sameWeights_any (v1 v2 : Value) (l : List Wgt) (w : World) (hl : l.length ≤ 1073741824) (h1 : WgtsIn w v1 l) (h2 : WgtsIn w v2 l) :
    Calls Tryd.prog 29 #[v1, v2] w fun e w' => e = .returned (.bool true) ∧ Below w.heap.size w w' := by
  obtain ⟨a1, cap1, rfl, h1⟩ := h1
  obtain ⟨a2, cap2, rfl, h2⟩ := h2
  go_enter Tryd.func29, Tryd.ntmps29
  go_wp2
  go_loopw [5] (fun iv wr => ∃ i k : Nat, iv = .int .i64 i ∧ i ≤ l.length ∧ wr = w.drewN k) (fun i _ => l.length - (intOf i).toNat)
  case atStart => exact ⟨0, 0, rfl, Nat.zero_le _, rfl⟩
  case round =>
    obtain ⟨i, k, rfl, hi, rfl⟩ := hrel
    by_cases hlt : i < l.length
    · obtain ⟨p, hp⟩ : ∃ p, l[i]? = some p := ⟨_, List.getElem?_eq_getElem hlt⟩
      obtain ⟨g1, o1, rfl, _, a0, a1⟩ := wgtAt_drew h1 k i p hp
      obtain ⟨g2, o2, rfl, _, b0, b1⟩ := wgtAt_drew h2 k i p hp
      obtain ⟨W2, hW2⟩ : ∃ W2, w.drewN k = W2 := ⟨_, rfl⟩
      rw [hW2] at a0 a1 b0 b1
      rw [hW2]
      have HW := Lib.hid hW2
      clear hW2 h1 h2
      have k0 : (0 : Int) ≤ (i : Int) := by omega
      have k1 : (i : Int) < (l.length : Int) := by omega
      have hwi := wrap64_small i (small30 i _ hi hl)
      go_wp2_with fail
      refine wp_region_still_lit (by kernel_rfl) (by kernel_rfl) ?_
      repeat still_step
      refine wpStill_nil ?_
      go_wp2
      go_roundw
      case rel =>
        try rw [hwi]
        clear hwi
        exact ⟨i + 1, k + 1, by go_num, by omega, by rw [← HW.out]; rfl⟩
      case measure => (try rw [hwi]); clear hwi; simp [intOf]; omega
    · have hd : decide (i < l.length) = false := decide_eq_false hlt
      have bel := below_drewN (Below.refl w.heap.size w) k
      go_wp2
      go_ret
      exact ⟨rfl, bel⟩
end Go.Proofs.YthnniiakmjonjaaDoor
