/- The walk of turnpikelaw15.known: the same pairs, in a row of its own. Conditions: at most 2^32 pairs. -/
import Derived.Test.YtgkpiakapdgglaaDoorRPrn
import Derived.Test.YtgkpiakapdgglaaDoorRegH
namespace Go.Proofs.YtgkpiakapdgglaaDoor
open Go.RowKit
set_option linter.unusedSimpArgs false
set_option linter.unusedVariables false
set_option maxRecDepth 1000000
theorem bd_k (i n : Nat) (h : i < n) (hn : n ≤ 4294967296) : i + 1 ≤ maxLen ∧ (i + 1) * 40 ≤ 140737488355328 ∧ i ≤ 2199023255552 := by unfold maxLen; omega
def Cells3 (g a : Nat) (p : Par) (w : World) : Prop := w.cell? ⟨g, a, none⟩ = some (.string ⟨p.1.toArray⟩) ∧ w.cell? ⟨g, a + 1, none⟩ = some (.string ⟨p.2.1.toArray⟩) ∧ w.cell? ⟨g, a + 2, none⟩ = some (.bool p.2.2) ∧ g < w.heap.size
theorem Cells3.below {g a : Nat} {p : Par} {w w' : World} (h : Cells3 g a p w) (hb : Below w.heap.size w w') : Cells3 g a p w' :=
  ⟨by rw [hb.cell (p := ⟨g, a, none⟩) h.2.2.2]; exact h.1, by rw [hb.cell (p := ⟨g, a + 1, none⟩) h.2.2.2]; exact h.2.1, by rw [hb.cell (p := ⟨g, a + 2, none⟩) h.2.2.2]; exact h.2.2.1, Nat.lt_of_lt_of_le h.2.2.2 hb.size⟩
theorem Cells3.grown {g a : Nat} {p : Par} {w w' : World} {row : Option Nat} (h : Cells3 g a p w) (hg : w.grownBy w' row) (hne : some g ≠ row) : Cells3 g a p w' :=
  ⟨hg.cell h.1 hne, hg.cell h.2.1 hne, hg.cell h.2.2.1 hne, Nat.lt_of_lt_of_le h.2.2.2 hg.size⟩
theorem keep3 {w : World} {g a : Nat} {p : Par} (h : Cells3 g a p w.drew) (o : Obj) : Cells3 g a p ((w.alloc o).drew) :=
  ⟨cell_keep (w := w) h.1 h.2.2.2 o, cell_keep (w := w) h.2.1 h.2.2.2 o, cell_keep (w := w) h.2.2.1 h.2.2.2 o, by have : g < w.heap.size := h.2.2.2; show g < (w.alloc o).heap.size; simp; omega⟩
theorem parsV_take (l : List Par) (i : Nat) (p : Par) (h : l[i]? = some p) : parsV (l.take (i + 1)) = parsV (l.take i) ++ [.string ⟨p.1.toArray⟩, .string ⟨p.2.1.toArray⟩, .bool p.2.2] := by
  rw [List.take_add_one, h, Option.toList_some, parsV_snoc]; rfl
set_option maxHeartbeats 4000000 in
theorem known_any (v : Value) (l : List Par) (w : World) (hN : l.length ≤ 4294967296) (h : ParsIn w v l) :
    Calls Tryd.prog 12 #[v] w fun e w' => ∃ v', e = .returned v' ∧ w'.ownsRow w.heap.size 64 3 v' l.length (parsV l) ∧ Below w.heap.size w w' := by
  obtain ⟨ao, cap, rfl, hat⟩ := h
  obtain ⟨i0, hi0, hz0, hz1, hz2⟩ := info_partsP infoRPar
  obtain ⟨L, hL⟩ : ∃ L, w.heap.size = L := ⟨_, rfl⟩
  have hbb : Below L w (w.alloc (.cells #[] 64)) := by rw [← hL]; exact (Below.refl _ w).alloc (Nat.le_refl _) _
  have hrm : (w.alloc (.cells #[] 64)).ownsRow L 64 3 (.slice (some ⟨w.heap.size, 0, none⟩) 0 0) 0 [] := by rw [← hL]; exact World.ownsRow_made w #[] 0 (Nat.le_refl _) (by simp) rfl
  have HL := Lib.hid hL; clear hL
  have HATW := Lib.hid hat; clear hat
  go_enter Tryd.func12, Tryd.ntmps12
  go_wp2
  go_loopw [4, 3] (fun iv v wr => ∃ i : Nat, iv = .int .i64 i ∧ i ≤ l.length ∧ wr.ownsRow L 64 3 v i (parsV (l.take i)) ∧ Below L w wr)
    (fun iv _ _ => l.length - (intOf iv).toNat)
  case atStart => exact ⟨0, rfl, Nat.zero_le _, hrm, hbb⟩
  case round =>
    clear hbb hrm
    obtain ⟨i, rfl, hi, hown, hb⟩ := hrel
    by_cases hlt : i < l.length
    · obtain ⟨p, hp⟩ : ∃ p, l[i]? = some p := ⟨_, List.getElem?_eq_getElem hlt⟩
      have hb' : Below w.heap.size w wr := by rw [HL.out]; exact hb
      obtain ⟨g, o, rfl, hg, c0, c1, c2⟩ := HATW.out.below hb' i p hp
      have hgL : g < L := by
        obtain ⟨g', o', e, hg', _⟩ := HATW.out i p hp
        injection e with e; injection e with e1 e2; subst e1; rw [← HL.out]; exact hg'
      have hS : Cells3 g (o + i * 3) p wr.drew := ⟨c0, c1, c2, hg⟩
      have k0 : (0 : Int) ≤ (i : Int) := Int.natCast_nonneg _
      have k1 : (i : Int) < (l.length : Int) := by omega
      have hbd := bd_k i l.length hlt hN
      have hwi := wrap64_small i hbd.2.2
      have hsn := parsV_take l i p hp
      obtain ⟨A, hA⟩ : ∃ A, o + i * 3 = A := ⟨_, rfl⟩
      have HS := Lib.hid hS; have HO := Lib.hid hown; have HB := Lib.hid hb; have HW := Lib.hid hwi; have HSN := Lib.hid hsn; have HP := Lib.hid hp
      clear hS hown hb hb' hwi hsn hp c0 c1 c2 hA A
      have hbL := bsz HB.out HL
      go_wp2
      refine wp_region_textH (Cells3 g (o + i * 3) p) [(0, true), (1, true), (2, true), (3, true), (4, true), (5, true), (6, true), (7, true), (8, true), (9, true), (10, true), (11, true), (12, true), (13, true), (14, true), (15, true), (16, true), (17, false), (18, false), (19, true)] (by kernel_rfl) (by kernel_rfl) (by kernel_rfl) (by kernel_rfl) HS.out ?_
      repeat (refine wpTxH_take rfl (by rfl) (v := ?_) ?_ ?_; rotate_left; · (intro w hS; obtain ⟨s0, s1, s2, _⟩ := hS; go_simp; with_reducible rfl))
      refine wpTxH_step rfl (fun K hK => ?_)
      go_simp
      refine hK _ _ ?_ ?_
      · exact keep3 HS.out _
      · clear hK K
        refine wpTxH_step rfl (fun K hK => ?_)
        refine step_append_own rfl (.tmp 12) (.tmp 29) 26 rfl L 64 i0 (.agg #[.string ByteArray.empty, .string ByteArray.empty, .bool false]) 3 40 Tryd.underlying26 hi0 hz0 hz1 hz2 rfl (by decide) _ _ _ rfl ((HO.out.alloc _).drew) ⟨wr.heap.size, 0, none⟩ 1 1 [.string ⟨p.1.toArray⟩, .string ⟨p.2.1.toArray⟩, .bool p.2.2] rfl rfl (cells_new wr 64 _) (by simp [Value.oneCell']) hbd.1 hbd.2.1 (by simp; exact Nat.le_trans hbL (Nat.le_succ _)) ?_
        intro v1 w1 hI1 hg1
        refine hK _ _ ?_ ?_
        · exact (keep3 HS.out _).grown hg1 (fun e => absurd (HO.out.lt g e.symm).1 (Nat.not_le.2 hgL))
        · clear hK K
          have hb1 : Below L w w1 := ((HB.out.alloc hbL _).drew).grown hg1 (by simp; exact Nat.le_trans hbL (Nat.le_succ _)) (fun k hk => (HO.out.lt k hk).1)
          have HI1 := Lib.hid hI1; have HB1 := Lib.hid hb1
          clear hI1 hb1 hg1
          refine wpTxH_take rfl (by rfl) (v := ?_) ?_ ?_
          rotate_left
          · intro w hS; clear hS; go_simp; with_reducible rfl
          refine wpTxH_nil ?_
          go_simp
          go_wp2
          have hwi := HW.out
          go_roundw
          case rel =>
            (try rw [hwi]); clear hwi
            refine ⟨i + 1, by go_num, by omega, ?_, HB1.out⟩
            rw [HSN.out]
            exact HI1.out
          case measure => (try rw [hwi]); clear hwi; simp [intOf]; omega
    · obtain rfl : i = l.length := by omega
      have hd : decide (l.length < l.length) = false := decide_eq_false (Nat.lt_irrefl _)
      rw [List.take_length] at hown
      have HO := Lib.hid hown; have HB := Lib.hid hb
      clear hown hb
      go_wp2
      go_ret
      rw [HL.out]
      exact ⟨_, rfl, HO.out, HB.out⟩
end Go.Proofs.YtgkpiakapdgglaaDoor
