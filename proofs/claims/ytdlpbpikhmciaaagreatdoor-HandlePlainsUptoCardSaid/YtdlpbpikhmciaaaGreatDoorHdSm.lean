/- turnpikelaw18's sameFields and same, where both are the same. Conditions: the list is small. -/
import Derived.Test.YtdlpbpikhmciaaaGreatDoorHdPl
import Derived.Test.YtdlpbpikhmciaaaGreatDoorHdJW
namespace Go.Proofs.YtdlpbpikhmciaaaGreatDoor
open Go.RowKit
set_option linter.unusedSimpArgs false
set_option linter.unusedVariables false
set_option maxRecDepth 1000000
def FC (W : World) (b o i : Nat) (p : Fld) : Prop := W.cell? ⟨b, o + i * 2, none⟩ = some (.string ⟨p.1.toArray⟩) ∧ W.cell? ⟨b, o + i * 2 + 1, none⟩ = some (.string ⟨p.2.toArray⟩)
set_option maxHeartbeats 4000000 in
theorem sameF18_any (v v' : Value) (l : List Fld) (w : World) (hN : l.length ≤ 4194304) (h : FldsIn w v l) (h' : FldsIn w v' l) :
    Calls Tryz.prog 21 #[v, v'] w fun e w' => e = .returned (.bool true) ∧ Below w.heap.size w w' := by
  obtain ⟨ao, cap, rfl, hat⟩ := h
  obtain ⟨ao', cap', rfl, hat'⟩ := h'
  have HAT := Lib.hid (And.intro hat hat'); clear hat hat'
  go_enter Tryz.func21, Tryz.ntmps21
  go_wp2
  go_loopw [13] (fun iv wr => ∃ i : Nat, iv = .int .i64 i ∧ i ≤ l.length ∧ Below w.heap.size w wr) (fun iv _ => l.length - (intOf iv).toNat)
  case atStart => exact ⟨0, rfl, Nat.zero_le _, Below.refl _ _⟩
  case round =>
    obtain ⟨i, rfl, hi, hb⟩ := hrel
    by_cases hlt : i < l.length
    case neg =>
      obtain rfl : i = l.length := by omega
      have hd : decide (l.length < l.length) = false := decide_eq_false (Nat.lt_irrefl _)
      have HB := Lib.hid hb; clear hb
      go_wp2
      go_ret
      exact ⟨rfl, HB.out⟩
    obtain ⟨p, hp⟩ : ∃ p, l[i]? = some p := ⟨_, List.getElem?_eq_getElem hlt⟩
    obtain ⟨b, o, rfl, hbl, c0, c1⟩ := HAT.out.1.below hb i p hp
    obtain ⟨b', o', rfl, hbl', c0', c1'⟩ := HAT.out.2.below hb i p hp
    have k0 : (0 : Int) ≤ (i : Int) := Int.natCast_nonneg _
    have k1 : (i : Int) < (l.length : Int) := by omega
    have hbd := bd_l18 i l.length hlt hN
    have hwi := wrap64_small i hbd.2.2.2
    obtain ⟨wd, hwd⟩ : ∃ W, wr.drew = W := ⟨_, rfl⟩
    have hS : FC wd b o i p ∧ FC wd b' o' i p := by rw [← hwd]; exact ⟨⟨c0, c1⟩, ⟨c0', c1'⟩⟩
    have HX := Lib.hid (And.intro hwi (show Below w.heap.size w wd by rw [← hwd]; exact hb.drew))
    clear hwi hb c0 c1 c0' c1' hp hbl hbl'
    go_upto_region 6 with fail
    refine wp_region_textH (fun W => FC W b o i p ∧ FC W b' o' i p) [(0, true), (1, true), (2, true), (3, true), (4, true), (5, true), (6, true), (7, true), (8, true), (9, true), (10, true), (11, true), (12, true), (13, true), (14, true), (15, true), (16, true), (17, true), (18, true), (19, true), (20, true), (21, true), (22, true), (23, true)] (by kernel_rfl) (by kernel_rfl) (by kernel_rfl) (by kernel_rfl) (by rw [hwd]; exact hS) ?_
    rw [hwd]
    clear hwd
    iterate 24 (refine wpTxH_take rfl (by kernel_rfl) (v := ?_) ?_ ?_; rotate_left; · (intro W hS; obtain ⟨⟨t0, t1⟩, ⟨t2, t3⟩⟩ := hS; go_simp; (try with_reducible rfl)))
    refine wpTxH_nil ?_
    go_simp
    go_wp2
    have hwi := HX.out.1
    go_roundw
    case rel => (try rw [hwi]); clear hwi; exact ⟨i + 1, by go_num, hlt, HX.out.2⟩
    case measure => (try rw [hwi]); clear hwi; simp [intOf]; omega
set_option maxHeartbeats 4000000 in
theorem same18_any (st : Int) (bo : ByteArray) (v v' : Value) (l : List Fld) (w : World) (hN : l.length ≤ 4194304) (h : FldsIn w v l) (h' : FldsIn w v' l) :
    Calls Tryz.prog 15 #[.agg (rC st ⟨#[]⟩ v bo), .agg (rC st ⟨#[]⟩ v' bo)] w fun e w' => e = .returned (.bool true) ∧ Below w.heap.size w w' := by
  have HS := Lib.hid (fun W (hb : Below w.heap.size w W) => sameF18_any v v' l W hN (h.below hb) (h'.below hb))
  obtain ⟨ao, cap, rfl, _⟩ := h
  obtain ⟨ao', cap', rfl, _⟩ := h'
  obtain ⟨W2, hW2⟩ : ∃ W2, (w.alloc (.cells (rC st ⟨#[]⟩ (.slice ao l.length cap) bo) 46)).alloc (.cells (rC st ⟨#[]⟩ (.slice ao' l.length cap') bo) 50) = W2 := ⟨_, rfl⟩
  have hb2 : Below w.heap.size w W2 := by rw [← hW2]; exact (below1 w _).alloc (by simp) _
  obtain ⟨p, hp⟩ : ∃ p, w.heap.size = p := ⟨_, rfl⟩
  obtain ⟨q, hq⟩ : ∃ q, p + 1 = q := ⟨_, rfl⟩
  have hP : BlkIs W2 p (rC st ⟨#[]⟩ (.slice ao l.length cap) bo) 46 := by rw [← hW2, ← hp]; exact (blkIs_new w _ _).alloc _
  have hQ : BlkIs W2 q (rC st ⟨#[]⟩ (.slice ao' l.length cap') bo) 50 := by
    have := blkIs_new (w.alloc (.cells (rC st ⟨#[]⟩ (.slice ao l.length cap) bo) 46)) (rC st ⟨#[]⟩ (.slice ao' l.length cap') bo) 50
    rw [World.size_alloc, hW2, hp, hq] at this
    exact this
  have HW2 := Lib.hid hW2; have HB2 := Lib.hid hb2
  clear hW2 hb2
  go_enter Tryz.func15, Tryz.ntmps15
  go_upto_region 1 with fail
  rw [HW2.out]
  have x0 : W2.cell? ⟨p, 0, none⟩ = some (.int .i64 st) := hP.cell 0 _ rfl
  have x1 : W2.cell? ⟨p, 1, none⟩ = some (.string ⟨#[]⟩) := hP.cell 1 _ rfl
  have x2 : W2.cell? ⟨p, 2, none⟩ = some (.slice ao l.length cap) := hP.cell 2 _ rfl
  have x3 : W2.cell? ⟨p, 3, none⟩ = some (.string bo) := hP.cell 3 _ rfl
  have y0 : W2.cell? ⟨q, 0, none⟩ = some (.int .i64 st) := hQ.cell 0 _ rfl
  have y1 : W2.cell? ⟨q, 1, none⟩ = some (.string ⟨#[]⟩) := hQ.cell 1 _ rfl
  have y2 : W2.cell? ⟨q, 2, none⟩ = some (.slice ao' l.length cap') := hQ.cell 2 _ rfl
  have y3 : W2.cell? ⟨q, 3, none⟩ = some (.string bo) := hQ.cell 3 _ rfl
  go_wp2_with fail
  refine (HS.out W2 HB2.out).mono ?_
  rintro e w3 ⟨rfl, hb3⟩
  have HB3 := Lib.hid (HB2.out.trans (hb3.mono HB2.out.size))
  clear hb3 x0 x1 x2 x3 y0 y1 y2 y3
  go_wp2
  go_ret
  exact ⟨rfl, by first | exact HB3.out | (rw [← hp]; exact HB3.out)⟩
end Go.Proofs.YtdlpbpikhmciaaaGreatDoor
