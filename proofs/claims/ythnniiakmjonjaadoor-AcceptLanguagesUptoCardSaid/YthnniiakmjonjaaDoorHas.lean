/- The walk of accept.has: the plain function hasP. Conditions: at most 2^30 parameters; names of at most 2^40 bytes. -/
import Derived.Test.YthnniiakmjonjaaDoorSam
import Derived.Test.YthnniiakmjonjaaDoorVal7
import Derived.Test.YthnniiakmjonjaaDoorMedM
namespace Go.Proofs.YthnniiakmjonjaaDoor
open Go.RowKit
set_option linter.unusedSimpArgs false
set_option linter.unusedVariables false
set_option maxRecDepth 1000000
abbrev parO (p : Par) (T : TypeId) : Obj := .cells #[.string ⟨p.1.toArray⟩, .string ⟨p.2.1.toArray⟩, .bool p.2.2] T
theorem has_step (l : List Par) (p q : Par) (i : Nat) (h : l[i]? = some q) (ha : (l.take i).any (fun x => sameP x p) = false) (hq : sameP q p = false) : (l.take (i + 1)).any (fun x => sameP x p) = false := by
  rw [take_any _ _ _ _ h, ha, hq]; rfl
theorem has_yes (l : List Par) (p q : Par) (i : Nat) (h : l[i]? = some q) (hq : sameP q p = true) : hasP l p = true := any_yes _ _ i q h hq
theorem has_end (l : List Par) (p : Par) (ha : (l.take l.length).any (fun x => sameP x p) = false) : hasP l p = false := by rw [List.take_length] at ha; exact ha
theorem small30 (i n : Nat) (h : i ≤ n) (hn : n ≤ 1073741824) : i ≤ 2199023255552 := by omega
set_option maxHeartbeats 4000000 in
theorem has_any (v : Value) (l : List Par) (p : Par) (w : World) (hN : l.length ≤ 1073741824) (hs : ∀ (i : Nat) (q : Par), l[i]? = some q → q.1.length ≤ 1099511627776 ∧ q.2.1.length ≤ 1099511627776) (hp : p.1.length ≤ 1099511627776) (h : ParsIn w v l) :
    Calls Tryd.prog 60 #[v, .agg #[.string ⟨p.1.toArray⟩, .string ⟨p.2.1.toArray⟩, .bool p.2.2]] w fun e w' => e = .returned (.bool (hasP l p)) ∧ Below w.heap.size w w' := by
  obtain ⟨ao, cap, rfl, hat⟩ := h
  obtain ⟨L, hL⟩ : ∃ L, w.heap.size = L := ⟨_, rfl⟩
  have hbb : Below L w (w.alloc (parO p 80)) := by rw [← hL]; exact (Below.refl _ w).alloc (Nat.le_refl _) _
  have hK : Cells3 w.heap.size 0 p (w.alloc (parO p 80)) := by
    exact ⟨Lib.cell_of_heap (heap_alloc_new w _) .., Lib.cell_of_heap (heap_alloc_new w _) .., Lib.cell_of_heap (heap_alloc_new w _) .., by simp⟩
  have HL := Lib.hid hL; clear hL
  have HATW := Lib.hid hat; clear hat
  have HS := Lib.hid hs; have HP := Lib.hid hp
  clear hs hp
  go_enter Tryd.func60, Tryd.ntmps60
  go_wp2
  go_loopw [9] (fun iv wr => ∃ i : Nat, iv = .int .i64 i ∧ i ≤ l.length ∧ (l.take i).any (fun x => sameP x p) = false ∧ Below L w wr ∧ Cells3 w.heap.size 0 p wr) (fun iv _ => l.length - (intOf iv).toNat)
  case atStart => exact ⟨0, rfl, Nat.zero_le _, rfl, hbb, hK⟩
  case round =>
    clear hbb hK
    obtain ⟨i, rfl, hi, hno, hb, hK⟩ := hrel
    by_cases hlt : i < l.length
    · obtain ⟨q, hq⟩ : ∃ q, l[i]? = some q := ⟨_, List.getElem?_eq_getElem hlt⟩
      have hb' : Below w.heap.size w wr := by rw [HL.out]; exact hb
      obtain ⟨g, o, rfl, hg, c0, c1, c2⟩ := HATW.out.below hb' i q hq
      obtain ⟨d0, d1, d2, hLw⟩ := hK
      have k0 : (0 : Int) ≤ (i : Int) := Int.natCast_nonneg _
      have k1 : (i : Int) < (l.length : Int) := by omega
      have hwi := wrap64_small i (small30 i _ hi hN)
      have hb2 : Below L w (wr.alloc (parO q 80)) := hb.alloc (bsz hb HL) _
      have hqs := (HS.out i q hq).1
      obtain ⟨q1, q2, q3⟩ := q
      simp only at c0 c1 c2 hb2 hqs
      have HSM := Lib.hid (fun w => osame_any q1 p.1 w hqs HP.out)
      have HB2 := Lib.hid hb2; have HW := Lib.hid hwi; have HNO := Lib.hid hno; have HQ := Lib.hid hq
      clear hb hb' hno hb2 hwi hq hqs
      go_wp2_with fail
      refine (HSM.out _).mono ?_
      rintro e w3 ⟨rfl, hb3⟩
      have lt3 : wr.heap.size < (wr.alloc (parO (q1, q2, q3) 80)).heap.size := by simp
      have e1 : w3.cell? ⟨wr.heap.size, 1, none⟩ = some (.string ⟨q2.toArray⟩) := (hb3.cell (p := ⟨wr.heap.size, 1, none⟩) lt3).trans (Lib.cell_of_heap (heap_alloc_new wr _) ..)
      have HB3 := Lib.hid (HB2.out.trans (hb3.mono (bsz HB2.out HL)))
      have hK3 : Cells3 w.heap.size 0 p w3 := Cells3.below (w := wr.alloc (parO (q1, q2, q3) 80)) ((Cells3.below ⟨d0, d1, d2, hLw⟩ ((Below.refl _ wr).alloc (Nat.le_refl _) _))) hb3
      have HK3 := Lib.hid hK3
      have f1 : w3.cell? ⟨w.heap.size, 1, none⟩ = some (.string ⟨p.2.1.toArray⟩) := hK3.2.1
      clear hb3 hK3 lt3
      cases hsm : sameL q1 p.1 with
      | false =>
        have HST := Lib.hid (has_step l p _ i HQ.out HNO.out (by unfold sameP; rw [hsm]; rfl))
        clear hsm
        go_wp2
        have hwi := HW.out
        go_roundw
        case rel => (try rw [hwi]); clear hwi; exact ⟨i + 1, by go_num, hlt, HST.out, HB3.out, HK3.out⟩
        case measure => (try rw [hwi]); clear hwi; simp [intOf]; omega
      | true =>
        by_cases hv : q2 = p.2.1
        · have hbe : (q2 == p.2.1) = true := by rw [hv]; simp
          have HST := Lib.hid (has_yes l p _ i HQ.out (by unfold sameP; rw [hsm, hv]; simp))
          clear hsm hv
          go_wp2
          go_ret
          rw [HST.out, HL.out]
          exact ⟨rfl, HB3.out⟩
        · have hbe : (q2 == p.2.1) = false := beq_false_of_ne hv
          have HST := Lib.hid (has_step l p _ i HQ.out HNO.out (by unfold sameP; rw [hsm, decide_eq_false hv]; rfl))
          clear hsm hv
          go_wp2
          have hwi := HW.out
          go_roundw
          case rel => (try rw [hwi]); clear hwi; exact ⟨i + 1, by go_num, hlt, HST.out, HB3.out, HK3.out⟩
          case measure => (try rw [hwi]); clear hwi; simp [intOf]; omega
    · obtain rfl : i = l.length := by omega
      have hd : decide (l.length < l.length) = false := decide_eq_false (Nat.lt_irrefl _)
      have HX := Lib.hid (And.intro (has_end l p hno) hb)
      clear hno hb hK
      go_wp2
      go_ret
      rw [HX.out.1, HL.out]
      exact ⟨rfl, HX.out.2⟩
end Go.Proofs.YthnniiakmjonjaaDoor
