/- The walk of sheet.stood: the plain function stood. Conditions: at most 2^30 letters; bytealg's MaxLen holds an int. -/
import Derived.Test.YtgkpiakapdgglaaDoorPrtM
import Derived.Test.YtgkpiakapdgglaaDoorShelf
namespace Go.Proofs.YtgkpiakapdgglaaDoor
open Go.RowKit
set_option linter.unusedSimpArgs false
set_option linter.unusedVariables false
set_option maxRecDepth 1000000
theorem w64p (i : Nat) (h : i ≤ 2199023255552) : wrap64 ((i : Int) + 1) = (i : Int) + 1 := by unfold wrap64; omega
theorem size_q (l : List UInt8) : (⟨l.toArray⟩ : ByteArray).size = l.length := by rw [← size_list]
theorem cont_l (a t : List UInt8) (m : Int) (w : World) (hs : a.length ≤ 1073741824) (hm : w.cell? ⟨1, 0, none⟩ = some (.int .i64 m)) :
    Calls Tryd.prog 71 #[.string ⟨a.toArray⟩, .string ⟨t.toArray⟩] w fun e w' => e = .returned (.bool (Lib.contains a t)) ∧ w' = w :=
  Tryd.strings_Contains ⟨a.toArray⟩ ⟨t.toArray⟩ m w (by rw [size_q]; exact Nat.lt_of_le_of_lt hs (by decide)) hm
theorem prt_bd (p : Prt) (t : Nat) (h : prtLen p ≤ t) (ht : t ≤ 1073741824) : p.body.length ≤ 1073741824 ∧ p.name.length ≤ 1073741824 ∧ p.file.length ≤ 1073741824 ∧ p.media.length ≤ 1073741824 := by unfold prtLen at h; omega
set_option maxHeartbeats 2000000 in
theorem sstood_any (v : Value) (l : List Prt) (t : List UInt8) (m : Int) (w : World) (hT : totQ l ≤ 1073741824) (hN : l.length ≤ 4294967296) (h : PrtsIn w v l) (hm : w.cell? ⟨1, 0, none⟩ = some (.int .i64 m)) :
    Calls Tryd.prog 39 #[v, .string ⟨t.toArray⟩] w fun e w' => e = .returned (.bool (stood l t)) ∧ Below w.heap.size w w' := by
  obtain ⟨ao, cap, rfl, hat⟩ := h
  obtain ⟨L, hL⟩ : ∃ L, w.heap.size = L := ⟨_, rfl⟩
  have hbb : Below L w w := by rw [← hL]; exact Below.refl _ w
  have HL := Lib.hid hL; clear hL
  have HATW := Lib.hid hat; clear hat
  have HM := Lib.hid hm; clear hm
  go_enter Tryd.func39, Tryd.ntmps39
  go_wp2
  go_loopw [11] (fun iv wr => ∃ i : Nat, iv = .int .i64 i ∧ i ≤ l.length ∧ (∀ j p, j < i → l[j]? = some p → std t p = false) ∧ Below L w wr) (fun iv _ => l.length - (intOf iv).toNat)
  case atStart => exact ⟨0, rfl, Nat.zero_le _, fun j p hj => by omega, hbb⟩
  case round =>
    clear hbb
    obtain ⟨i, rfl, hi, hno, hb⟩ := hrel
    by_cases hlt : i < l.length
    · obtain ⟨p, hp⟩ : ∃ p, l[i]? = some p := ⟨_, List.getElem?_eq_getElem hlt⟩
      have hb' : Below w.heap.size w wr := by rw [HL.out]; exact hb
      obtain ⟨g, o, rfl, c0, c1, c2, c3, c4, hg⟩ := HATW.out.below hb' i p hp
      have hbd := prt_bd p _ (totQ_get l i p hp) hT
      have k0 : (0 : Int) ≤ (i : Int) := Int.natCast_nonneg _
      have k1 : (i : Int) < (l.length : Int) := by omega
      have hwi := w64p i (Nat.le_trans hi (Nat.le_trans hN (by decide)))
      have hb2 : Below L w (wr.alloc (.cells #[.string ⟨p.name.toArray⟩, .string ⟨p.file.toArray⟩, .string ⟨p.media.toArray⟩, .string ⟨p.body.toArray⟩, .bool p.has] 73)) := hb.alloc (bsz hb HL) _
      have hmx : (wr.alloc (.cells #[.string ⟨p.name.toArray⟩, .string ⟨p.file.toArray⟩, .string ⟨p.media.toArray⟩, .string ⟨p.body.toArray⟩, .bool p.has] 73)).cell? ⟨1, 0, none⟩ = some (.int .i64 m) := mx_later (B := 0) HM.out (by rw [HL.out]; exact hb2)
      have i0 : ∀ (a b c d : Value) (W : World), (Instr.index 101 (.agg #[a, b, c, d]) (.int .i64 0)).run Tryd.prog W = .ok a W := fun a b c d W => by kernel_rfl
      have i1 : ∀ (a b c d : Value) (W : World), (Instr.index 101 (.agg #[a, b, c, d]) (.int .i64 1)).run Tryd.prog W = .ok b W := fun a b c d W => by kernel_rfl
      have i2 : ∀ (a b c d : Value) (W : World), (Instr.index 101 (.agg #[a, b, c, d]) (.int .i64 2)).run Tryd.prog W = .ok c W := fun a b c d W => by kernel_rfl
      have i3 : ∀ (a b c d : Value) (W : World), (Instr.index 101 (.agg #[a, b, c, d]) (.int .i64 3)).run Tryd.prog W = .ok d W := fun a b c d W => by kernel_rfl
      have r0 := cont_l p.body t m _ hbd.1 hmx
      have r1 := cont_l p.name t m _ hbd.2.1 hmx
      have r2 := cont_l p.file t m _ hbd.2.2.1 hmx
      have r3 := cont_l p.media t m _ hbd.2.2.2 hmx
      obtain ⟨b0, hb0⟩ : ∃ b, Lib.contains p.body t = b := ⟨_, rfl⟩
      obtain ⟨b1, hb1⟩ : ∃ b, Lib.contains p.name t = b := ⟨_, rfl⟩
      obtain ⟨b2, hb2'⟩ : ∃ b, Lib.contains p.file t = b := ⟨_, rfl⟩
      obtain ⟨b3, hb3⟩ : ∃ b, Lib.contains p.media t = b := ⟨_, rfl⟩
      have hstd : std t p = (b0 || (b1 || (b2 || b3))) := by unfold std; rw [hb0, hb1, hb2', hb3]
      rw [hb0] at r0
      rw [hb1] at r1
      rw [hb2'] at r2
      rw [hb3] at r3
      have HS := Lib.hid (And.intro hstd (And.intro hp (And.intro hno hb2))); have HW := Lib.hid hwi
      have R0 := Lib.hid r0; have R1 := Lib.hid r1; have R2 := Lib.hid r2; have R3 := Lib.hid r3
      clear hstd hp hno hb2 hb hb' hwi r0 r1 r2 r3 hb0 hb1 hb2' hb3 hmx
      go_wp2
      refine wp_loop_rounds 5 ?_
      rw [rounds_succ]
      go_wp2_with fail
      refine (R0.out).mono ?_
      rintro e W ⟨rfl, hW⟩
      rw [hW]
      clear hW W
      cases b0 with
      | true =>
        have hy := stood_yes l t i p HS.out.2.1 (by rw [HS.out.1]; simp)
        have HY := Lib.hid hy
        clear hy
        go_wp2
        go_ret
        rw [HY.out, HL.out]
        exact ⟨rfl, HS.out.2.2.2⟩
      | false =>
        go_wp2
        rw [rounds_succ]
        go_wp2_with fail
        refine (R1.out).mono ?_
        rintro e W ⟨rfl, hW⟩
        rw [hW]
        clear hW W
        cases b1 with
        | true =>
          have hy := stood_yes l t i p HS.out.2.1 (by rw [HS.out.1]; simp)
          have HY := Lib.hid hy
          clear hy
          go_wp2
          go_ret
          rw [HY.out, HL.out]
          exact ⟨rfl, HS.out.2.2.2⟩
        | false =>
          go_wp2
          rw [rounds_succ]
          go_wp2_with fail
          refine (R2.out).mono ?_
          rintro e W ⟨rfl, hW⟩
          rw [hW]
          clear hW W
          cases b2 with
          | true =>
            have hy := stood_yes l t i p HS.out.2.1 (by rw [HS.out.1]; simp)
            have HY := Lib.hid hy
            clear hy
            go_wp2
            go_ret
            rw [HY.out, HL.out]
            exact ⟨rfl, HS.out.2.2.2⟩
          | false =>
            go_wp2
            rw [rounds_succ]
            go_wp2_with fail
            refine (R3.out).mono ?_
            rintro e W ⟨rfl, hW⟩
            rw [hW]
            clear hW W
            cases b3 with
            | true =>
              have hy := stood_yes l t i p HS.out.2.1 (by rw [HS.out.1]; simp)
              have HY := Lib.hid hy
              clear hy
              go_wp2
              go_ret
              rw [HY.out, HL.out]
              exact ⟨rfl, HS.out.2.2.2⟩
            | false =>
              go_wp2
              rw [rounds_succ]
              have hn2 : ∀ j p, j < i + 1 → l[j]? = some p → std t p = false := fun j q hj hq => by
                by_cases hji : j < i
                · exact HS.out.2.2.1 j q hji hq
                · obtain rfl : j = i := by omega
                  rw [HS.out.2.1] at hq; injection hq with hq; subst hq
                  rw [HS.out.1]; rfl
              have HN2 := Lib.hid hn2
              clear hn2
              go_wp2
              have hwi := HW.out
              go_roundw
              case rel => (try rw [hwi]); clear hwi; exact ⟨i + 1, by go_num, hlt, HN2.out, HS.out.2.2.2⟩
              case measure => (try rw [hwi]); clear hwi; simp [intOf]; omega
    · have hd : decide (i < l.length) = false := decide_eq_false hlt
      have hf := stood_no l t (fun j p hj hp => hno j p (by omega) hp)
      have HF := Lib.hid (And.intro hf hb)
      clear hf hno hb
      go_wp2
      go_ret
      rw [HF.out.1, HL.out]
      exact ⟨rfl, HF.out.2⟩
end Go.Proofs.YtgkpiakapdgglaaDoor
