/- The walk of accept.Quality: the plain function quR. Conditions: fewer than 2^32 - 15 bytes; bytealg's MaxLen holds an int. -/
import Derived.Test.YthnniiakmjonjaaDoorNum
namespace Go.Proofs.YthnniiakmjonjaaDoor
open Go.RowKit
set_option linter.unusedSimpArgs false
set_option linter.unusedVariables false
set_option maxRecDepth 1000000
theorem rep_one : ∀ r : Nat, Lib.repeatL [48] r = List.replicate r (48 : UInt8)
  | 0 => rfl
  | r + 1 => by
    show [48] ++ Lib.repeatL [48] r = _
    rw [rep_one r, List.replicate_succ]
    rfl
theorem cat_ll7 (a b : List UInt8) : (⟨a.toArray⟩ : ByteArray) ++ (⟨b.toArray⟩ : ByteArray) = ⟨(a ++ b).toArray⟩ := by
  refine ba_ext ?_
  simp
theorem repeat_0 (r : Nat) (w : World) (hr : r ≤ 3) : Calls Tryd.prog 56 #[.string ⟨#[48]⟩, .int .i64 (r : Int)] w fun e w' => e = .returned (.string ⟨(List.replicate r (48 : UInt8)).toArray⟩) ∧ Below w.heap.size w w' := by
  have h := Tryd.strings_Repeat ⟨#[48]⟩ r w (by omega) (by show 1 * r ≤ _; omega)
  rwa [show (⟨#[48]⟩ : ByteArray).data.toList = [48] from rfl, rep_one] at h
theorem repeat_p (cb R : List UInt8) (hR : List.replicate (3 - cb.length) (48 : UInt8) = R) (w : World) (h : cb.length ≤ 3) : Calls Tryd.prog 56 #[.string ⟨#[48]⟩, .int .i64 ((3 : Int) - (cb.length : Int))] w fun e w' => e = .returned (.string ⟨R.toArray⟩) ∧ Below w.heap.size w w' := by
  have := repeat_0 (3 - cb.length) w (by omega)
  rw [hR] at this
  rwa [show (((3 - cb.length : Nat)) : Int) = (3 : Int) - (cb.length : Int) from by omega] at this
def QuPost (s : ByteArray) (w : World) (e : Ending) (w' : World) : Prop := e = .returned (.tuple #[.int .i64 ((quR s.data.toList).1 : Nat), .int .i64 ((quR s.data.toList).2 : Nat)]) ∧ Below w.heap.size w w'
theorem decV_999 (l : List UInt8) (hl : l.length = 3) (h : l.all qdg = true) : decV l ≤ 999 := by
  have h1 := decV_lt 3 l hl h
  omega
set_option maxHeartbeats 4000000 in
theorem oqual_any (s : ByteArray) (m : Int) (w : World) (hs : s.size < 4294967281) (hm : w.cell? ⟨1, 0, none⟩ = some (.int .i64 m)) : Calls Tryd.prog 21 #[.string s] w (QuPost s w) := by
  have hc := Tryd.strings_Cut s ⟨#[46]⟩ m w hs hm
  have hq := qu_cut s.data.toList
  obtain ⟨⟨ca, cb, cm⟩, hct⟩ : ∃ q, Lib.cut s.data.toList [46] = q := ⟨_, rfl⟩
  rw [show (⟨#[46]⟩ : ByteArray).data.toList = [46] from rfl, hct] at hc
  rw [hct] at hq
  have HC := Lib.hid hc
  have HM := Lib.hid hm
  clear hc hct hm
  have hq' : quR s.data.toList = if ca = [48] then quP 48 cb else if ca = [49] then quP 49 cb else (0, 71) := hq
  clear hq
  by_cases h8 : ca = [48]
  · subst h8
    rw [if_pos rfl] at hq'
    have HQ := Lib.hid hq'
    clear hq'
    by_cases hl : 3 < cb.length
    · have HR := Lib.hid (HQ.out.trans (quP_long 48 cb hl))
      have b1 : (3 : Int) < (cb.length : Int) := by omega
      clear hl
      go_enter Tryd.func21, Tryd.ntmps21
      go_wp2_with fail
      refine (HC.out).mono ?_
      rintro e w1 ⟨rfl, n1, rfl⟩
      go_wp2
      go_ret2
      unfold QuPost
      rw [HR.out]
      exact ⟨rfl, below_drewN (Below.refl _ _) n1⟩
    · have hl3 : cb.length ≤ 3 := by omega
      have b1 : (cb.length : Int) ≤ 3 := by omega
      have b0 : (0 : Int) ≤ (cb.length : Int) := Int.natCast_nonneg _
      have hr3 : cb.length ≤ 3 := hl3
      have hpd := pad3_len cb hl3
      obtain ⟨R, hR⟩ : ∃ R, List.replicate (3 - cb.length) (48 : UInt8) = R := ⟨_, rfl⟩
      have hpe : (⟨cb.toArray⟩ : ByteArray) ++ (⟨R.toArray⟩ : ByteArray) = ⟨(pad3 cb).toArray⟩ := by rw [cat_ll7, ← hR]; rfl
      have hRl : R.length = 3 - cb.length := by rw [← hR, List.length_replicate]
      have hz : ¬ 9223372036854775807 < cb.length + R.length := by omega
      have HRR := Lib.hid hR
      have hall := pad3_all cb
      have hn9 : (pad3 cb).all qdg = true → decV (pad3 cb) ≤ 999 := decV_999 (pad3 cb) hpd
      obtain ⟨Q, hQ⟩ : ∃ Q, pad3 cb = Q := ⟨_, rfl⟩
      have hdec := fun w => decimal_3 ⟨Q.toArray⟩ w (by rw [size_mk, ← hQ]; exact hpd)
      rw [hQ] at hpe hall hn9
      cases hd : cb.all qdg with
      | false =>
        have HR := Lib.hid (HQ.out.trans (quP_dig 48 cb hd))
        rw [show (⟨Q.toArray⟩ : ByteArray).data.toList = Q from rfl, numV_no Q (hall.trans hd)] at hdec
        have HD := Lib.hid hdec
        have HREP := Lib.hid hr3
        clear hdec hd hall hl hl3 hR hRl hQ hpd hn9 hr3
        go_enter Tryd.func21, Tryd.ntmps21
        go_wp2_with fail
        refine (HC.out).mono ?_
        rintro e w1 ⟨rfl, n1, rfl⟩
        go_wp2_with fail
        refine (repeat_p cb R HRR.out _ HREP.out).mono ?_
        rintro e w2 ⟨rfl, hb2⟩
        go_wp2_with fail
        refine (HD.out _).mono ?_
        rintro e w3 ⟨rfl, hb3⟩
        have hb := (below_drewN (Below.refl w.heap.size w) n1).trans (hb2.trans (hb3.mono hb2.size))
        have HB := Lib.hid hb
        clear hb hb2 hb3
        go_wp2
        go_ret2
        unfold QuPost
        rw [HR.out]
        exact ⟨rfl, HB.out⟩
      | true =>
        have hn := hn9 (hall.trans hd)
        rw [show (⟨Q.toArray⟩ : ByteArray).data.toList = Q from rfl, numV_yes Q (hall.trans hd)] at hdec
        obtain ⟨N, hN⟩ : ∃ N, decV Q = N := ⟨_, rfl⟩
        rw [hN] at hdec hn
        have hdN : decV (pad3 cb) = N := by rw [hQ, hN]
        have HD := Lib.hid hdec
        have HREP := Lib.hid hr3
        have HR := Lib.hid (HQ.out.trans (quP_yes 48 cb (Or.inl rfl) hl3 hd (by rw [hdN]; show N + 0 ≤ 1000; omega)))
        rw [hdN, show one9 48 = 0 from rfl, Nat.add_zero] at HR
        have c1 : (N : Int) ≤ 1000 := by omega
        clear hdec hd hall hl hl3 hR hRl hQ hpd hn9 hr3 hN hdN hn
        go_enter Tryd.func21, Tryd.ntmps21
        go_wp2_with fail
        refine (HC.out).mono ?_
        rintro e w1 ⟨rfl, n1, rfl⟩
        go_wp2_with fail
        refine (repeat_p cb R HRR.out _ HREP.out).mono ?_
        rintro e w2 ⟨rfl, hb2⟩
        go_wp2_with fail
        refine (HD.out _).mono ?_
        rintro e w3 ⟨rfl, hb3⟩
        have hb := (below_drewN (Below.refl w.heap.size w) n1).trans (hb2.trans (hb3.mono hb2.size))
        have HB := Lib.hid hb
        clear hb hb2 hb3
        go_wp2
        go_ret2
        unfold QuPost
        rw [HR.out]
        exact ⟨by first | rfl | simp, HB.out⟩
  · by_cases h9 : ca = [49]
    · subst h9
      rw [if_neg (by decide), if_pos rfl] at hq'
      have HQ := Lib.hid hq'
      clear hq' h8
      by_cases hl : 3 < cb.length
      · have HR := Lib.hid (HQ.out.trans (quP_long 49 cb hl))
        have b1 : (3 : Int) < (cb.length : Int) := by omega
        clear hl
        go_enter Tryd.func21, Tryd.ntmps21
        go_wp2_with fail
        refine (HC.out).mono ?_
        rintro e w1 ⟨rfl, n1, rfl⟩
        go_wp2
        go_ret2
        unfold QuPost
        rw [HR.out]
        exact ⟨rfl, below_drewN (Below.refl _ _) n1⟩
      · have hl3 : cb.length ≤ 3 := by omega
        have b1 : (cb.length : Int) ≤ 3 := by omega
        have b0 : (0 : Int) ≤ (cb.length : Int) := Int.natCast_nonneg _
        have hr3 : cb.length ≤ 3 := hl3
        have hpd := pad3_len cb hl3
        obtain ⟨R, hR⟩ : ∃ R, List.replicate (3 - cb.length) (48 : UInt8) = R := ⟨_, rfl⟩
        have hpe : (⟨cb.toArray⟩ : ByteArray) ++ (⟨R.toArray⟩ : ByteArray) = ⟨(pad3 cb).toArray⟩ := by rw [cat_ll7, ← hR]; rfl
        have hRl : R.length = 3 - cb.length := by rw [← hR, List.length_replicate]
        have hz : ¬ 9223372036854775807 < cb.length + R.length := by omega
        have HRR := Lib.hid hR
        have hall := pad3_all cb
        have hn9 : (pad3 cb).all qdg = true → decV (pad3 cb) ≤ 999 := decV_999 (pad3 cb) hpd
        obtain ⟨Q, hQ⟩ : ∃ Q, pad3 cb = Q := ⟨_, rfl⟩
        have hdec := fun w => decimal_3 ⟨Q.toArray⟩ w (by rw [size_mk, ← hQ]; exact hpd)
        rw [hQ] at hpe hall hn9
        cases hd : cb.all qdg with
        | false =>
          have HR := Lib.hid (HQ.out.trans (quP_dig 49 cb hd))
          rw [show (⟨Q.toArray⟩ : ByteArray).data.toList = Q from rfl, numV_no Q (hall.trans hd)] at hdec
          have HD := Lib.hid hdec
          have HREP := Lib.hid hr3
          clear hdec hd hall hl hl3 hR hRl hQ hpd hn9 hr3
          go_enter Tryd.func21, Tryd.ntmps21
          go_wp2_with fail
          refine (HC.out).mono ?_
          rintro e w1 ⟨rfl, n1, rfl⟩
          go_wp2_with fail
          refine (repeat_p cb R HRR.out _ HREP.out).mono ?_
          rintro e w2 ⟨rfl, hb2⟩
          go_wp2_with fail
          refine (HD.out _).mono ?_
          rintro e w3 ⟨rfl, hb3⟩
          have hb := (below_drewN (Below.refl w.heap.size w) n1).trans (hb2.trans (hb3.mono hb2.size))
          have HB := Lib.hid hb
          clear hb hb2 hb3
          go_wp2
          go_ret2
          unfold QuPost
          rw [HR.out]
          exact ⟨rfl, HB.out⟩
        | true =>
          have hn := hn9 (hall.trans hd)
          rw [show (⟨Q.toArray⟩ : ByteArray).data.toList = Q from rfl, numV_yes Q (hall.trans hd)] at hdec
          obtain ⟨N, hN⟩ : ∃ N, decV Q = N := ⟨_, rfl⟩
          rw [hN] at hdec hn
          have hdN : decV (pad3 cb) = N := by rw [hQ, hN]
          have HD := Lib.hid hdec
          have HREP := Lib.hid hr3
          have n0 : (0 : Int) ≤ (N : Int) := Int.natCast_nonneg _
          have n1 : (N : Int) ≤ 999 := by omega
          by_cases hbig : 1000 < N + 1000
          · have HR := Lib.hid (HQ.out.trans (quP_big 49 cb (by rw [hdN]; show 1000 < N + 1000; omega)))
            have c1 : (1000 : Int) < (N : Int) + 1000 := by omega
            clear hdec hd hall hl hl3 hR hRl hQ hpd hn9 hr3 hN hdN hn hbig
            go_enter Tryd.func21, Tryd.ntmps21
            go_wp2_with fail
            refine (HC.out).mono ?_
            rintro e w1 ⟨rfl, n1, rfl⟩
            go_wp2_with fail
            refine (repeat_p cb R HRR.out _ HREP.out).mono ?_
            rintro e w2 ⟨rfl, hb2⟩
            go_wp2_with fail
            refine (HD.out _).mono ?_
            rintro e w3 ⟨rfl, hb3⟩
            have hb := (below_drewN (Below.refl w.heap.size w) n1).trans (hb2.trans (hb3.mono hb2.size))
            have HB := Lib.hid hb
            clear hb hb2 hb3
            go_wp2
            go_ret2
            unfold QuPost
            rw [HR.out]
            exact ⟨by first | rfl | simp, HB.out⟩
          · have HR := Lib.hid (HQ.out.trans (quP_yes 49 cb (Or.inr rfl) hl3 hd (by rw [hdN]; show N + 1000 ≤ 1000; omega)))
            rw [hdN, show one9 49 = 1000 from rfl] at HR
            have c1 : (N : Int) + 1000 ≤ 1000 := by omega
            have c2 : decide ((1000 : Int) < (N : Int) + 1000) = false := decide_eq_false (by omega)
            clear hdec hd hall hl hl3 hR hRl hQ hpd hn9 hr3 hN hdN hn hbig
            go_enter Tryd.func21, Tryd.ntmps21
            go_wp2_with fail
            refine (HC.out).mono ?_
            rintro e w1 ⟨rfl, n1, rfl⟩
            go_wp2_with fail
            refine (repeat_p cb R HRR.out _ HREP.out).mono ?_
            rintro e w2 ⟨rfl, hb2⟩
            go_wp2_with fail
            refine (HD.out _).mono ?_
            rintro e w3 ⟨rfl, hb3⟩
            have hb := (below_drewN (Below.refl w.heap.size w) n1).trans (hb2.trans (hb3.mono hb2.size))
            have HB := Lib.hid hb
            clear hb hb2 hb3
            go_wp2
            go_ret2
            unfold QuPost
            rw [HR.out]
            exact ⟨by first | rfl | simp, HB.out⟩
    · rw [if_neg h8, if_neg h9] at hq'
      have HQ := Lib.hid hq'
      have b8 : (ca == [48]) = false := beq_false_of_ne h8
      have b9 : (ca == [49]) = false := beq_false_of_ne h9
      clear hq'
      go_enter Tryd.func21, Tryd.ntmps21
      go_wp2_with fail
      refine (HC.out).mono ?_
      rintro e w1 ⟨rfl, n1, rfl⟩
      go_wp2
      go_ret2
      unfold QuPost
      rw [HQ.out]
      exact ⟨rfl, below_drewN (Below.refl _ _) n1⟩
end Go.Proofs.YthnniiakmjonjaaDoor
