/- The walks of turnpikelaw03.BaseBack and BaseOnce: both return true; nothing that was there turns. Conditions: at most 2^21 bytes. -/
import Derived.Test.YtpehogkgiikjmaaLawEncodes
import Derived.Test.YtpehogkgiikjmaaDec
import Derived.Test.YtpehogkgiikjmaaUnhex
import Derived.Test.YtpehogkgiikjmaaBackP
namespace Go.Proofs.Ytpehogkgiikjmaa
open Go.RowKit
set_option linter.unusedSimpArgs false
set_option linter.unusedVariables false
theorem enc_len (l : List UInt8) : (enc l).length ≤ 2 * l.length + 4 := by
  induction l using enc.induct with
  | case1 a b c r ih => simp only [enc, List.length_cons]; omega
  | case2 a b => simp [enc]
  | case3 a => simp [enc]
  | case4 => simp [enc]
theorem dlen_step (acc : List UInt8) (vs : List Nat) (fl p : Nat) (c : UInt8) {x : List UInt8 × List Nat × Nat} (h : dstep acc vs fl p c = some x) : x.1.length ≤ acc.length + 3 := by
  have hgb : ∀ l, (gb l).length ≤ 3 := by intro l; unfold gb; split <;> simp
  have hfin : ∀ v f, (fin acc v f p).1.length ≤ acc.length + 3 := by
    intro v f; unfold fin; split
    · have := hgb v; simp; omega
    · simp
  unfold dstep at h
  split at h
  · cases h
  · split at h
    · split at h
      · injection h with h; rw [← h]; exact hfin _ _
      · cases h
    · split at h
      · injection h with h; rw [← h]; exact hfin _ _
      · split at h
        · injection h with h; rw [← h]; exact hfin _ _
        · cases h
theorem mk_size (l : List UInt8) : (⟨l.toArray⟩ : ByteArray).size = l.length := by rw [← size_list]
set_option maxHeartbeats 400000 in
theorem baseBack_any (s : ByteArray) (w : World) (hs : s.size ≤ 2097152) : Calls Try.prog 8 #[.string s] w fun e w' => e = .returned (.bool true) ∧ Below w.heap.size w w' := by
  have hl := size_list s
  have he : (⟨(enc s.data.toList).toArray⟩ : ByteArray).size ≤ 140737488351232 := by rw [mk_size]; have := enc_len s.data.toList; omega
  have hh : (⟨(hexL s.data.toList).toArray⟩ : ByteArray).size ≤ 140737488351232 := by rw [mk_size, hexL_len]; omega
  have e1 := decR_enc s.data.toList
  have e2 := unR_hexL s.data.toList
  have E1 := Lib.hid e1; have E2 := Lib.hid e2; clear e1 e2 hl
  go_enter Try.func8, Try.ntmps8
  go_wp2_with fail
  refine (encode_any _ _ (by omega)).mono ?_
  rintro e w1 ⟨rfl, hb1⟩
  go_wp2_with fail
  refine (decode_any _ _ he).mono ?_
  rintro e w2 ⟨rfl, hb2⟩
  rw [E1.out]
  go_wp2_with fail
  refine (hex_any _ _ (by omega)).mono ?_
  rintro e w3 ⟨rfl, hb3⟩
  go_wp2_with fail
  refine (unhex_any _ _ hh).mono ?_
  rintro e w4 ⟨rfl, hb4⟩
  rw [E2.out]
  go_wp2_with fail
  refine (awake_any _).mono ?_
  rintro e w5 ⟨rfl, hb5⟩
  go_wp2
  go_ret
  have h2 := hb1.trans (hb2.mono hb1.size)
  have h3 := h2.trans (hb3.mono h2.size)
  have h4 := h3.trans (hb4.mono h3.size)
  exact ⟨rfl, h4.trans (hb5.mono h4.size)⟩
theorem enc_ge (l : List UInt8) : l.length ≤ (enc l).length := by
  induction l using enc.induct with
  | case1 a b c r ih => simp only [enc, List.length_cons]; omega
  | case2 a b => simp [enc]
  | case3 a => simp [enc]
  | case4 => simp [enc]
set_option maxHeartbeats 1000000 in
theorem baseOnce_any (s t : ByteArray) (w : World) (hs : s.size ≤ 2097152) (ht : t.size ≤ 2097152) : Calls Try.prog 9 #[.string s, .string t] w fun e w' => e = .returned (.bool true) ∧ Below w.heap.size w w' := by
  have hsl := size_list s
  have htl := size_list t
  have k1 := enc_decR s.data.toList
  have k2 := unR_cases t.data.toList
  have K1 := Lib.hid k1; have K2 := Lib.hid k2; clear k1 k2
  by_cases h1 : (decR s.data.toList).2.2 = 0
  · have q1 := K1.out h1
    have l1 : (⟨(decR s.data.toList).1.toArray⟩ : ByteArray).size ≤ 4194304 := by
      rw [mk_size]; have := enc_ge (decR s.data.toList).1; rw [q1] at this; omega
    have i1 : ((((decR s.data.toList).2.2 : Nat) : Int) == 0) = true := by rw [h1]; rfl
    have n1 : (((⟨(enc (decR s.data.toList).1).toArray⟩ : ByteArray).toList) != s.toList) = false := by rw [q1, str_eq]; simp
    have Q1 := Lib.hid q1; have H1 := Lib.hid h1; clear q1 h1
    by_cases h2 : (unR t.data.toList).2.2 = 0
    · have q2 := K2.out h2
      have l2 : (⟨(unR t.data.toList).1.toArray⟩ : ByteArray).size ≤ 4194304 := by
        rw [mk_size]; have := hexL_len (unR t.data.toList).1; rw [q2] at this; omega
      have i2 : ((((unR t.data.toList).2.2 : Nat) : Int) == 0) = true := by rw [h2]; rfl
      have Q2 := Lib.hid q2; have H2 := Lib.hid h2; have HS := Lib.hid hsl; have HT := Lib.hid htl; clear q2 h2 hsl htl
      go_enter Try.func9, Try.ntmps9
      go_wp2_with fail
      refine (decode_any _ _ (by omega)).mono ?_
      rintro e w1 ⟨rfl, hb1⟩
      go_wp2_with fail
      refine (unhex_any _ _ (by omega)).mono ?_
      rintro e w2 ⟨rfl, hb2⟩
      go_wp2_with fail
      refine (encode_any _ _ l1).mono ?_
      rintro e w3 ⟨rfl, hb3⟩
      rw [show (⟨(decR s.data.toList).1.toArray⟩ : ByteArray).data.toList = (decR s.data.toList).1 from rfl, Q1.out, str_eq]
      go_wp2_with fail
      refine (hex_any _ _ l2).mono ?_
      rintro e w4 ⟨rfl, hb4⟩
      rw [show (⟨(unR t.data.toList).1.toArray⟩ : ByteArray).data.toList = (unR t.data.toList).1 from rfl, Q2.out, str_eq]
      go_wp2_with fail
      refine (awake_any _).mono ?_
      rintro e w5 ⟨rfl, hb5⟩
      go_wp2
      go_ret
      have h2 := hb1.trans (hb2.mono hb1.size)
      have h3 := h2.trans (hb3.mono h2.size)
      have h4 := h3.trans (hb4.mono h3.size)
      exact ⟨rfl, h4.trans (hb5.mono h4.size)⟩
    · have i2 : ((((unR t.data.toList).2.2 : Nat) : Int) == 0) = false := by rw [beq_eq_false_iff_ne]; omega
      have H2 := Lib.hid h2; have HS := Lib.hid hsl; have HT := Lib.hid htl; clear h2 hsl htl
      go_enter Try.func9, Try.ntmps9
      go_wp2_with fail
      refine (decode_any _ _ (by omega)).mono ?_
      rintro e w1 ⟨rfl, hb1⟩
      go_wp2_with fail
      refine (unhex_any _ _ (by omega)).mono ?_
      rintro e w2 ⟨rfl, hb2⟩
      go_wp2_with fail
      refine (encode_any _ _ l1).mono ?_
      rintro e w3 ⟨rfl, hb3⟩
      rw [show (⟨(decR s.data.toList).1.toArray⟩ : ByteArray).data.toList = (decR s.data.toList).1 from rfl, Q1.out, str_eq]
      go_wp2_with fail
      refine (awake_any _).mono ?_
      rintro e w5 ⟨rfl, hb5⟩
      go_wp2
      go_ret
      have h2 := hb1.trans (hb2.mono hb1.size)
      have h3 := h2.trans (hb3.mono h2.size)
      exact ⟨rfl, h3.trans (hb5.mono h3.size)⟩
  · have i1 : ((((decR s.data.toList).2.2 : Nat) : Int) == 0) = false := by rw [beq_eq_false_iff_ne]; omega
    have H1 := Lib.hid h1; clear h1
    by_cases h2 : (unR t.data.toList).2.2 = 0
    · have q2 := K2.out h2
      have l2 : (⟨(unR t.data.toList).1.toArray⟩ : ByteArray).size ≤ 4194304 := by
        rw [mk_size]; have := hexL_len (unR t.data.toList).1; rw [q2] at this; omega
      have i2 : ((((unR t.data.toList).2.2 : Nat) : Int) == 0) = true := by rw [h2]; rfl
      have Q2 := Lib.hid q2; have H2 := Lib.hid h2; have HS := Lib.hid hsl; have HT := Lib.hid htl; clear q2 h2 hsl htl
      go_enter Try.func9, Try.ntmps9
      go_wp2_with fail
      refine (decode_any _ _ (by omega)).mono ?_
      rintro e w1 ⟨rfl, hb1⟩
      go_wp2_with fail
      refine (unhex_any _ _ (by omega)).mono ?_
      rintro e w2 ⟨rfl, hb2⟩
      go_wp2_with fail
      refine (hex_any _ _ l2).mono ?_
      rintro e w4 ⟨rfl, hb4⟩
      rw [show (⟨(unR t.data.toList).1.toArray⟩ : ByteArray).data.toList = (unR t.data.toList).1 from rfl, Q2.out, str_eq]
      go_wp2_with fail
      refine (awake_any _).mono ?_
      rintro e w5 ⟨rfl, hb5⟩
      go_wp2
      go_ret
      have h2 := hb1.trans (hb2.mono hb1.size)
      have h4 := h2.trans (hb4.mono h2.size)
      exact ⟨rfl, h4.trans (hb5.mono h4.size)⟩
    · have i2 : ((((unR t.data.toList).2.2 : Nat) : Int) == 0) = false := by rw [beq_eq_false_iff_ne]; omega
      have H2 := Lib.hid h2; have HS := Lib.hid hsl; have HT := Lib.hid htl; clear h2 hsl htl
      go_enter Try.func9, Try.ntmps9
      go_wp2_with fail
      refine (decode_any _ _ (by omega)).mono ?_
      rintro e w1 ⟨rfl, hb1⟩
      go_wp2_with fail
      refine (unhex_any _ _ (by omega)).mono ?_
      rintro e w2 ⟨rfl, hb2⟩
      go_wp2_with fail
      refine (awake_any _).mono ?_
      rintro e w5 ⟨rfl, hb5⟩
      go_wp2
      go_ret
      have h2 := hb1.trans (hb2.mono hb1.size)
      exact ⟨rfl, h2.trans (hb5.mono h2.size)⟩
end Go.Proofs.Ytpehogkgiikjmaa
