/- The walks of turnpikelaw03.BaseSums, BaseAccepts and BaseKeys: each returns true; nothing that was there turns. Conditions: at most 2^21 bytes. -/
import Derived.Test.YtpehogkgiikjmaaAcc
import Derived.Test.YtpehogkgiikjmaaFnv
namespace Go.Proofs.Ytpehogkgiikjmaa
open Go.RowKit
set_option linter.unusedSimpArgs false
set_option linter.unusedVariables false
theorem le_2140 (n : Nat) (h : n ≤ 2097152) : n ≤ 1099511627776 := by omega
theorem le_2147 (n : Nat) (h : n ≤ 2097152) : n ≤ 140737488351232 := by omega
theorem le_2122 (n : Nat) (h : n ≤ 2097152) : n ≤ 4194304 := by omega
set_option maxHeartbeats 400000 in
theorem baseSums_any (s : ByteArray) (w : World) (hs : s.size ≤ 2097152) : Calls Try.prog 11 #[.string s] w fun e w' => e = .returned (.bool true) ∧ Below w.heap.size w w' := by
  have h40 := le_2140 _ hs
  have h47 := le_2147 _ hs
  go_enter Try.func11, Try.ntmps11
  go_wp2_with fail
  refine (awake_any _).mono ?_
  rintro e w1 ⟨rfl, hb1⟩
  go_wp2_with fail
  refine (fnv_any _ _ h47).mono ?_
  rintro e w2 ⟨rfl, rfl⟩
  go_wp2_with fail
  refine (rfnv_any _ _ h47).mono ?_
  rintro e w3 ⟨rfl, rfl⟩
  go_wp2_with fail
  refine (sha_any _ _ h40).mono ?_
  rintro e w4 ⟨rfl, hb4⟩
  go_wp2_with fail
  refine (rsha_any _ _ h40).mono ?_
  rintro e w5 ⟨rfl, hb5⟩
  go_wp2
  go_ret
  have h4 := hb1.trans (hb4.mono hb1.size)
  exact ⟨rfl, h4.trans (hb5.mono h4.size)⟩
set_option maxHeartbeats 400000 in
theorem baseAccepts_any (s : ByteArray) (w : World) (hs : s.size ≤ 2097152) : Calls Try.prog 12 #[.string s] w fun e w' => e = .returned (.bool true) ∧ Below w.heap.size w w' := by
  have h22 := le_2122 _ hs
  go_enter Try.func12, Try.ntmps12
  go_wp2_with fail
  refine (accept_any _ _ h22).mono ?_
  rintro e w1 ⟨rfl, hb1⟩
  go_wp2_with fail
  refine (raccept_any _ _ h22).mono ?_
  rintro e w2 ⟨rfl, hb2⟩
  go_wp2_with fail
  refine (awake_any _).mono ?_
  rintro e w3 ⟨rfl, hb3⟩
  go_wp2
  go_ret
  have h2 := hb1.trans (hb2.mono hb1.size)
  exact ⟨rfl, h2.trans (hb3.mono h2.size)⟩
theorem accP_enc (l : List UInt8) : accP (enc l) = if l.length = 16 then (enc (shaR (enc l ++ sufL)), 0) else ([], 32) := by
  unfold accP
  rw [decR_enc]
  by_cases h : l.length = 16
  · rw [if_pos h, if_pos ⟨rfl, h⟩]
  · rw [if_neg h, if_neg (fun x => h x.2)]
theorem enc20 (l : List UInt8) (h : l.length = 20) : (⟨(enc l).toArray⟩ : ByteArray).size ≤ 140737488351232 := by rw [mk_size]; have := enc_len l; omega
set_option maxHeartbeats 1000000 in
theorem baseKeys_any (s : ByteArray) (w : World) (hs : s.size ≤ 1048576) : Calls Try.prog 13 #[.string s] w fun e w' => e = .returned (.bool true) ∧ Below w.heap.size w w' := by
  have h22 : s.size ≤ 4194304 := by omega
  have he22 : (⟨(enc s.data.toList).toArray⟩ : ByteArray).size ≤ 4194304 := by rw [mk_size]; have := enc_len s.data.toList; rw [size_list] at this; omega
  have hacc := accP_enc s.data.toList
  have hl := size_list s
  rw [hl] at hacc
  clear hl
  go_enter Try.func13, Try.ntmps13
  go_wp2_with fail
  refine (encode_any _ _ h22).mono ?_
  rintro e w1 ⟨rfl, hb1⟩
  go_wp2_with fail
  refine (accept_any _ _ he22).mono ?_
  rintro e w2 ⟨rfl, hb2⟩
  have h2 := hb1.trans (hb2.mono hb1.size)
  by_cases h16 : s.size = 16
  · rw [if_pos h16] at hacc
    rw [show (⟨(enc s.data.toList).toArray⟩ : ByteArray).data.toList = enc s.data.toList from rfl, hacc]
    obtain ⟨k, hk⟩ : ∃ k, shaR (enc s.data.toList ++ sufL) = k := ⟨_, rfl⟩
    have hk20 : k.length = 20 := by rw [← hk]; exact shaR_len _
    rw [hk]
    have h47 := enc20 k hk20
    have hde := decR_enc k
    have hks : (⟨k.toArray⟩ : ByteArray).size = 20 := (mk_size k).trans hk20
    have hkl : ((k.length : Int) == 20) = true := by rw [hk20]; rfl
    have HDE := Lib.hid hde
    clear hacc hk hk20 hde
    go_wp2_with fail
    refine (decode_any _ _ h47).mono ?_
    rintro e w3 ⟨rfl, hb3⟩
    rw [show (⟨(enc k).toArray⟩ : ByteArray).data.toList = enc k from rfl, HDE.out]
    go_wp2
    go_ret
    exact ⟨rfl, h2.trans (hb3.mono h2.size)⟩
  · rw [if_neg h16] at hacc
    rw [show (⟨(enc s.data.toList).toArray⟩ : ByteArray).data.toList = enc s.data.toList from rfl, hacc]
    have hne : ((s.size : Int) != 16) = true := by simp; omega
    clear hacc h16
    go_wp2_with fail
    refine (awake_any _).mono ?_
    rintro e w3 ⟨rfl, hb3⟩
    go_wp2
    go_ret
    exact ⟨rfl, h2.trans (hb3.mono h2.size)⟩
end Go.Proofs.Ytpehogkgiikjmaa
