/- The walk of base.Accept: it returns the plain function accP. Conditions: at most 2^22 bytes. -/
import Derived.Test.YtdlpbpikhmciaaaGreatDoorPk21
import Derived.Test.YtdlpbpikhmciaaaGreatDoorPa23
namespace Go.Proofs.YtdlpbpikhmciaaaGreatDoor
open Go.RowKit
set_option linter.unusedSimpArgs false
set_option linter.unusedVariables false
def sufL : List UInt8 := [50, 53, 56, 69, 65, 70, 65, 53, 45, 69, 57, 49, 52, 45, 52, 55, 68, 65, 45, 57, 53, 67, 65, 45, 67, 53, 65, 66, 48, 68, 67, 56, 53, 66, 49, 49]
/-- The answer to a handshake's key. -/
def accP (l : List UInt8) : List UInt8 × Nat := if (decR l).2.2 = 0 ∧ (decR l).1.length = 16 then (enc (shaR (l ++ sufL)), 0) else ([], 32)
theorem acc_size (l : List UInt8) : (⟨l.toArray⟩ : ByteArray).size = l.length := by rw [← size_list]
theorem shaR_len (l : List UInt8) : (shaR l).length = 20 := outN_len _ 5
theorem le_4722 (n : Nat) (h : n ≤ 4194304) : n ≤ 140737488351232 := by omega
theorem cat_fits (n : Nat) (h : n ≤ 4194304) : ¬ 9223372036854775807 < n + 36 := by omega
theorem cat_40 (n : Nat) (h : n ≤ 4194304) : n + 36 ≤ 1099511627776 := by omega
set_option maxRecDepth 100000 in
set_option maxHeartbeats 4000000 in
theorem accept_any (s : ByteArray) (w : World) (hs : s.size ≤ 4194304) :
    Calls Tryz.prog 96 #[.string s] w fun e w' => e = .returned (.tuple #[.string ⟨(accP s.data.toList).1.toArray⟩, .int .i64 ((accP s.data.toList).2 : Nat)]) ∧ Below w.heap.size w w' := by
  have h47 := le_4722 s.size hs
  have hcat := cat_fits s.size hs
  have hsz2 : (s ++ ⟨#[50, 53, 56, 69, 65, 70, 65, 53, 45, 69, 57, 49, 52, 45, 52, 55, 68, 65, 45, 57, 53, 67, 65, 45, 67, 53, 65, 66, 48, 68, 67, 56, 53, 66, 49, 49]⟩ : ByteArray).size ≤ 1099511627776 := by rw [ByteArray.size_append]; exact cat_40 s.size hs
  have hdl : (s ++ ⟨#[50, 53, 56, 69, 65, 70, 65, 53, 45, 69, 57, 49, 52, 45, 52, 55, 68, 65, 45, 57, 53, 67, 65, 45, 67, 53, 65, 66, 48, 68, 67, 56, 53, 66, 49, 49]⟩ : ByteArray).data.toList = s.data.toList ++ sufL := by simp [sufL]
  have HDL := Lib.hid hdl; clear hdl
  go_enter Tryz.func96, Tryz.ntmps96
  go_wp2_with fail
  refine (decode_any _ _ h47).mono ?_
  rintro e w1 ⟨rfl, hb1⟩
  obtain ⟨⟨r, at_, no⟩, hd⟩ : ∃ q, decR s.data.toList = q := ⟨_, rfl⟩
  rw [hd]
  have hacc : accP s.data.toList = if no = 0 ∧ r.length = 16 then (enc (shaR (s.data.toList ++ sufL)), 0) else ([], 32) := by unfold accP; rw [hd]
  clear hd
  have hrl : (⟨r.toArray⟩ : ByteArray).size = r.length := acc_size r
  by_cases c1 : no = 0
  · subst c1
    by_cases c2 : r.length = 16
    · have hr16 : (⟨r.toArray⟩ : ByteArray).size = 16 := hrl.trans c2
      rw [if_pos ⟨rfl, c2⟩] at hacc
      have HACC := Lib.hid hacc; clear hacc c2 hrl
      go_wp2_with fail
      refine (sha_any _ _ hsz2).mono ?_
      rintro e w2 ⟨rfl, hb2⟩
      have h20 : (⟨(shaR (s ++ ⟨#[50, 53, 56, 69, 65, 70, 65, 53, 45, 69, 57, 49, 52, 45, 52, 55, 68, 65, 45, 57, 53, 67, 65, 45, 67, 53, 65, 66, 48, 68, 67, 56, 53, 66, 49, 49]⟩ : ByteArray).data.toList).toArray⟩ : ByteArray).size ≤ 4194304 := by rw [acc_size, shaR_len]; decide
      go_wp2_with fail
      refine (encode_any _ _ h20).mono ?_
      rintro e w3 ⟨rfl, hb3⟩
      go_wp2
      go_ret2
      have h2 := hb1.trans (hb2.mono hb1.size)
      refine ⟨?_, h2.trans (hb3.mono h2.size)⟩
      rw [HACC.out]
      rfl
    · have hne : ¬ ((⟨r.toArray⟩ : ByteArray).size : Int) = 16 := by rw [hrl]; omega
      have hnb : (((⟨r.toArray⟩ : ByteArray).size : Int) != 16) = true := by simpa using hne
      have hnc : ((r.length : Int) != 16) = true := by simp; omega
      rw [if_neg (fun h => c2 h.2)] at hacc
      have HACC := Lib.hid hacc; clear hacc c2 hrl hne
      go_wp2
      go_ret2
      refine ⟨?_, hb1⟩
      rw [HACC.out]
      rfl
  · have hnb : ((no : Int) != 0) = true := by simp; omega
    rw [if_neg (fun h => c1 h.1)] at hacc
    have HACC := Lib.hid hacc; clear hacc c1 hrl
    go_wp2
    go_ret2
    refine ⟨?_, hb1⟩
    rw [HACC.out]
    rfl
end Go.Proofs.YtdlpbpikhmciaaaGreatDoor
