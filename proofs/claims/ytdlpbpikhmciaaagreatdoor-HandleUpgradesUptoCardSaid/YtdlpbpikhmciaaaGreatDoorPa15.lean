/- The reason of every status: message.Reason, ref12.Digits, ref12.Reason (four texts in one). No conditions. -/
import Derived.Test.YtdlpbpikhmciaaaGreatDoorPk13
import Derived.Test.YtdlpbpikhmciaaaGreatDoorPa14
import Derived.Deep.DeepCutAuto
namespace Go.Proofs.YtdlpbpikhmciaaaGreatDoor
open Go.RowKit
set_option linter.unusedSimpArgs false
set_option linter.unusedVariables false
set_option maxRecDepth 1000000
def tabS : List (Nat × List UInt8) := [(500, [73, 110, 116, 101, 114, 110, 97, 108, 32, 83, 101, 114, 118, 101, 114, 32, 69, 114, 114, 111, 114]), (501, [78, 111, 116, 32, 73, 109, 112, 108, 101, 109, 101, 110, 116, 101, 100]), (502, [66, 97, 100, 32, 71, 97, 116, 101, 119, 97, 121]), (503, [83, 101, 114, 118, 105, 99, 101, 32, 85, 110, 97, 118, 97, 105, 108, 97, 98, 108, 101]), (504, [71, 97, 116, 101, 119, 97, 121, 32, 84, 105, 109, 101, 111, 117, 116]), (505, [72, 84, 84, 80, 32, 86, 101, 114, 115, 105, 111, 110, 32, 78, 111, 116, 32, 83, 117, 112, 112, 111, 114, 116, 101, 100])]
def tabW : List (Nat × List UInt8) := [(400, [66, 97, 100, 32, 82, 101, 113, 117, 101, 115, 116]), (401, [85, 110, 97, 117, 116, 104, 111, 114, 105, 122, 101, 100]), (403, [70, 111, 114, 98, 105, 100, 100, 101, 110]), (404, [78, 111, 116, 32, 70, 111, 117, 110, 100]), (405, [77, 101, 116, 104, 111, 100, 32, 78, 111, 116, 32, 65, 108, 108, 111, 119, 101, 100]), (406, [78, 111, 116, 32, 65, 99, 99, 101, 112, 116, 97, 98, 108, 101]), (408, [82, 101, 113, 117, 101, 115, 116, 32, 84, 105, 109, 101, 111, 117, 116]), (411, [76, 101, 110, 103, 116, 104, 32, 82, 101, 113, 117, 105, 114, 101, 100]), (412, [80, 114, 101, 99, 111, 110, 100, 105, 116, 105, 111, 110, 32, 70, 97, 105, 108, 101, 100]), (413, [67, 111, 110, 116, 101, 110, 116, 32, 84, 111, 111, 32, 76, 97, 114, 103, 101]), (414, [85, 82, 73, 32, 84, 111, 111, 32, 76, 111, 110, 103]), (415, [85, 110, 115, 117, 112, 112, 111, 114, 116, 101, 100, 32, 77, 101, 100, 105, 97, 32, 84, 121, 112, 101]), (416, [82, 97, 110, 103, 101, 32, 78, 111, 116, 32, 83, 97, 116, 105, 115, 102, 105, 97, 98, 108, 101]), (417, [69, 120, 112, 101, 99, 116, 97, 116, 105, 111, 110, 32, 70, 97, 105, 108, 101, 100]), (421, [77, 105, 115, 100, 105, 114, 101, 99, 116, 101, 100, 32, 82, 101, 113, 117, 101, 115, 116]), (422, [85, 110, 112, 114, 111, 99, 101, 115, 115, 97, 98, 108, 101, 32, 67, 111, 110, 116, 101, 110, 116]), (426, [85, 112, 103, 114, 97, 100, 101, 32, 82, 101, 113, 117, 105, 114, 101, 100]), (428, [80, 114, 101, 99, 111, 110, 100, 105, 116, 105, 111, 110, 32, 82, 101, 113, 117, 105, 114, 101, 100]), (429, [84, 111, 111, 32, 77, 97, 110, 121, 32, 82, 101, 113, 117, 101, 115, 116, 115]), (431, [82, 101, 113, 117, 101, 115, 116, 32, 72, 101, 97, 100, 101, 114, 32, 70, 105, 101, 108, 100, 115, 32, 84, 111, 111, 32, 76, 97, 114, 103, 101])]
def tabO : List (Nat × List UInt8) := [(100, [67, 111, 110, 116, 105, 110, 117, 101]), (101, [83, 119, 105, 116, 99, 104, 105, 110, 103, 32, 80, 114, 111, 116, 111, 99, 111, 108, 115]), (200, [79, 75]), (201, [67, 114, 101, 97, 116, 101, 100]), (202, [65, 99, 99, 101, 112, 116, 101, 100]), (204, [78, 111, 32, 67, 111, 110, 116, 101, 110, 116]), (206, [80, 97, 114, 116, 105, 97, 108, 32, 67, 111, 110, 116, 101, 110, 116]), (301, [77, 111, 118, 101, 100, 32, 80, 101, 114, 109, 97, 110, 101, 110, 116, 108, 121]), (302, [70, 111, 117, 110, 100]), (303, [83, 101, 101, 32, 79, 116, 104, 101, 114]), (304, [78, 111, 116, 32, 77, 111, 100, 105, 102, 105, 101, 100]), (307, [84, 101, 109, 112, 111, 114, 97, 114, 121, 32, 82, 101, 100, 105, 114, 101, 99, 116]), (308, [80, 101, 114, 109, 97, 110, 101, 110, 116, 32, 82, 101, 100, 105, 114, 101, 99, 116])]
def lkI (n : Int) : List (Nat × List UInt8) → List UInt8
  | [] => []
  | (k, t) :: r => if n = (k : Int) then t else lkI n r
def rsnS (n : Int) : List UInt8 := lkI n tabS
def rsnW (n : Int) : List UInt8 := lkI n (tabW ++ tabS)
def rsn (n : Int) : List UInt8 := lkI n (tabO ++ (tabW ++ tabS))
theorem lkI_app (n : Int) : ∀ (a b : List (Nat × List UInt8)), (∀ p ∈ a, n ≠ (p.1 : Int)) → lkI n (a ++ b) = lkI n b
  | [], b, _ => rfl
  | (k, t) :: r, b, h => by
    have : n ≠ (k : Int) := h (k, t) (by simp)
    show (if n = (k : Int) then t else lkI n (r ++ b)) = lkI n b
    rw [if_neg this]
    exact lkI_app n r b (fun p hp => h p (by simp [hp]))
set_option maxHeartbeats 4000000 in
theorem oserver_any (n : Int) (w : World) : Calls Tryz.prog 106 #[.int .i64 n] w fun e w' => e = .returned (.string ⟨(rsnS n).toArray⟩) ∧ Below w.heap.size w w' := by
  by_cases h500 : n = 500
  · subst h500
    have HR := Lib.hid (show rsnS 500 = [73, 110, 116, 101, 114, 110, 97, 108, 32, 83, 101, 114, 118, 101, 114, 32, 69, 114, 114, 111, 114] by kernel_rfl)
    go_enter Tryz.func106, Tryz.ntmps106
    go_wp2
    go_ret
    rw [HR.out]
    exact ⟨rfl, Below.refl _ _⟩
  have b500 : (n == 500) = false := by simpa using h500
  by_cases h501 : n = 501
  · subst h501
    have HR := Lib.hid (show rsnS 501 = [78, 111, 116, 32, 73, 109, 112, 108, 101, 109, 101, 110, 116, 101, 100] by kernel_rfl)
    go_enter Tryz.func106, Tryz.ntmps106
    go_wp2
    go_ret
    rw [HR.out]
    exact ⟨rfl, Below.refl _ _⟩
  have b501 : (n == 501) = false := by simpa using h501
  by_cases h502 : n = 502
  · subst h502
    have HR := Lib.hid (show rsnS 502 = [66, 97, 100, 32, 71, 97, 116, 101, 119, 97, 121] by kernel_rfl)
    go_enter Tryz.func106, Tryz.ntmps106
    go_wp2
    go_ret
    rw [HR.out]
    exact ⟨rfl, Below.refl _ _⟩
  have b502 : (n == 502) = false := by simpa using h502
  by_cases h503 : n = 503
  · subst h503
    have HR := Lib.hid (show rsnS 503 = [83, 101, 114, 118, 105, 99, 101, 32, 85, 110, 97, 118, 97, 105, 108, 97, 98, 108, 101] by kernel_rfl)
    go_enter Tryz.func106, Tryz.ntmps106
    go_wp2
    go_ret
    rw [HR.out]
    exact ⟨rfl, Below.refl _ _⟩
  have b503 : (n == 503) = false := by simpa using h503
  by_cases h504 : n = 504
  · subst h504
    have HR := Lib.hid (show rsnS 504 = [71, 97, 116, 101, 119, 97, 121, 32, 84, 105, 109, 101, 111, 117, 116] by kernel_rfl)
    go_enter Tryz.func106, Tryz.ntmps106
    go_wp2
    go_ret
    rw [HR.out]
    exact ⟨rfl, Below.refl _ _⟩
  have b504 : (n == 504) = false := by simpa using h504
  by_cases h505 : n = 505
  · subst h505
    have HR := Lib.hid (show rsnS 505 = [72, 84, 84, 80, 32, 86, 101, 114, 115, 105, 111, 110, 32, 78, 111, 116, 32, 83, 117, 112, 112, 111, 114, 116, 101, 100] by kernel_rfl)
    go_enter Tryz.func106, Tryz.ntmps106
    go_wp2
    go_ret
    rw [HR.out]
    exact ⟨rfl, Below.refl _ _⟩
  have b505 : (n == 505) = false := by simpa using h505
  have hE : rsnS n = [] := by have := lkI_app n tabS [] (by intro p hp; simp only [tabS, List.mem_cons, List.not_mem_nil, or_false] at hp; rcases hp with rfl | rfl | rfl | rfl | rfl | rfl <;> assumption); rwa [List.append_nil] at this
  rw [hE]
  clear hE h500 h501 h502 h503 h504 h505
  go_enter Tryz.func106, Tryz.ntmps106
  go_wp2
  go_ret
  exact ⟨rfl, Below.refl _ _⟩
set_option maxHeartbeats 4000000 in
theorem owrong_any (n : Int) (w : World) : Calls Tryz.prog 73 #[.int .i64 n] w fun e w' => e = .returned (.string ⟨(rsnW n).toArray⟩) ∧ Below w.heap.size w w' := by
  by_cases h400 : n = 400
  · subst h400
    have HR := Lib.hid (show rsnW 400 = [66, 97, 100, 32, 82, 101, 113, 117, 101, 115, 116] by kernel_rfl)
    go_enter Tryz.func73, Tryz.ntmps73
    go_wp2
    go_ret
    rw [HR.out]
    exact ⟨rfl, Below.refl _ _⟩
  have b400 : (n == 400) = false := by simpa using h400
  by_cases h401 : n = 401
  · subst h401
    have HR := Lib.hid (show rsnW 401 = [85, 110, 97, 117, 116, 104, 111, 114, 105, 122, 101, 100] by kernel_rfl)
    go_enter Tryz.func73, Tryz.ntmps73
    go_wp2
    go_ret
    rw [HR.out]
    exact ⟨rfl, Below.refl _ _⟩
  have b401 : (n == 401) = false := by simpa using h401
  by_cases h403 : n = 403
  · subst h403
    have HR := Lib.hid (show rsnW 403 = [70, 111, 114, 98, 105, 100, 100, 101, 110] by kernel_rfl)
    go_enter Tryz.func73, Tryz.ntmps73
    go_wp2
    go_ret
    rw [HR.out]
    exact ⟨rfl, Below.refl _ _⟩
  have b403 : (n == 403) = false := by simpa using h403
  by_cases h404 : n = 404
  · subst h404
    have HR := Lib.hid (show rsnW 404 = [78, 111, 116, 32, 70, 111, 117, 110, 100] by kernel_rfl)
    go_enter Tryz.func73, Tryz.ntmps73
    go_wp2
    go_ret
    rw [HR.out]
    exact ⟨rfl, Below.refl _ _⟩
  have b404 : (n == 404) = false := by simpa using h404
  by_cases h405 : n = 405
  · subst h405
    have HR := Lib.hid (show rsnW 405 = [77, 101, 116, 104, 111, 100, 32, 78, 111, 116, 32, 65, 108, 108, 111, 119, 101, 100] by kernel_rfl)
    go_enter Tryz.func73, Tryz.ntmps73
    go_wp2
    go_ret
    rw [HR.out]
    exact ⟨rfl, Below.refl _ _⟩
  have b405 : (n == 405) = false := by simpa using h405
  by_cases h406 : n = 406
  · subst h406
    have HR := Lib.hid (show rsnW 406 = [78, 111, 116, 32, 65, 99, 99, 101, 112, 116, 97, 98, 108, 101] by kernel_rfl)
    go_enter Tryz.func73, Tryz.ntmps73
    go_wp2
    go_ret
    rw [HR.out]
    exact ⟨rfl, Below.refl _ _⟩
  have b406 : (n == 406) = false := by simpa using h406
  by_cases h408 : n = 408
  · subst h408
    have HR := Lib.hid (show rsnW 408 = [82, 101, 113, 117, 101, 115, 116, 32, 84, 105, 109, 101, 111, 117, 116] by kernel_rfl)
    go_enter Tryz.func73, Tryz.ntmps73
    go_wp2
    go_ret
    rw [HR.out]
    exact ⟨rfl, Below.refl _ _⟩
  have b408 : (n == 408) = false := by simpa using h408
  by_cases h411 : n = 411
  · subst h411
    have HR := Lib.hid (show rsnW 411 = [76, 101, 110, 103, 116, 104, 32, 82, 101, 113, 117, 105, 114, 101, 100] by kernel_rfl)
    go_enter Tryz.func73, Tryz.ntmps73
    go_wp2
    go_ret
    rw [HR.out]
    exact ⟨rfl, Below.refl _ _⟩
  have b411 : (n == 411) = false := by simpa using h411
  by_cases h412 : n = 412
  · subst h412
    have HR := Lib.hid (show rsnW 412 = [80, 114, 101, 99, 111, 110, 100, 105, 116, 105, 111, 110, 32, 70, 97, 105, 108, 101, 100] by kernel_rfl)
    go_enter Tryz.func73, Tryz.ntmps73
    go_wp2
    go_ret
    rw [HR.out]
    exact ⟨rfl, Below.refl _ _⟩
  have b412 : (n == 412) = false := by simpa using h412
  by_cases h413 : n = 413
  · subst h413
    have HR := Lib.hid (show rsnW 413 = [67, 111, 110, 116, 101, 110, 116, 32, 84, 111, 111, 32, 76, 97, 114, 103, 101] by kernel_rfl)
    go_enter Tryz.func73, Tryz.ntmps73
    go_wp2
    go_ret
    rw [HR.out]
    exact ⟨rfl, Below.refl _ _⟩
  have b413 : (n == 413) = false := by simpa using h413
  by_cases h414 : n = 414
  · subst h414
    have HR := Lib.hid (show rsnW 414 = [85, 82, 73, 32, 84, 111, 111, 32, 76, 111, 110, 103] by kernel_rfl)
    go_enter Tryz.func73, Tryz.ntmps73
    go_wp2
    go_ret
    rw [HR.out]
    exact ⟨rfl, Below.refl _ _⟩
  have b414 : (n == 414) = false := by simpa using h414
  by_cases h415 : n = 415
  · subst h415
    have HR := Lib.hid (show rsnW 415 = [85, 110, 115, 117, 112, 112, 111, 114, 116, 101, 100, 32, 77, 101, 100, 105, 97, 32, 84, 121, 112, 101] by kernel_rfl)
    go_enter Tryz.func73, Tryz.ntmps73
    go_wp2
    go_ret
    rw [HR.out]
    exact ⟨rfl, Below.refl _ _⟩
  have b415 : (n == 415) = false := by simpa using h415
  by_cases h416 : n = 416
  · subst h416
    have HR := Lib.hid (show rsnW 416 = [82, 97, 110, 103, 101, 32, 78, 111, 116, 32, 83, 97, 116, 105, 115, 102, 105, 97, 98, 108, 101] by kernel_rfl)
    go_enter Tryz.func73, Tryz.ntmps73
    go_wp2
    go_ret
    rw [HR.out]
    exact ⟨rfl, Below.refl _ _⟩
  have b416 : (n == 416) = false := by simpa using h416
  by_cases h417 : n = 417
  · subst h417
    have HR := Lib.hid (show rsnW 417 = [69, 120, 112, 101, 99, 116, 97, 116, 105, 111, 110, 32, 70, 97, 105, 108, 101, 100] by kernel_rfl)
    go_enter Tryz.func73, Tryz.ntmps73
    go_wp2
    go_ret
    rw [HR.out]
    exact ⟨rfl, Below.refl _ _⟩
  have b417 : (n == 417) = false := by simpa using h417
  by_cases h421 : n = 421
  · subst h421
    have HR := Lib.hid (show rsnW 421 = [77, 105, 115, 100, 105, 114, 101, 99, 116, 101, 100, 32, 82, 101, 113, 117, 101, 115, 116] by kernel_rfl)
    go_enter Tryz.func73, Tryz.ntmps73
    go_wp2
    go_ret
    rw [HR.out]
    exact ⟨rfl, Below.refl _ _⟩
  have b421 : (n == 421) = false := by simpa using h421
  by_cases h422 : n = 422
  · subst h422
    have HR := Lib.hid (show rsnW 422 = [85, 110, 112, 114, 111, 99, 101, 115, 115, 97, 98, 108, 101, 32, 67, 111, 110, 116, 101, 110, 116] by kernel_rfl)
    go_enter Tryz.func73, Tryz.ntmps73
    go_wp2
    go_ret
    rw [HR.out]
    exact ⟨rfl, Below.refl _ _⟩
  have b422 : (n == 422) = false := by simpa using h422
  by_cases h426 : n = 426
  · subst h426
    have HR := Lib.hid (show rsnW 426 = [85, 112, 103, 114, 97, 100, 101, 32, 82, 101, 113, 117, 105, 114, 101, 100] by kernel_rfl)
    go_enter Tryz.func73, Tryz.ntmps73
    go_wp2
    go_ret
    rw [HR.out]
    exact ⟨rfl, Below.refl _ _⟩
  have b426 : (n == 426) = false := by simpa using h426
  by_cases h428 : n = 428
  · subst h428
    have HR := Lib.hid (show rsnW 428 = [80, 114, 101, 99, 111, 110, 100, 105, 116, 105, 111, 110, 32, 82, 101, 113, 117, 105, 114, 101, 100] by kernel_rfl)
    go_enter Tryz.func73, Tryz.ntmps73
    go_wp2
    go_ret
    rw [HR.out]
    exact ⟨rfl, Below.refl _ _⟩
  have b428 : (n == 428) = false := by simpa using h428
  by_cases h429 : n = 429
  · subst h429
    have HR := Lib.hid (show rsnW 429 = [84, 111, 111, 32, 77, 97, 110, 121, 32, 82, 101, 113, 117, 101, 115, 116, 115] by kernel_rfl)
    go_enter Tryz.func73, Tryz.ntmps73
    go_wp2
    go_ret
    rw [HR.out]
    exact ⟨rfl, Below.refl _ _⟩
  have b429 : (n == 429) = false := by simpa using h429
  by_cases h431 : n = 431
  · subst h431
    have HR := Lib.hid (show rsnW 431 = [82, 101, 113, 117, 101, 115, 116, 32, 72, 101, 97, 100, 101, 114, 32, 70, 105, 101, 108, 100, 115, 32, 84, 111, 111, 32, 76, 97, 114, 103, 101] by kernel_rfl)
    go_enter Tryz.func73, Tryz.ntmps73
    go_wp2
    go_ret
    rw [HR.out]
    exact ⟨rfl, Below.refl _ _⟩
  have b431 : (n == 431) = false := by simpa using h431
  have hE : rsnW n = rsnS n := lkI_app n tabW _ (by intro p hp; simp only [tabW, List.mem_cons, List.not_mem_nil, or_false] at hp; rcases hp with rfl | rfl | rfl | rfl | rfl | rfl | rfl | rfl | rfl | rfl | rfl | rfl | rfl | rfl | rfl | rfl | rfl | rfl | rfl | rfl <;> assumption)
  rw [hE]
  clear hE
  have HC := Lib.hid (oserver_any n w)
  clear h400 h401 h403 h404 h405 h406 h408 h411 h412 h413 h414 h415 h416 h417 h421 h422 h426 h428 h429 h431
  go_enter Tryz.func73, Tryz.ntmps73
  go_wp2_with fail
  refine HC.out.mono ?_
  rintro e w1 ⟨rfl, hb⟩
  go_wp2
  go_ret
  exact ⟨rfl, hb⟩
set_option maxHeartbeats 4000000 in
theorem oreason_any (n : Int) (w : World) : Calls Tryz.prog 39 #[.int .i64 n] w fun e w' => e = .returned (.string ⟨(rsn n).toArray⟩) ∧ Below w.heap.size w w' := by
  by_cases h100 : n = 100
  · subst h100
    have HR := Lib.hid (show rsn 100 = [67, 111, 110, 116, 105, 110, 117, 101] by kernel_rfl)
    go_enter Tryz.func39, Tryz.ntmps39
    go_wp2
    go_ret
    rw [HR.out]
    exact ⟨rfl, Below.refl _ _⟩
  have b100 : (n == 100) = false := by simpa using h100
  by_cases h101 : n = 101
  · subst h101
    have HR := Lib.hid (show rsn 101 = [83, 119, 105, 116, 99, 104, 105, 110, 103, 32, 80, 114, 111, 116, 111, 99, 111, 108, 115] by kernel_rfl)
    go_enter Tryz.func39, Tryz.ntmps39
    go_wp2
    go_ret
    rw [HR.out]
    exact ⟨rfl, Below.refl _ _⟩
  have b101 : (n == 101) = false := by simpa using h101
  by_cases h200 : n = 200
  · subst h200
    have HR := Lib.hid (show rsn 200 = [79, 75] by kernel_rfl)
    go_enter Tryz.func39, Tryz.ntmps39
    go_wp2
    go_ret
    rw [HR.out]
    exact ⟨rfl, Below.refl _ _⟩
  have b200 : (n == 200) = false := by simpa using h200
  by_cases h201 : n = 201
  · subst h201
    have HR := Lib.hid (show rsn 201 = [67, 114, 101, 97, 116, 101, 100] by kernel_rfl)
    go_enter Tryz.func39, Tryz.ntmps39
    go_wp2
    go_ret
    rw [HR.out]
    exact ⟨rfl, Below.refl _ _⟩
  have b201 : (n == 201) = false := by simpa using h201
  by_cases h202 : n = 202
  · subst h202
    have HR := Lib.hid (show rsn 202 = [65, 99, 99, 101, 112, 116, 101, 100] by kernel_rfl)
    go_enter Tryz.func39, Tryz.ntmps39
    go_wp2
    go_ret
    rw [HR.out]
    exact ⟨rfl, Below.refl _ _⟩
  have b202 : (n == 202) = false := by simpa using h202
  by_cases h204 : n = 204
  · subst h204
    have HR := Lib.hid (show rsn 204 = [78, 111, 32, 67, 111, 110, 116, 101, 110, 116] by kernel_rfl)
    go_enter Tryz.func39, Tryz.ntmps39
    go_wp2
    go_ret
    rw [HR.out]
    exact ⟨rfl, Below.refl _ _⟩
  have b204 : (n == 204) = false := by simpa using h204
  by_cases h206 : n = 206
  · subst h206
    have HR := Lib.hid (show rsn 206 = [80, 97, 114, 116, 105, 97, 108, 32, 67, 111, 110, 116, 101, 110, 116] by kernel_rfl)
    go_enter Tryz.func39, Tryz.ntmps39
    go_wp2
    go_ret
    rw [HR.out]
    exact ⟨rfl, Below.refl _ _⟩
  have b206 : (n == 206) = false := by simpa using h206
  by_cases h301 : n = 301
  · subst h301
    have HR := Lib.hid (show rsn 301 = [77, 111, 118, 101, 100, 32, 80, 101, 114, 109, 97, 110, 101, 110, 116, 108, 121] by kernel_rfl)
    go_enter Tryz.func39, Tryz.ntmps39
    go_wp2
    go_ret
    rw [HR.out]
    exact ⟨rfl, Below.refl _ _⟩
  have b301 : (n == 301) = false := by simpa using h301
  by_cases h302 : n = 302
  · subst h302
    have HR := Lib.hid (show rsn 302 = [70, 111, 117, 110, 100] by kernel_rfl)
    go_enter Tryz.func39, Tryz.ntmps39
    go_wp2
    go_ret
    rw [HR.out]
    exact ⟨rfl, Below.refl _ _⟩
  have b302 : (n == 302) = false := by simpa using h302
  by_cases h303 : n = 303
  · subst h303
    have HR := Lib.hid (show rsn 303 = [83, 101, 101, 32, 79, 116, 104, 101, 114] by kernel_rfl)
    go_enter Tryz.func39, Tryz.ntmps39
    go_wp2
    go_ret
    rw [HR.out]
    exact ⟨rfl, Below.refl _ _⟩
  have b303 : (n == 303) = false := by simpa using h303
  by_cases h304 : n = 304
  · subst h304
    have HR := Lib.hid (show rsn 304 = [78, 111, 116, 32, 77, 111, 100, 105, 102, 105, 101, 100] by kernel_rfl)
    go_enter Tryz.func39, Tryz.ntmps39
    go_wp2
    go_ret
    rw [HR.out]
    exact ⟨rfl, Below.refl _ _⟩
  have b304 : (n == 304) = false := by simpa using h304
  by_cases h307 : n = 307
  · subst h307
    have HR := Lib.hid (show rsn 307 = [84, 101, 109, 112, 111, 114, 97, 114, 121, 32, 82, 101, 100, 105, 114, 101, 99, 116] by kernel_rfl)
    go_enter Tryz.func39, Tryz.ntmps39
    go_wp2
    go_ret
    rw [HR.out]
    exact ⟨rfl, Below.refl _ _⟩
  have b307 : (n == 307) = false := by simpa using h307
  by_cases h308 : n = 308
  · subst h308
    have HR := Lib.hid (show rsn 308 = [80, 101, 114, 109, 97, 110, 101, 110, 116, 32, 82, 101, 100, 105, 114, 101, 99, 116] by kernel_rfl)
    go_enter Tryz.func39, Tryz.ntmps39
    go_wp2
    go_ret
    rw [HR.out]
    exact ⟨rfl, Below.refl _ _⟩
  have b308 : (n == 308) = false := by simpa using h308
  have hE : rsn n = rsnW n := lkI_app n tabO _ (by intro p hp; simp only [tabO, List.mem_cons, List.not_mem_nil, or_false] at hp; rcases hp with rfl | rfl | rfl | rfl | rfl | rfl | rfl | rfl | rfl | rfl | rfl | rfl | rfl <;> assumption)
  rw [hE]
  clear hE
  have HC := Lib.hid (owrong_any n w)
  clear h100 h101 h200 h201 h202 h204 h206 h301 h302 h303 h304 h307 h308
  go_enter Tryz.func39, Tryz.ntmps39
  go_wp2_with fail
  refine HC.out.mono ?_
  rintro e w1 ⟨rfl, hb⟩
  go_wp2
  go_ret
  exact ⟨rfl, hb⟩
theorem dec_step2 (m : Nat) (o : List UInt8) : Lib.decDigits m ++ o = (if m / 10 = 0 then [] else Lib.decDigits (m / 10)) ++ (UInt8.ofNat (48 + m % 10) :: o) := by
  rw [Lib.decDigits]
  by_cases h : m < 10
  · rw [dif_pos h, if_pos (by omega), Nat.mod_eq_of_lt h]; rfl
  · rw [dif_neg h, if_neg (by omega)]; simp
def DecD (n m : Nat) (o : List UInt8) : Prop := Lib.decDigits m ++ o = Lib.decDigits n
theorem DecD.len {n m : Nat} {o : List UInt8} (h : DecD n m o) (hn : n ≤ 9223372036854775808) : o.length ≤ 20 := by
  have h1 := congrArg List.length h
  rw [List.length_append] at h1
  have := dec_len20 19 n (Nat.lt_of_le_of_lt hn (by decide))
  omega
theorem DecD.more {n m : Nat} {o : List UInt8} (h : DecD n m o) (h0 : m / 10 ≠ 0) : DecD n (m / 10) (UInt8.ofNat (48 + m % 10) :: o) := by
  unfold DecD at h ⊢
  rw [dec_step2 m o, if_neg h0] at h
  exact h
theorem DecD.last {n m : Nat} {o : List UInt8} (h : DecD n m o) (h0 : m / 10 = 0) : UInt8.ofNat (48 + m % 10) :: o = Lib.decDigits n := by
  unfold DecD at h
  rw [dec_step2 m o, if_pos h0] at h
  exact h
def dg12 (n : Int) : List UInt8 := if n < 0 then [45] else Lib.decDigits n.toNat
set_option maxHeartbeats 2000000 in
theorem rdigits12N_any (n : Nat) (w : World) (hn : n ≤ 9223372036854775807) :
    Calls Tryz.prog 75 #[.int .i64 (n : Int)] w fun e w' => e = .returned (.string ⟨(Lib.decDigits n).toArray⟩) ∧ Below w.heap.size w w' := by
  have b0 : ¬ ((n : Int) < 0) := by omega
  have k0 : (0 : Int) ≤ (n : Int) := Int.natCast_nonneg _
  have hst : DecD n n [] := by unfold DecD; rw [List.append_nil]
  have HST := Lib.hid (And.intro hst hn)
  clear hst hn
  go_enter Tryz.func75, Tryz.ntmps75
  go_wp2
  go_loopw [0, 3] (fun mv ov wr => ∃ (m : Nat) (o : List UInt8), mv = .int .i64 m ∧ ov = .string ⟨o.toArray⟩ ∧ m ≤ n ∧ DecD n m o ∧ Below w.heap.size w wr) (fun mv _ _ => (intOf mv).toNat)
  case atStart => exact ⟨n, [], rfl, rfl, Nat.le_refl _, HST.out.1, Below.refl _ _⟩
  case round =>
    obtain ⟨m, o, rfl, rfl, hmn, hR, hb⟩ := hrel
    have m0 : (0 : Int) ≤ (m : Int) := Int.natCast_nonneg _
    have hlen := hR.len (Nat.le_trans HST.out.2 (by decide))
    have hR2 := hR.more
    have hR3 := hR.last
    obtain ⟨d, hd⟩ : ∃ d, m % 10 = d := ⟨_, rfl⟩
    obtain ⟨q, hq⟩ : ∃ q, m / 10 = q := ⟨_, rfl⟩
    have e1 : (m : Int) % 10 = (d : Int) := by omega
    have e2 : (m : Int) / 10 = (q : Int) := by omega
    have d0 : (0 : Int) ≤ (d : Int) := Int.natCast_nonneg _
    have d1 : (d : Int) < 10 := by omega
    have hdl : d < 10 := by omega
    have hqm : q = 0 ∨ q < m := by omega
    rw [hd, hq] at hR2 hR3
    obtain ⟨c, hc⟩ : ∃ c, UInt8.ofNat (48 + d) = c := ⟨_, rfl⟩
    have e4 := digit_cell d hdl
    rw [hc] at e4
    rw [hc] at hR2 hR3
    have e3 : IntKind.u8.wrap (48 + (d : Int)) = (c.toNat : Int) := by rw [← e4]; congr 1
    have hcells := cells_new wr 5 (Lib.byteCells [c])
    have hcv := run_str_cells (P := Tryz.prog) (wr.alloc (.cells #[.int .u8 (c.toNat : Int)] 5)) 81 5 Tryz.underlying81 Tryz.underlying5 wr.heap.size 0 1 1 [c] rfl (fun j hj => by
      obtain rfl : j = 0 := by simp at hj; omega
      rw [Lib.cell_of_heap (heap_alloc_new wr _)]; rfl) 9 Tryz.underlying9
    have hz : ¬ 9223372036854775807 < 1 + o.length ∧ ¬ 9223372036854775807 < o.length + 1 := by omega
    have hb2 : Below w.heap.size w (wr.alloc (.cells #[.int .u8 (c.toNat : Int)] 5)) := hb.alloc hb.size _
    have hwq := w64_small q (q_small n m q HST.out.2 hmn hq)
    have hqn : q ≤ n := by omega
    by_cases hq0 : q = 0
    · have b1 : ((q : Int) == 0) = true := by simp; omega
      have HX := Lib.hid (And.intro (hR3 hq0) (And.intro hb2 hwq))
      have b2 : (wrap64 (q : Int) == 0) = true := by rw [hwq]; exact b1
      clear hqn hqm hmn hwq
      clear hR hR2 hR3 hb2 hd hq hc e4 hcells hb
      go_wp2
      go_ret
      refine ⟨?_, HX.out.2.1⟩
      rw [← HX.out.1]
      show Ending.returned (.string (⟨#[c]⟩ ++ ⟨o.toArray⟩)) = _
      rw [cat_one]
    · have b1 : ((q : Int) == 0) = false := by simp; omega
      have b2 : (wrap64 (q : Int) == 0) = false := by rw [hwq]; exact b1
      have hqm2 : q < m := by omega
      have HX := Lib.hid (And.intro (hR2 hq0) (And.intro hb2 (And.intro hwq (And.intro hqn hqm2))))
      clear hwq hqn hqm hmn hqm2
      clear hR hR2 hR3 hb2 hd hq hc e4 hcells hb hq0
      go_wp2
      refine ⟨⟨q, c :: o, by rw [HX.out.2.2.1], by rw [cat_one], HX.out.2.2.2.1, HX.out.1, HX.out.2.1⟩, ?_⟩
      rw [HX.out.2.2.1]
      have := HX.out.2.2.2.2
      simp [intOf]
      omega
theorem rdigits12_any (n : Int) (w : World) (hn : n ≤ 9223372036854775807) :
    Calls Tryz.prog 75 #[.int .i64 n] w fun e w' => e = .returned (.string ⟨(dg12 n).toArray⟩) ∧ Below w.heap.size w w' := by
  by_cases h : n < 0
  · have hd : dg12 n = [45] := by unfold dg12; rw [if_pos h]
    rw [hd]
    clear hd hn
    go_enter Tryz.func75, Tryz.ntmps75
    go_wp2
    go_ret
    exact ⟨rfl, Below.refl _ _⟩
  · have hd : dg12 n = Lib.decDigits n.toNat := by unfold dg12; rw [if_neg h]
    have he : ((n.toNat : Nat) : Int) = n := by omega
    have := rdigits12N_any n.toNat w (by omega)
    rw [he] at this
    rw [hd]
    exact this
def rsnT : List UInt8 := [49, 48, 48, 32, 67, 111, 110, 116, 105, 110, 117, 101, 124, 49, 48, 49, 32, 83, 119, 105, 116, 99, 104, 105, 110, 103, 32, 80, 114, 111, 116, 111, 99, 111, 108, 115, 124, 50, 48, 48, 32, 79, 75, 124, 50, 48, 49, 32, 67, 114, 101, 97, 116, 101, 100, 124, 50, 48, 50, 32, 65, 99, 99, 101, 112, 116, 101, 100, 124, 50, 48, 52, 32, 78, 111, 32, 67, 111, 110, 116, 101, 110, 116, 124, 50, 48, 54, 32, 80, 97, 114, 116, 105, 97, 108, 32, 67, 111, 110, 116, 101, 110, 116, 124, 51, 48, 49, 32, 77, 111, 118, 101, 100, 32, 80, 101, 114, 109, 97, 110, 101, 110, 116, 108, 121, 124, 51, 48, 50, 32, 70, 111, 117, 110, 100, 124, 51, 48, 51, 32, 83, 101, 101, 32, 79, 116, 104, 101, 114, 124, 51, 48, 52, 32, 78, 111, 116, 32, 77, 111, 100, 105, 102, 105, 101, 100, 124, 51, 48, 55, 32, 84, 101, 109, 112, 111, 114, 97, 114, 121, 32, 82, 101, 100, 105, 114, 101, 99, 116, 124, 51, 48, 56, 32, 80, 101, 114, 109, 97, 110, 101, 110, 116, 32, 82, 101, 100, 105, 114, 101, 99, 116, 124, 52, 48, 48, 32, 66, 97, 100, 32, 82, 101, 113, 117, 101, 115, 116, 124, 52, 48, 49, 32, 85, 110, 97, 117, 116, 104, 111, 114, 105, 122, 101, 100, 124, 52, 48, 51, 32, 70, 111, 114, 98, 105, 100, 100, 101, 110, 124, 52, 48, 52, 32, 78, 111, 116, 32, 70, 111, 117, 110, 100, 124, 52, 48, 53, 32, 77, 101, 116, 104, 111, 100, 32, 78, 111, 116, 32, 65, 108, 108, 111, 119, 101, 100, 124, 52, 48, 54, 32, 78, 111, 116, 32, 65, 99, 99, 101, 112, 116, 97, 98, 108, 101, 124, 52, 48, 56, 32, 82, 101, 113, 117, 101, 115, 116, 32, 84, 105, 109, 101, 111, 117, 116, 124, 52, 49, 49, 32, 76, 101, 110, 103, 116, 104, 32, 82, 101, 113, 117, 105, 114, 101, 100, 124, 52, 49, 50, 32, 80, 114, 101, 99, 111, 110, 100, 105, 116, 105, 111, 110, 32, 70, 97, 105, 108, 101, 100, 124, 52, 49, 51, 32, 67, 111, 110, 116, 101, 110, 116, 32, 84, 111, 111, 32, 76, 97, 114, 103, 101, 124, 52, 49, 52, 32, 85, 82, 73, 32, 84, 111, 111, 32, 76, 111, 110, 103, 124, 52, 49, 53, 32, 85, 110, 115, 117, 112, 112, 111, 114, 116, 101, 100, 32, 77, 101, 100, 105, 97, 32, 84, 121, 112, 101, 124, 52, 49, 54, 32, 82, 97, 110, 103, 101, 32, 78, 111, 116, 32, 83, 97, 116, 105, 115, 102, 105, 97, 98, 108, 101, 124, 52, 49, 55, 32, 69, 120, 112, 101, 99, 116, 97, 116, 105, 111, 110, 32, 70, 97, 105, 108, 101, 100, 124, 52, 50, 49, 32, 77, 105, 115, 100, 105, 114, 101, 99, 116, 101, 100, 32, 82, 101, 113, 117, 101, 115, 116, 124, 52, 50, 50, 32, 85, 110, 112, 114, 111, 99, 101, 115, 115, 97, 98, 108, 101, 32, 67, 111, 110, 116, 101, 110, 116, 124, 52, 50, 54, 32, 85, 112, 103, 114, 97, 100, 101, 32, 82, 101, 113, 117, 105, 114, 101, 100, 124, 52, 50, 56, 32, 80, 114, 101, 99, 111, 110, 100, 105, 116, 105, 111, 110, 32, 82, 101, 113, 117, 105, 114, 101, 100, 124, 52, 50, 57, 32, 84, 111, 111, 32, 77, 97, 110, 121, 32, 82, 101, 113, 117, 101, 115, 116, 115, 124, 52, 51, 49, 32, 82, 101, 113, 117, 101, 115, 116, 32, 72, 101, 97, 100, 101, 114, 32, 70, 105, 101, 108, 100, 115, 32, 84, 111, 111, 32, 76, 97, 114, 103, 101, 124, 53, 48, 48, 32, 73, 110, 116, 101, 114, 110, 97, 108, 32, 83, 101, 114, 118, 101, 114, 32, 69, 114, 114, 111, 114, 124, 53, 48, 49, 32, 78, 111, 116, 32, 73, 109, 112, 108, 101, 109, 101, 110, 116, 101, 100, 124, 53, 48, 50, 32, 66, 97, 100, 32, 71, 97, 116, 101, 119, 97, 121, 124, 53, 48, 51, 32, 83, 101, 114, 118, 105, 99, 101, 32, 85, 110, 97, 118, 97, 105, 108, 97, 98, 108, 101, 124, 53, 48, 52, 32, 71, 97, 116, 101, 119, 97, 121, 32, 84, 105, 109, 101, 111, 117, 116, 124, 53, 48, 53, 32, 72, 84, 84, 80, 32, 86, 101, 114, 115, 105, 111, 110, 32, 78, 111, 116, 32, 83, 117, 112, 112, 111, 114, 116, 101, 100, 124]
def rsA (D S : List UInt8) : Nat → Nat → Nat → List UInt8
  | 0, _, _ => []
  | k + 1, fr, i => match S[i]? with
    | none => []
    | some c => if c = 124 then (if (S.drop fr).take 3 = D then (S.drop (fr + 4)).take (i - (fr + 4)) else rsA D S k (i + 1) (i + 1)) else rsA D S k fr (i + 1)
def rsG (S : List UInt8) : Nat → Nat → Nat → Bool
  | 0, _, _ => true
  | k + 1, fr, i => match S[i]? with
    | none => true
    | some c => if c = 124 then decide (fr + 4 ≤ i) && rsG S k (i + 1) (i + 1) else rsG S k fr (i + 1)
theorem rsA_step (D S : List UInt8) (i fr : Nat) (c : UInt8) (h : S[i]? = some c) : rsA D S (S.length - i) fr i = if c = 124 then (if (S.drop fr).take 3 = D then (S.drop (fr + 4)).take (i - (fr + 4)) else rsA D S (S.length - (i + 1)) (i + 1) (i + 1)) else rsA D S (S.length - (i + 1)) fr (i + 1) := by
  have hi := (List.getElem?_eq_some_iff.1 h).1
  obtain ⟨k, hk⟩ : ∃ k, S.length - i = k + 1 := ⟨S.length - i - 1, by omega⟩
  have hk2 : S.length - (i + 1) = k := by omega
  rw [hk, hk2, rsA, h]
theorem rsG_step (S : List UInt8) (i fr : Nat) (c : UInt8) (h : S[i]? = some c) : rsG S (S.length - i) fr i = if c = 124 then (decide (fr + 4 ≤ i) && rsG S (S.length - (i + 1)) (i + 1) (i + 1)) else rsG S (S.length - (i + 1)) fr (i + 1) := by
  have hi := (List.getElem?_eq_some_iff.1 h).1
  obtain ⟨k, hk⟩ : ∃ k, S.length - i = k + 1 := ⟨S.length - i - 1, by omega⟩
  have hk2 : S.length - (i + 1) = k := by omega
  rw [hk, hk2, rsG, h]
def rsE (S : List UInt8) : Nat → Nat → Nat → List (List UInt8 × List UInt8)
  | 0, _, _ => []
  | k + 1, fr, i => match S[i]? with
    | none => []
    | some c => if c = 124 then ((S.drop fr).take 3, (S.drop (fr + 4)).take (i - (fr + 4))) :: rsE S k (i + 1) (i + 1) else rsE S k fr (i + 1)
def lkD (D : List UInt8) : List (List UInt8 × List UInt8) → List UInt8
  | [] => []
  | (k, t) :: r => if k = D then t else lkD D r
theorem rsA_lk (D S : List UInt8) : ∀ k fr i, rsA D S k fr i = lkD D (rsE S k fr i)
  | 0, _, _ => rfl
  | k + 1, fr, i => by
    rw [rsA, rsE]
    cases h : S[i]? with
    | none => rfl
    | some c =>
      by_cases hc : c = 124
      · simp only [if_pos hc, lkD]
        split
        · rfl
        · exact rsA_lk D S k _ _
      · simp only [if_neg hc]
        exact rsA_lk D S k _ _
def k3 (p : Nat × List UInt8) : List UInt8 × List UInt8 := ([UInt8.ofNat (48 + p.1 / 100), UInt8.ofNat (48 + p.1 / 10 % 10), UInt8.ofNat (48 + p.1 % 10)], p.2)
def tabA : List (Nat × List UInt8) := tabO ++ (tabW ++ tabS)
theorem rsn_ents : rsE rsnT rsnT.length 0 0 = tabA.map k3 := by kernel_rfl
theorem rsn_good : rsG rsnT rsnT.length 0 0 = true := by kernel_rfl
theorem rsn_lt : ∀ p ∈ tabA, 100 ≤ p.1 ∧ p.1 < 1000 := by decide
theorem dec3 (k : Nat) (h0 : 100 ≤ k) (h1 : k < 1000) : Lib.decDigits k = [UInt8.ofNat (48 + k / 100), UInt8.ofNat (48 + k / 10 % 10), UInt8.ofNat (48 + k % 10)] := by
  rw [Lib.decDigits, dif_neg (by omega), Lib.decDigits, dif_neg (by omega), Lib.decDigits, dif_pos (by omega)]
  have : k / 10 / 10 = k / 100 := by omega
  rw [this]; rfl
theorem ofNat_inj (a b : Nat) (ha : a < 256) (hb : b < 256) (h : UInt8.ofNat a = UInt8.ofNat b) : a = b := by
  have := congrArg UInt8.toNat h
  simpa [Nat.mod_eq_of_lt ha, Nat.mod_eq_of_lt hb] using this
theorem dec_inj : ∀ (n m : Nat), Lib.decDigits n = Lib.decDigits m → n = m := by
  intro n
  induction n using Nat.strongRecOn with
  | ind n ih =>
    intro m h
    rw [Lib.decDigits] at h
    rw [Lib.decDigits.eq_1 m] at h
    have pos : ∀ a, 0 < (Lib.decDigits a).length := by
      intro a
      rw [Lib.decDigits]; split <;> simp
    by_cases h1 : n < 10 <;> by_cases h2 : m < 10
    · rw [dif_pos h1, dif_pos h2] at h
      injection h with h _
      have := ofNat_inj _ _ (by omega) (by omega) h
      omega
    · rw [dif_pos h1, dif_neg h2] at h
      have hl := congrArg List.length h
      rw [List.length_append] at hl
      simp only [List.length_singleton, List.length_cons, List.length_nil] at hl
      have := pos (m / 10)
      omega
    · rw [dif_neg h1, dif_pos h2] at h
      have hl := congrArg List.length h
      rw [List.length_append] at hl
      simp only [List.length_singleton, List.length_cons, List.length_nil] at hl
      have := pos (n / 10)
      omega
    · rw [dif_neg h1, dif_neg h2] at h
      have hl := List.append_inj_left' h rfl
      have hr := List.append_inj_right' h rfl
      injection hr with hr _
      have e1 := ih (n / 10) (by omega) (m / 10) hl
      have e2 := ofNat_inj _ _ (by omega) (by omega) hr
      omega
theorem lkD_lkI (n : Int) : ∀ (l : List (Nat × List UInt8)), (∀ p ∈ l, 100 ≤ p.1 ∧ p.1 < 1000) → lkD (dg12 n) (l.map k3) = lkI n l
  | [], _ => rfl
  | (k, t) :: r, h => by
    obtain ⟨h0, h1⟩ := h (k, t) (by simp)
    have ih := lkD_lkI n r (fun p hp => h p (by simp [hp]))
    show (if (k3 (k, t)).1 = dg12 n then t else lkD (dg12 n) (r.map k3)) = (if n = (k : Int) then t else lkI n r)
    rw [ih]
    have hk : (k3 (k, t)).1 = Lib.decDigits k := (dec3 k h0 h1).symm
    rw [hk]
    by_cases hn : n = (k : Int)
    · subst hn
      have : dg12 (k : Int) = Lib.decDigits k := by unfold dg12; rw [if_neg (by omega)]; rfl
      rw [this, if_pos rfl, if_pos rfl]
    · rw [if_neg hn, if_neg]
      intro he
      unfold dg12 at he
      by_cases hneg : n < 0
      · rw [if_pos hneg] at he
        have := congrArg List.length he
        rw [dec3 k h0 h1] at this
        simp at this
      · rw [if_neg hneg] at he
        have := dec_inj _ _ he
        omega
theorem rsA_rsn (n : Int) : rsA (dg12 n) rsnT rsnT.length 0 0 = rsn n := by
  rw [rsA_lk, rsn_ents, lkD_lkI n tabA rsn_lt]
  rfl
theorem w64_i (i : Nat) (h : i < 1000) : wrap64 ((i : Int) + 1) = (i : Int) + 1 := by unfold wrap64; omega
theorem w64_k (a k b : Nat) (h : a + k = b) (hb : b ≤ 2000) : wrap64 ((a : Int) + (k : Int)) = (b : Int) := by unfold wrap64; omega
theorem i64_k (a k b : Nat) (h : a + k = b) (hb : b ≤ 2000) : IntKind.i64.wrap ((a : Int) + (k : Int)) = (b : Int) := by rw [IntWalk.i64_in _ (by omega)]; omega
theorem b124 (c : UInt8) (h : c ≠ 124) : ((c.toNat : Int) != 124) = true := (ne_u8o c 124 (by decide) h).2
theorem ext3 (s : ByteArray) (a b : Nat) : (s.extract a b).toList = (s.data.toList.drop a).take (b - a) := by rw [ByteArray.toList_eq, ext_list]; rfl
set_option maxHeartbeats 4000000 in
theorem rreason_any (n : Int) (w : World) (hn : n ≤ 9223372036854775807) :
    Calls Tryz.prog 41 #[.int .i64 n] w fun e w' => e = .returned (.string ⟨(rsn n).toArray⟩) ∧ Below w.heap.size w w' := by
  rw [← rsA_rsn]
  have hg := rsn_good
  have hl : rsnT.length < 1000 := by decide
  have HDG := Lib.hid (fun W => rdigits12_any n W hn)
  obtain ⟨D, hD⟩ : ∃ D, dg12 n = D := ⟨_, rfl⟩
  rw [hD] at HDG ⊢
  obtain ⟨s, hS⟩ : ∃ s : ByteArray, ⟨rsnT.toArray⟩ = s := ⟨_, rfl⟩
  have hsl : s.data.toList = rsnT := by rw [← hS]
  have hsz : s.size < 1000 := by rw [← size_list, hsl]; exact hl
  obtain ⟨R, hR⟩ : ∃ R, rsA D rsnT rsnT.length 0 0 = R := ⟨_, rfl⟩
  rw [hR]
  rw [← hsl, size_list] at hR hg
  have HS := Lib.hid (And.intro hS (And.intro (show rsA D s.data.toList (s.data.toList.length - 0) 0 0 = R by rw [size_list]; exact hR) (show rsG s.data.toList (s.data.toList.length - 0) 0 0 = true by rw [size_list]; exact hg)))
  clear hS hR hg hD hn hl hsl
  obtain ⟨g, hg⟩ : ∃ g, w.heap.size = g := ⟨_, rfl⟩
  obtain ⟨u, hu⟩ : ∃ u, w = u := ⟨_, rfl⟩
  have HU := Lib.hid (show Below g u w ∧ g ≤ u.heap.size by rw [← hu, ← hg]; exact ⟨Below.refl _ _, Nat.le_refl _⟩)
  have hpost : (fun (e : Ending) (w' : World) => e = .returned (.string ⟨R.toArray⟩) ∧ Below w.heap.size w w') = (fun e w' => e = .returned (.string ⟨R.toArray⟩) ∧ Below g u w') := by rw [hg, hu]
  rw [hpost]
  clear hpost hg hu
  go_enter Tryz.func41, Tryz.ntmps41
  go_upto_region 1 with fail
  go_cut [3] (fun sv wx => sv = .string s ∧ wx = w)
  case first =>
    go_wp2
    go_meet
    exact ⟨by rw [← HS.out.1]; kernel_rfl, rfl⟩
  case rest =>
  obtain ⟨rfl, rfl⟩ := hcut
  go_wp2
  go_loopw [4, 5] (fun fv iv wr => ∃ (fr i : Nat), fv = .int .i64 fr ∧ iv = .int .i64 i ∧ fr ≤ i ∧ i ≤ s.size ∧ rsA D s.data.toList (s.data.toList.length - i) fr i = R ∧ rsG s.data.toList (s.data.toList.length - i) fr i = true ∧ Below g u wr) (fun _ iv _ => s.size - (intOf iv).toNat)
  case atStart => exact ⟨0, 0, rfl, rfl, Nat.le_refl _, Nat.zero_le _, HS.out.2.1, HS.out.2.2, HU.out.1⟩
  case round =>
    obtain ⟨fr, i, rfl, rfl, hfi, hi, hA, hG, hb⟩ := hrel
    have i0 : (0 : Int) ≤ (i : Int) := Int.natCast_nonneg _
    have f0 : (0 : Int) ≤ (fr : Int) := Int.natCast_nonneg _
    by_cases hil : i < s.size
    case neg =>
      obtain rfl : i = s.size := by omega
      have hR0 : R = [] := by rw [← hA, size_list, Nat.sub_self]; rfl
      have HR0 := Lib.hid hR0; have HB := Lib.hid hb
      have hd : decide (s.size < s.size) = false := decide_eq_false (Nat.lt_irrefl _)
      clear hA hG hR0 hb
      go_wp2
      go_ret
      rw [HR0.out]
      exact ⟨rfl, HB.out⟩
    have i1 : (i : Int) < (s.size : Int) := by omega
    obtain ⟨c, hc⟩ : ∃ c, s[i]'hil = c := ⟨_, rfl⟩
    have hget := list_get s i hil
    rw [hc] at hget
    rw [rsA_step D _ i fr c hget] at hA
    rw [rsG_step _ i fr c hget] at hG
    have hwi := w64_i i (by omega)
    by_cases h124 : c = 124
    · rw [if_pos h124] at hA hG
      rw [Bool.and_eq_true] at hG
      have hf4 : fr + 4 ≤ i := of_decide_eq_true hG.1
      have b1 : ((c.toNat : Int) != 124) = false := by rw [h124]; rfl
      obtain ⟨f3, hf3⟩ : ∃ f3, fr + 3 = f3 := ⟨_, rfl⟩
      obtain ⟨f4, hf4e⟩ : ∃ f4, fr + 4 = f4 := ⟨_, rfl⟩
      have hw3 : IntKind.i64.wrap ((fr : Int) + 3) = (f3 : Int) := i64_k fr 3 f3 hf3 (by omega)
      have hw4 : wrap64 ((fr : Int) + 4) = (f4 : Int) := w64_k fr 4 f4 hf4e (by omega)
      have hw5 : IntKind.i64.wrap ((fr : Int) + 4) = (f4 : Int) := i64_k fr 4 f4 hf4e (by omega)
      have p0 : (0 : Int) ≤ (f3 : Int) := Int.natCast_nonneg _
      have p1 : (0 : Int) ≤ (f4 : Int) := Int.natCast_nonneg _
      have g1 : (f3 : Int) ≤ (s.size : Int) := by omega
      have g2 : (f4 : Int) ≤ (i : Int) := by omega
      have g4 : (fr : Int) ≤ (f3 : Int) := by omega
      have g5 : (i : Int) ≤ (s.size : Int) := by omega
      obtain ⟨t, ht⟩ : ∃ t, s.extract fr f3 = t := ⟨_, rfl⟩
      have htl : t.toList = (s.data.toList.drop fr).take 3 := by rw [← ht, ext3]; congr 1; omega
      rw [← htl, hf4e] at hA
      clear hf3 hf4e hf4
      have HT := Lib.hid ht
      by_cases hD : t.toList = D
      · rw [if_pos hD] at hA
        have b2 : (t.toList == D) = true := by rw [hD]; exact beq_self_eq_true _
        have HA := Lib.hid (And.intro hA (And.intro hb hD))
        clear hA hG h124 hget hD htl hwi hb ht
        go_upto_region 7 with fail
        refine wp_region_textH (fun _ => True) [(0, true), (1, true), (2, true), (3, true), (4, true), (5, true), (6, false), (7, true)] (by kernel_rfl) (by kernel_rfl) (by kernel_rfl) (by kernel_rfl) trivial ?_
        iterate 4 (refine wpTxH_take rfl (by kernel_rfl) (v := ?_) ?_ ?_; rotate_left; · (intro W hS; clear hS; go_simp; with_reducible rfl))
        refine wpTxH_take rfl (by kernel_rfl) (v := ?_) ?_ ?_; rotate_left; · (intro W hS; clear hS; go_simp; (try with_reducible rfl))
        rw [HT.out]
        refine wpTxH_take rfl (by kernel_rfl) (v := ?_) ?_ ?_; rotate_left; · (intro W hS; clear hS; go_simp; with_reducible rfl)
        refine wpTxH_step rfl (fun K hK => ?_)
        go_simp
        refine (HDG.out _).mono ?_
        rintro e w4 ⟨rfl, hb4⟩
        have HB4 := Lib.hid (HA.out.2.1.trans (((Below.refl _ wr).drew.trans hb4).mono (Nat.le_trans HU.out.2 HA.out.2.1.size)))
        refine hK _ _ trivial ?_
        clear hK K hb4
        refine wpTxH_take rfl (by kernel_rfl) (v := ?_) ?_ ?_; rotate_left; · (intro W hS; clear hS; go_simp; with_reducible rfl)
        refine wpTxH_nil ?_
        go_simp
        obtain ⟨v, hv⟩ : ∃ v, s.extract f4 i = v := ⟨_, rfl⟩
        have HV := Lib.hid (And.intro hv (show v = ⟨R.toArray⟩ by rw [← hv, ← HA.out.1]; exact ba_ext (by rw [ext_list]; simp [seg])))
        clear hv
        go_wp2
        go_ret
        exact ⟨by (try rw [HV.out.1]); rw [← HV.out.2]; rfl, HB4.out⟩
      · rw [if_neg hD] at hA
        have b2 : (t.toList == D) = false := by simpa using hD
        have HA := Lib.hid (And.intro hA (And.intro hb (And.intro hG.2 hwi)))
        clear hA hG h124 hget hD htl hwi hb ht
        go_upto_region 7 with fail
        refine wp_region_textH (fun _ => True) [(0, true), (1, true), (2, true), (3, true), (4, true), (5, true), (6, false), (7, true)] (by kernel_rfl) (by kernel_rfl) (by kernel_rfl) (by kernel_rfl) trivial ?_
        iterate 4 (refine wpTxH_take rfl (by kernel_rfl) (v := ?_) ?_ ?_; rotate_left; · (intro W hS; clear hS; go_simp; with_reducible rfl))
        refine wpTxH_take rfl (by kernel_rfl) (v := ?_) ?_ ?_; rotate_left; · (intro W hS; clear hS; go_simp; (try with_reducible rfl))
        rw [HT.out]
        refine wpTxH_take rfl (by kernel_rfl) (v := ?_) ?_ ?_; rotate_left; · (intro W hS; clear hS; go_simp; with_reducible rfl)
        refine wpTxH_step rfl (fun K hK => ?_)
        go_simp
        refine (HDG.out _).mono ?_
        rintro e w4 ⟨rfl, hb4⟩
        have HB4 := Lib.hid (HA.out.2.1.trans (((Below.refl _ wr).drew.trans hb4).mono (Nat.le_trans HU.out.2 HA.out.2.1.size)))
        refine hK _ _ trivial ?_
        clear hK K hb4
        refine wpTxH_take rfl (by kernel_rfl) (v := ?_) ?_ ?_; rotate_left; · (intro W hS; clear hS; go_simp; with_reducible rfl)
        refine wpTxH_nil ?_
        go_simp
        go_wp2
        have hwi := HA.out.2.2.2
        go_roundw
        case rel => (try rw [hwi]); clear hwi; exact ⟨i + 1, i + 1, by go_num, by go_num, Nat.le_refl _, hil, HA.out.1, HA.out.2.2.1, HB4.out⟩
        case measure => (try rw [hwi]); clear hwi; simp [intOf]; omega
    · rw [if_neg h124] at hA hG
      have b1 := b124 c h124
      have HX := Lib.hid (And.intro hA (And.intro hG (And.intro hwi hb)))
      clear hA hG hwi hb hget h124
      go_wp2
      have hwi := HX.out.2.2.1
      go_roundw
      case rel => (try rw [hwi]); clear hwi; exact ⟨fr, i + 1, rfl, by go_num, by omega, hil, HX.out.1, HX.out.2.1, HX.out.2.2.2⟩
      case measure => (try rw [hwi]); clear hwi; simp [intOf]; omega
end Go.Proofs.YtdlpbpikhmciaaaGreatDoor
