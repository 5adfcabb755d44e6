/- The walks of handle.kinds and of the redirect's test. Conditions: texts are small. -/
import Derived.Test.YtdlpbpikhmciaaaGreatDoorHdU
import Derived.Test.YtdlpbpikhmciaaaGreatDoorEachH
namespace Go.Proofs.YtdlpbpikhmciaaaGreatDoor
open Go.RowKit
set_option linter.unusedSimpArgs false
set_option linter.unusedVariables false
set_option maxRecDepth 1000000
def eX : ByteArray := ⟨#[120]⟩
def e0 : ByteArray := ⟨#[]⟩
def kRow (f g : FuncId) (un ut um : ByteArray) (us uc : Int) : List Value := [.func (.func f) #[] #[], .func (.func g) #[] #[], .int .i64 0, .string un, .string ut, .string um, .int .i64 us, .int .i64 uc]
def kAll : List Value := [.nilFunc, .nilFunc, .int .i64 0, .string e0, .string e0, .string e0, .int .i64 0, .int .i64 0] ++ kRow 46 47 e0 eX eX 1 0 ++ kRow 49 50 e0 e0 e0 1 0 ++ kRow 51 52 e0 eX e0 1 0 ++ kRow 53 54 e0 e0 e0 0 0 ++ kRow 55 54 e0 e0 e0 0 0 ++ kRow 56 57 eX e0 e0 0 1 ++ kRow 58 59 e0 e0 e0 0 1 ++ kRow 60 61 eX e0 e0 0 0 ++ kRow 63 54 e0 e0 e0 0 0
def kArr : Array Value := kAll.toArray
set_option maxHeartbeats 4000000 in
theorem kinds_any (w : World) : Calls Tryz.prog 25 #[] w fun e w' => e = .returned (.slice (some ⟨w.heap.size, 0, none⟩) 10 10) ∧ w' = w.alloc (.cells kArr 74) := by
  go_enter Tryz.func25, Tryz.ntmps25
  go_wp2
  go_ret
  exact ⟨rfl, rfl⟩
def rt3 (t : List UInt8) (s : Int) : Bool := (s == 301 || (s == 302 || (s == 303 || (s == 307 || s == 308)))) && (refR [] t).isSome
theorem parsNil (W : World) : ParsIn W (.slice none 0 0) [] := ⟨none, 0, rfl, fun i p hp => by simp at hp⟩
theorem rfT_is (ps : List Par) (l : List UInt8) (b : Bool) (h : (refR ps l).isSome = b) : (rfT ps l).2 = if b then 0 else 180 := by
  unfold rfT
  cases hr : refR ps l with
  | none => rw [hr] at h; subst h; rfl
  | some x => rw [hr] at h; subst h; rfl
set_option maxHeartbeats 4000000 in
theorem lit3_any (k s c : Int) (n t m : ByteArray) (w : World) (hs : t.size ≤ 1048576) : Calls Tryz.prog 52 #[.agg (hdC k n t m s c)] w fun e w' => e = .returned (.bool (rt3 t.data.toList s)) ∧ Below w.heap.size w w' := by
  have hN := orefer_any t (.slice none 0 0) [] (w.alloc (.cells (hdC k n t m s c) 23)) hs (by simp [totP]) (parsNil _)
  obtain ⟨b, hb⟩ : ∃ b, (refR [] t.data.toList).isSome = b := ⟨_, rfl⟩
  have hX : rt3 t.data.toList s = ((s == 301 || (s == 302 || (s == 303 || (s == 307 || s == 308)))) && b) := by unfold rt3; rw [hb]
  rw [hX]
  rw [rfT_is _ _ _ hb] at hN
  obtain ⟨x, hx⟩ : ∃ x : ByteArray, ⟨(rfT [] t.data.toList).1.toArray⟩ = x := ⟨_, rfl⟩
  rw [hx] at hN
  have HN := Lib.hid hN
  have HBW := Lib.hid (show ∀ a, Below w.heap.size w (w.alloc (.cells a 23)) from fun a => below1 w _)
  clear hX hb hx hN
  by_cases h1 : s = 301 ∨ s = 302 ∨ s = 303 ∨ s = 307 ∨ s = 308
  · rcases h1 with rfl | rfl | rfl | rfl | rfl
    all_goals
      cases b
      all_goals
        go_enter Tryz.func52, Tryz.ntmps52
        go_wp2_with fail
        refine (HN.out).mono ?_
        rintro e w1 ⟨rfl, hb1⟩
        have HB := Lib.hid ((HBW.out _).trans (hb1.mono (HBW.out _).size))
        clear hb1
        go_wp2
        go_ret
        exact ⟨by first | rfl | trivial, HB.out⟩
  · have g1 : (s == 301) = false := by simp; omega
    have g2 : (s == 302) = false := by simp; omega
    have g3 : (s == 303) = false := by simp; omega
    have g4 : (s == 307) = false := by simp; omega
    have g5 : (s == 308) = false := by simp; omega
    have hx : ((s == 301 || (s == 302 || (s == 303 || (s == 307 || s == 308)))) && b) = false := by rw [g1, g2, g3, g4, g5]; rfl
    have HX := Lib.hid hx
    clear hx h1
    go_enter Tryz.func52, Tryz.ntmps52
    go_wp2
    go_ret
    exact ⟨ret_boolO HX.out.symm, HBW.out _⟩
end Go.Proofs.YtdlpbpikhmciaaaGreatDoor
