/- The walk of handle.Check, kind by kind. Conditions: texts are small. -/
import Derived.Test.YtdlpbpikhmciaaaGreatDoorHdK
import Derived.Test.YtdlpbpikhmciaaaGreatDoorMda
import Derived.Laws.EntriesVeiled
namespace Go.Proofs.YtdlpbpikhmciaaaGreatDoor
open Go.RowKit
set_option linter.unusedSimpArgs false
set_option linter.unusedVariables false
set_option maxRecDepth 1000000
def chkI (a b : Bool) : Int := if a && b then 0 else 180
abbrev zK : Array Value := #[.nilFunc, .nilFunc, .int .i64 0, .string ⟨#[]⟩, .string ⟨#[]⟩, .string ⟨#[]⟩, .int .i64 0, .int .i64 0]
theorem eightBelow {w W : World} {p : Nat} (h : Below w.heap.size w W) (hp : w.heap.size ≤ p) (u0 u1 u2 u3 u4 u5 u6 u7 : Value) :
    Below w.heap.size w ((((((((W.setCell ⟨p, 0, none⟩ u0).setCell ⟨p, 1, none⟩ u1).setCell ⟨p, 2, none⟩ u2).setCell ⟨p, 3, none⟩ u3).setCell ⟨p, 4, none⟩ u4).setCell ⟨p, 5, none⟩ u5).setCell ⟨p, 6, none⟩ u6).setCell ⟨p, 7, none⟩ u7) :=
  (((((((h.setCell (p := ⟨p, 0, none⟩) hp _).setCell (p := ⟨p, 1, none⟩) hp _).setCell (p := ⟨p, 2, none⟩) hp _).setCell (p := ⟨p, 3, none⟩) hp _).setCell (p := ⟨p, 4, none⟩) hp _).setCell (p := ⟨p, 5, none⟩) hp _).setCell (p := ⟨p, 6, none⟩) hp _).setCell (p := ⟨p, 7, none⟩) hp _
theorem eightOther {W : World} {p g : Nat} {c : Array Value} {T : TypeId} (h : BlkIs W g c T) (hne : g ≠ p) (u0 u1 u2 u3 u4 u5 u6 u7 : Value) :
    BlkIs ((((((((W.setCell ⟨p, 0, none⟩ u0).setCell ⟨p, 1, none⟩ u1).setCell ⟨p, 2, none⟩ u2).setCell ⟨p, 3, none⟩ u3).setCell ⟨p, 4, none⟩ u4).setCell ⟨p, 5, none⟩ u5).setCell ⟨p, 6, none⟩ u6).setCell ⟨p, 7, none⟩ u7) g c T :=
  (((((((h.setOther _ _ hne).setOther _ _ hne).setOther _ _ hne).setOther _ _ hne).setOther _ _ hne).setOther _ _ hne).setOther _ _ hne).setOther _ _ hne
theorem eightSet {W : World} {p : Nat} (h : BlkIs W p zK 74) (u0 u1 u2 u3 u4 u5 u6 u7 : Value) :
    BlkIs ((((((((W.setCell ⟨p, 0, none⟩ u0).setCell ⟨p, 1, none⟩ u1).setCell ⟨p, 2, none⟩ u2).setCell ⟨p, 3, none⟩ u3).setCell ⟨p, 4, none⟩ u4).setCell ⟨p, 5, none⟩ u5).setCell ⟨p, 6, none⟩ u6).setCell ⟨p, 7, none⟩ u7) p #[u0, u1, u2, u3, u4, u5, u6, u7] 74 := by
  have h8 := (((((((h.set 0 u0).set 1 u1).set 2 u2).set 3 u3).set 4 u4).set 5 u5).set 6 u6).set 7 u7
  have e : (((((((zK.setIfInBounds 0 u0).setIfInBounds 1 u1).setIfInBounds 2 u2).setIfInBounds 3 u3).setIfInBounds 4 u4).setIfInBounds 5 u5).setIfInBounds 6 u6).setIfInBounds 7 u7 = #[u0, u1, u2, u3, u4, u5, u6, u7] := by simp
  rw [e] at h8
  exact h8
end Go.Proofs.YtdlpbpikhmciaaaGreatDoor
