/- Regions that draw, order by order, reading cells that all their operations leave. No program is named. No conditions. -/
import Derived.Test.YtdlpbpikhmciaaaGreatDoorRegH
import Derived.OrdersHeld
namespace Go.Proofs.YtdlpbpikhmciaaaGreatDoor
open Go.RowKit
set_option linter.unusedSimpArgs false
set_option linter.unusedVariables false
set_option maxRecDepth 1000000
section
variable {P : Program} {ops : Array Oper} {S : World → Prop} {Q : Exit → Act → World → Prop}
theorem wp_region_eachH {id : Nat} {a : Act} {w : World} (S : World → Prop) (n : Nat) (hm : P.follows .mixedOrders = true) (hn : n = ops.size) (h : wpAnyH P .any ops (offPanic Q) S n (Array.replicate ops.size false) a w.drew) : (Code.region id ops true).wp P Q a w := by
  subst hn
  refine Code.wp_mono (Q := offPanic Q) (fun e a w h => ?_) (wp_region_held hm h)
  cases e <;> first | exact h | exact (h : False).elim
theorem eachH_take {i n : Nat} {o : Oper} {v : Value} {L : Array Bool} {a : Act} {w : World} (hi : ops[i]? = some o) (hs : Region.noSelect ops = true) (hc : (Region.free .any ops L i && (Region.ready .any ops L).contains i) = true) (hw : Region.wanted o (yielded ops a.tmps) = true) (hS : S w)
    (hv : ∀ w, S w → (execOp a.eval o).run P w = .ok (.value v) w) (h : wpAnyH P .any ops (offPanic Q) S n (L.setIfInBounds i true) (a.put o.dst v) w) : wpAnyH P .any ops (offPanic Q) S (n + 1) L a w := by
  rw [Bool.and_eq_true] at hc
  exact wpAnyH_take hi hs hc.1 hc.2 (fun _ _ _ h => h) (.inl ⟨hw, hv⟩) hS h
abbrev EachStepH (P : Program) (ops : Array Oper) (S : World → Prop) (Q : Exit → Act → World → Prop) (n : Nat) (L : Array Bool) (a : Act) (w : World) (i : Nat) (o : Oper) : Prop :=
  ∀ K : Act → World → Prop, (∀ a w, S w → wpAnyH P .any ops Q S n (L.setIfInBounds i true) a w → K a w) → if Region.wanted o (yielded ops a.tmps) = true then Oper.wp P o a w K Q else K (a.put o.dst undef) w
theorem eachH1 {i n : Nat} {o : Oper} {L : Array Bool} {a : Act} {w : World} (hr : (Region.ready .any ops L == [i]) = true) (hi : ops[i]? = some o) (h : EachStepH P ops S Q n L a w i o) : wpAnyH P .any ops Q S (n + 1) L a w := by
  refine wpAnyH_all (by simpa using hr) (by simp) (fun j hj => ?_)
  obtain rfl : j = i := by simpa using hj
  exact wpOp_step hi (fun K hK => h K (fun a w hS h' => hK a w ⟨hS, h'⟩))
theorem eachH2 {i j n : Nat} {o p : Oper} {L : Array Bool} {a : Act} {w : World} (hr : (Region.ready .any ops L == [i, j]) = true) (hi : ops[i]? = some o) (hj : ops[j]? = some p) (h : EachStepH P ops S Q n L a w i o) (h2 : EachStepH P ops S Q n L a w j p) : wpAnyH P .any ops Q S (n + 1) L a w := by
  refine wpAnyH_all (by simpa using hr) (by simp) (fun k hk => ?_)
  rcases (by simpa using hk : k = i ∨ k = j) with rfl | rfl
  · exact wpOp_step hi (fun K hK => h K (fun a w hS h' => hK a w ⟨hS, h'⟩))
  · exact wpOp_step hj (fun K hK => h2 K (fun a w hS h' => hK a w ⟨hS, h'⟩))
theorem eachH3 {i j k n : Nat} {o p q : Oper} {L : Array Bool} {a : Act} {w : World} (hr : (Region.ready .any ops L == [i, j, k]) = true) (hi : ops[i]? = some o) (hj : ops[j]? = some p) (hk : ops[k]? = some q) (h : EachStepH P ops S Q n L a w i o) (h2 : EachStepH P ops S Q n L a w j p) (h3 : EachStepH P ops S Q n L a w k q) : wpAnyH P .any ops Q S (n + 1) L a w := by
  refine wpAnyH_all (by simpa using hr) (by simp) (fun x hx => ?_)
  rcases (by simpa using hx : x = i ∨ x = j ∨ x = k) with rfl | rfl | rfl
  · exact wpOp_step hi (fun K hK => h K (fun a w hS h' => hK a w ⟨hS, h'⟩))
  · exact wpOp_step hj (fun K hK => h2 K (fun a w hS h' => hK a w ⟨hS, h'⟩))
  · exact wpOp_step hk (fun K hK => h3 K (fun a w hS h' => hK a w ⟨hS, h'⟩))
theorem eachH_done {L : Array Bool} {a : Act} {w : World} {n : Nat} (hr : Region.ready .any ops L = []) (h : Q .normal a w) : wpAnyH P .any ops (offPanic Q) S n L a w := wpAnyH_done (Q := offPanic Q) hr h n
end
end Go.Proofs.YtdlpbpikhmciaaaGreatDoor
