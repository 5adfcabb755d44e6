/- A region that draws its order and reads cells that all its operations leave: walked once, in the order of the text. No program is named. No conditions. -/
import Derived.Test.YtdlpbpikhmciaaaGreatDoorReg
import Derived.OrdersHeld
namespace Go.Proofs.YtdlpbpikhmciaaaGreatDoor
open Go.RowKit
set_option linter.unusedSimpArgs false
set_option linter.unusedVariables false
def wpTxH (P : Program) (ops : Array Oper) (S : World → Prop) (Q : Exit → Act → World → Prop) : List (Nat × Bool) → Act → World → Prop
  | [], a, w => Q .normal a w
  | (i, true) :: r, a, w => ∃ o v, ops[i]? = some o ∧ YieldsIf P ops S o v a ∧ wpTxH P ops S Q r (a.put o.dst v) w
  | (i, false) :: r, a, w => ∃ o, ops[i]? = some o ∧ ∀ K : Act → World → Prop, (∀ a w, S w → wpTxH P ops S Q r a w → K a w) → if Region.wanted o (yielded ops a.tmps) = true then Oper.wp P o a w K Q else K (a.put o.dst undef) w
theorem wpTxH_sound {P : Program} {ops : Array Oper} {S : World → Prop} {Q : Exit → Act → World → Prop} (hs : Region.noSelect ops = true)
    (hQ : ∀ c d v a w, Q (.panic c) (Act.put a d v) w → Q (.panic c) a w) :
    ∀ (l : List (Nat × Bool)) (L : Array Bool) (a : Act) (w : World), S w → txCheck ops l L = true → wpTxH P ops S Q l a w → wpAnyH P .any ops Q S l.length L a w := by
  intro l
  induction l with
  | nil =>
    intro L a w _ hc h
    exact wpAnyH_done (by simpa [txCheck] using hc) h 0
  | cons x r ih =>
    intro L a w hS hc h
    obtain ⟨i, b⟩ := x
    cases b with
    | true =>
      obtain ⟨o, v, ho, hy, h⟩ := h
      simp only [txCheck, Bool.and_eq_true] at hc
      exact wpAnyH_take ho hs hc.1.1 hc.1.2 (fun c a w => hQ c _ _ a w) hy hS (ih _ _ _ hS hc.2 h)
    | false =>
      obtain ⟨o, ho, h⟩ := h
      simp only [txCheck, Bool.and_eq_true, beq_iff_eq] at hc
      refine wpAnyH_all hc.1 (by simp) (fun j hj => ?_)
      obtain rfl : j = i := by simpa using hj
      exact wpOp_step ho (fun K hK => h K (fun a w hS' h' => hK a w ⟨hS', ih _ _ _ hS' hc.2 h'⟩))
theorem wp_region_textH {P : Program} {id : Nat} {ops : Array Oper} {Q : Exit → Act → World → Prop} {a : Act} {w : World} (S : World → Prop) (l : List (Nat × Bool)) (hm : P.follows .mixedOrders = true) (hs : Region.noSelect ops = true) (hl : l.length = ops.size) (hc : txCheck ops l (Array.replicate ops.size false) = true)
    (hS : S w.drew) (h : wpTxH P ops S (offPanic Q) l a w.drew) : (Code.region id ops true).wp P Q a w := by
  refine Code.wp_mono (Q := offPanic Q) (fun e a w h => ?_) (wp_region_held (S := S) hm ?_)
  · cases e <;> first | exact h | exact (h : False).elim
  · have := wpTxH_sound (P := P) (Q := offPanic Q) hs (fun _ _ _ _ _ h => h) l _ a w.drew hS hc h
    rw [hl] at this
    exact this
theorem wpTxH_take {P : Program} {ops : Array Oper} {S : World → Prop} {Q : Exit → Act → World → Prop} {i : Nat} {o : Oper} {r : List (Nat × Bool)} {a : Act} {w : World} {v : Value} (ho : ops[i]? = some o) (hw : Region.wanted o (yielded ops a.tmps) = true)
    (hv : ∀ w, S w → (execOp a.eval o).run P w = .ok (.value v) w) (h : wpTxH P ops S Q r (a.put o.dst v) w) : wpTxH P ops S Q ((i, true) :: r) a w := ⟨o, v, ho, .inl ⟨hw, hv⟩, h⟩
theorem wpTxH_step {P : Program} {ops : Array Oper} {S : World → Prop} {Q : Exit → Act → World → Prop} {i : Nat} {o : Oper} {r : List (Nat × Bool)} {a : Act} {w : World} (ho : ops[i]? = some o)
    (h : ∀ K : Act → World → Prop, (∀ a w, S w → wpTxH P ops S Q r a w → K a w) → if Region.wanted o (yielded ops a.tmps) = true then Oper.wp P o a w K Q else K (a.put o.dst undef) w) : wpTxH P ops S Q ((i, false) :: r) a w := ⟨o, ho, h⟩
theorem wpTxH_nil {P : Program} {ops : Array Oper} {S : World → Prop} {Q : Exit → Act → World → Prop} {a : Act} {w : World} (h : Q .normal a w) : wpTxH P ops S (offPanic Q) [] a w := h
end Go.Proofs.YtdlpbpikhmciaaaGreatDoor
