/- A region that draws its order, walked once, in the order of the text: the operations that yield in whatever world are taken where they stand, the others must come up alone. No program is named. No conditions. -/
import Derived.Test.YtpehogkgiikjmaaKit
import Derived.RegionTactic
import Derived.Deep.AppendLies
namespace Go.Proofs.Ytpehogkgiikjmaa
open Go.RowKit
set_option linter.unusedSimpArgs false
set_option linter.unusedVariables false

def mask (n i : Nat) : Array Bool := Array.ofFn fun j : Fin n => decide (j.val < i)
theorem mask_zero (n : Nat) : Array.replicate n false = mask n 0 := by
  apply Array.ext
  · simp [mask]
  · intro i h1 h2; simp [mask]
theorem mask_set (n i : Nat) (h : i < n) : (mask n i).setIfInBounds i true = mask n (i + 1) := by
  apply Array.ext
  · simp [mask]
  · intro j h1 h2
    rw [Array.getElem_setIfInBounds (by simpa using h1)]
    simp only [mask, Array.getElem_ofFn]
    split
    · rename_i e; subst e; simp
    · rename_i e
      rw [decide_eq_decide]; omega

def txCheck (ops : Array Oper) (cls : List Bool) : Bool :=
  (List.range ops.size).all (fun i => if cls.getD i false then Region.free .any ops (mask ops.size i) i && (Region.ready .any ops (mask ops.size i)).contains i else Region.ready .any ops (mask ops.size i) == [i]) &&
    (Region.ready .any ops (mask ops.size ops.size) == [])

def wpTx (P : Program) (ops : Array Oper) (Q : Exit → Act → World → Prop) : List Bool → List Oper → Act → World → Prop
  | _, [], a, w => Q .normal a w
  | true :: cs, o :: r, a, w => ∃ v, Yields P ops o v a ∧ wpTx P ops Q cs r (a.put o.dst v) w
  | false :: cs, o :: r, a, w => ∀ K : Act → World → Prop, (∀ a w, wpTx P ops Q cs r a w → K a w) → if Region.wanted o (yielded ops a.tmps) = true then Oper.wp P o a w K Q else K (a.put o.dst undef) w
  | [], _ :: _, _, _ => False

theorem wpTx_sound {P : Program} {ops : Array Oper} {Q : Exit → Act → World → Prop} (cls : List Bool) (hs : Region.noSelect ops = true) (hc : txCheck ops cls = true)
    (hQ : ∀ c d v a w, Q (.panic c) (Act.put a d v) w → Q (.panic c) a w) :
    ∀ (k : Nat), k ≤ ops.size → ∀ a w, wpTx P ops Q (cls.drop (ops.size - k)) (ops.toList.drop (ops.size - k)) a w → wpAny P .any ops Q k (mask ops.size (ops.size - k)) a w := by
  have hall := (Bool.and_eq_true_iff.1 hc).1
  have hend := (Bool.and_eq_true_iff.1 hc).2
  intro k
  induction k with
  | zero =>
    intro _ a w h
    have he : ops.toList.drop (ops.size - 0) = [] := List.drop_of_length_le (by rw [Nat.sub_zero, Array.length_toList]; exact Nat.le_refl _)
    rw [he] at h
    refine wpAny_done (by rw [Nat.sub_zero]; simpa using hend) ?_ 0
    generalize cls.drop (ops.size - 0) = cl at h
    cases cl with
    | nil => exact h
    | cons b t => cases b <;> exact h
  | succ k ih =>
    intro hk a w h
    have hi : ops.size - (k + 1) < ops.size := by omega
    have hnext : ops.size - (k + 1) + 1 = ops.size - k := by omega
    obtain ⟨i, rfl⟩ : ∃ i, i = ops.size - (k + 1) := ⟨_, rfl⟩
    have hci := List.all_eq_true.1 hall (ops.size - (k + 1)) (List.mem_range.2 hi)
    have hl : ops.toList.drop (ops.size - (k + 1)) = ops[ops.size - (k + 1)]'hi :: ops.toList.drop (ops.size - k) := by
      rw [List.drop_eq_getElem_cons (by simpa using hi), hnext]; rfl
    have ho : ops[ops.size - (k + 1)]? = some (ops[ops.size - (k + 1)]'hi) := Array.getElem?_eq_getElem hi
    rw [hl] at h
    have hm := mask_set ops.size (ops.size - (k + 1)) hi
    rw [hnext] at hm
    rcases Nat.lt_or_ge (ops.size - (k + 1)) cls.length with hcl | hcl
    · have hd : cls.drop (ops.size - (k + 1)) = cls[ops.size - (k + 1)]'hcl :: cls.drop (ops.size - k) := by
        rw [List.drop_eq_getElem_cons hcl, hnext]
      have hg : cls.getD (ops.size - (k + 1)) false = cls[ops.size - (k + 1)]'hcl := by simp [hcl]
      rw [hd] at h
      rw [hg] at hci
      generalize cls[ops.size - (k + 1)]'hcl = b at h hci
      cases b with
      | true =>
        obtain ⟨v, hy, h⟩ := h
        simp only [if_true, Bool.and_eq_true] at hci
        refine wpAny_take ho hs hci.1 hci.2 (fun c a w => hQ c _ _ a w) hy ?_
        rw [hm]
        exact ih (by omega) _ _ h
      | false =>
        simp only [Bool.false_eq_true, if_false, beq_iff_eq] at hci
        refine wpAny_ready hci (by simp) (AllReady.cons ho (fun K hK => ?_) AllReady.nil)
        refine h K (fun a w h' => hK a w ?_)
        rw [hm]
        exact ih (by omega) _ _ h'
    · rw [List.drop_of_length_le hcl] at h
      exact h.elim

/-- Q, but False at a panic. -/
def offPanic (Q : Exit → Act → World → Prop) : Exit → Act → World → Prop
  | .panic _, _, _ => False
  | e, a, w => Q e a w
/-- A REGION THAT DRAWS, IN THE ORDER OF THE TEXT. -/
theorem wp_region_text {P : Program} {id : Nat} {ops : Array Oper} {Q : Exit → Act → World → Prop} {a : Act} {w : World} (cls : List Bool) (hm : P.follows .mixedOrders = true) (hs : Region.noSelect ops = true) (hc : txCheck ops cls = true)
    (h : wpTx P ops (offPanic Q) cls ops.toList a w.drew) : (Code.region id ops true).wp P Q a w := by
  refine Code.wp_mono (Q := offPanic Q) (fun e a w h => ?_) (wp_region_any hm ?_)
  · cases e <;> first | exact h | exact (h : False).elim
  · rw [mask_zero]
    have := wpTx_sound (P := P) (Q := offPanic Q) cls hs hc (fun _ _ _ _ _ h => h) ops.size (Nat.le_refl _) a w.drew
    rw [Nat.sub_self] at this
    exact this h
theorem wpTx_take {P : Program} {ops : Array Oper} {Q : Exit → Act → World → Prop} {cs : List Bool} {o : Oper} {r : List Oper} {a : Act} {w : World} {v : Value} (hw : Region.wanted o (yielded ops a.tmps) = true)
    (hv : ∀ w, (execOp a.eval o).run P w = .ok (.value v) w) (h : wpTx P ops Q cs r (a.put o.dst v) w) : wpTx P ops Q (true :: cs) (o :: r) a w := ⟨v, .inl ⟨hw, hv⟩, h⟩
theorem wpTx_pass {P : Program} {ops : Array Oper} {Q : Exit → Act → World → Prop} {cs : List Bool} {o : Oper} {r : List Oper} {a : Act} {w : World} (hw : Region.wanted o (yielded ops a.tmps) = false)
    (h : wpTx P ops Q cs r (a.put o.dst undef) w) : wpTx P ops Q (true :: cs) (o :: r) a w := ⟨undef, .inr ⟨hw, rfl⟩, h⟩
theorem wpTx_step {P : Program} {ops : Array Oper} {Q : Exit → Act → World → Prop} {cs : List Bool} {o : Oper} {r : List Oper} {a : Act} {w : World}
    (h : ∀ K : Act → World → Prop, (∀ a w, wpTx P ops Q cs r a w → K a w) → if Region.wanted o (yielded ops a.tmps) = true then Oper.wp P o a w K Q else K (a.put o.dst undef) w) : wpTx P ops Q (false :: cs) (o :: r) a w := h
theorem wpTx_nil {P : Program} {ops : Array Oper} {Q : Exit → Act → World → Prop} {a : Act} {w : World} (h : Q .normal a w) : wpTx P ops (offPanic Q) [] [] a w := h

/-- append onto a row of the call's own, as one step of a region that draws. -/
theorem step_append_own {P : Program} {ops : Array Oper} {o : Oper} {a : Act} {w : World} {K : Act → World → Prop} {Q : Exit → Act → World → Prop} {E : Prop} (hgd : o.guard = none) (s x : Operand) (t : TypeId)
    (ho : o.op = .call { callee := .builtin .append, args := #[s, x], argTypes := #[t, t] })
    (base : Nat) (e : TypeId) (i : TypeInfo) (z : Value) (size bytes : Nat) (ht : P.underlying t = some (.slice e)) (hi : P.info? e = some i) (hz : i.zero = some z)
    (hsize : i.size = size) (hby : i.bytes = bytes) (hzs : z.cells.size = size) (hsz : 0 < size)
    (v : Value) (n : Nat) (xs : List Value) (hs : a.eval s = v) (hown : w.ownsRow base e size v n xs)
    (ad : Addr) (m c : Nat) (news : List Value) (hx : a.eval x = .slice (some ad) m c) (hl : news.length = m * size) (hnews : ∀ j u, news[j]? = some u → w.cell? (ad.add j) = some u) (h1 : ∀ u ∈ news, u.oneCell' = true)
    (h63 : n + m ≤ maxLen) (hbytes : (n + m) * bytes ≤ 140737488355328) (hbase : base ≤ w.heap.size)
    (h : ∀ v' w', w'.ownsRow base e size v' (n + m) (xs ++ news) → w.grownBy w' v.ownBlock → K (a.put o.dst v') w') :
    if Region.wanted o (yielded ops a.tmps) = true then Oper.wp P o a w K Q else E := by
  have hw : Region.wanted o (yielded ops a.tmps) = true := by simp [Region.wanted, hgd]
  rw [if_pos hw]
  exact wp_append_own w s x t ho base e i z size bytes ht hi hz hsize hby hzs hsz v n xs hs hown ad m c news hx hl hnews h1 h63 hbytes hbase fun v' w' h2 h3 _ => h v' w' h2 h3
end Go.Proofs.Ytpehogkgiikjmaa
