/- Regions that draw, order by order; plain steps of media types. Conditions: none. -/
import Derived.Test.YthnniiakmjonjaaDoorSpt
import Derived.Test.YthnniiakmjonjaaDoorRgs
import Derived.Deep.DeepCutAuto
namespace Go.Proofs.YthnniiakmjonjaaDoor
open Go.RowKit
set_option linter.unusedSimpArgs false
set_option linter.unusedVariables false
set_option maxRecDepth 1000000
section
variable {P : Program} {ops : Array Oper} {Q : Exit → Act → World → Prop}
/-- A region that draws, its orders one by one. -/
theorem wp_region_each {id : Nat} {a : Act} {w : World} (n : Nat) (hm : P.follows .mixedOrders = true) (hn : n = ops.size) (h : wpAny P .any ops (offPanic Q) n (Array.replicate ops.size false) a w.drew) : (Code.region id ops true).wp P Q a w := by
  subst hn
  refine Code.wp_mono (Q := offPanic Q) (fun e a w h => ?_) (wp_region_any hm h)
  cases e <;> first | exact h | exact (h : False).elim
theorem each_take {i n : Nat} {o : Oper} {v : Value} {L : Array Bool} {a : Act} {w : World} (hi : ops[i]? = some o) (hs : Region.noSelect ops = true) (hc : (Region.free .any ops L i && (Region.ready .any ops L).contains i) = true) (hw : Region.wanted o (yielded ops a.tmps) = true)
    (hv : ∀ w, (execOp a.eval o).run P w = .ok (.value v) w) (h : wpAny P .any ops (offPanic Q) n (L.setIfInBounds i true) (a.put o.dst v) w) : wpAny P .any ops (offPanic Q) (n + 1) L a w := by
  rw [Bool.and_eq_true] at hc
  exact wpAny_take hi hs hc.1 hc.2 (fun _ _ _ h => h) (.inl ⟨hw, hv⟩) h
abbrev EachStep (P : Program) (ops : Array Oper) (Q : Exit → Act → World → Prop) (n : Nat) (L : Array Bool) (a : Act) (w : World) (i : Nat) (o : Oper) : Prop :=
  ∀ K : Act → World → Prop, (∀ a w, wpAny P .any ops Q n (L.setIfInBounds i true) a w → K a w) → if Region.wanted o (yielded ops a.tmps) = true then Oper.wp P o a w K Q else K (a.put o.dst undef) w
theorem each1 {i n : Nat} {o : Oper} {L : Array Bool} {a : Act} {w : World} (hr : (Region.ready .any ops L == [i]) = true) (hi : ops[i]? = some o) (h : EachStep P ops Q n L a w i o) : wpAny P .any ops Q (n + 1) L a w := by
  refine wpAny_all (by simpa using hr) (by simp) (fun j hj => ?_)
  obtain rfl : j = i := by simpa using hj
  exact wpOp_step hi h
theorem each2 {i j n : Nat} {o p : Oper} {L : Array Bool} {a : Act} {w : World} (hr : (Region.ready .any ops L == [i, j]) = true) (hi : ops[i]? = some o) (hj : ops[j]? = some p) (h : EachStep P ops Q n L a w i o) (h2 : EachStep P ops Q n L a w j p) : wpAny P .any ops Q (n + 1) L a w := by
  refine wpAny_all (by simpa using hr) (by simp) (fun k hk => ?_)
  rcases (by simpa using hk : k = i ∨ k = j) with rfl | rfl
  · exact wpOp_step hi h
  · exact wpOp_step hj h2
theorem each3 {i j k n : Nat} {o p q : Oper} {L : Array Bool} {a : Act} {w : World} (hr : (Region.ready .any ops L == [i, j, k]) = true) (hi : ops[i]? = some o) (hj : ops[j]? = some p) (hk : ops[k]? = some q) (h : EachStep P ops Q n L a w i o) (h2 : EachStep P ops Q n L a w j p) (h3 : EachStep P ops Q n L a w k q) : wpAny P .any ops Q (n + 1) L a w := by
  refine wpAny_all (by simpa using hr) (by simp) (fun l hl => ?_)
  rcases (by simpa using hl : l = i ∨ l = j ∨ l = k) with rfl | rfl | rfl
  · exact wpOp_step hi h
  · exact wpOp_step hj h2
  · exact wpOp_step hk h3
theorem each_done {L : Array Bool} {a : Act} {w : World} {n : Nat} (hr : Region.ready .any ops L = []) (h : Q .normal a w) : wpAny P .any ops (offPanic Q) n L a w := wpAny_done (Q := offPanic Q) hr h n
end
theorem results_rmedia {fn : Func} {p u : Tmp} (h : fn.results = #[.cell p 30, .tmp u]) (tmps : Array Value) (w : World) (g : Nat) (cs : Array Value) (fr : Nat × Nat)
    (hp : tmps.getD p undef = .pointer (some ⟨g, 0, none⟩)) (hg : w.heap[g]? = some (.cells cs 30 fr)) (hs : cs.size = 3) :
    (results fn tmps).run Tryd.prog w = .ok (.tuple #[.agg cs, tmps.getD u undef]) w := by
  rw [results_cell_tmp h, hp]
  have := run_loadVar_row (P := Tryd.prog) w g 30 30 cs fr _ hg Tryd.underlying30 rfl (by rw [hs]; kernel_rfl)
  simp [asAddr, this, Result.andThen]
theorem run_step (s : List UInt8) (N i : Nat) (c : UInt8) (hN : runL isSg s = N) (h : i ≤ N) (hg : s[i]? = some c) : decide (i < N) = isSg c := by
  subst hN
  cases hc : isSg c with
  | true => have := runL_more isSg s i c h hg hc; exact decide_eq_true (by omega)
  | false => have := runL_stop isSg s i c h hg hc; exact decide_eq_false (by omega)
theorem run_over (s : List UInt8) (N i : Nat) (hN : runL isSg s = N) (h : i ≤ N) (hl : s.length ≤ i) : decide (i < N) = false := by
  subst hN
  have := runL_end isSg s i h hl
  exact decide_eq_false (by omega)
/-- What stands behind the one great statement. -/
def Pr12 (D : World) (ty sub : List UInt8) (a g : Nat) (W : World) : Prop := Below D.heap.size D W ∧ D.heap.size ≤ g ∧ BlkIs W g #[] 109 ∧ D.heap.size ≤ a ∧ BlkIs W a #[.string ⟨ty.toArray⟩, .string ⟨sub.toArray⟩, .slice (some ⟨g, 0, none⟩) 0 0] 30
theorem blk_ne {w : World} {a b : Nat} {c d : Array Value} {T S : TypeId} (h : BlkIs w a c T) (h2 : BlkIs w b d S) (hne : T ≠ S) : a ≠ b := by
  rintro rfl
  unfold BlkIs at h h2
  rw [h] at h2
  injection h2 with h2
  injection h2 with _ h2
  exact hne h2
theorem pr12_leaf {D W : World} {ty sub : List UInt8} {a g : Nat} (hb : Below D.heap.size D W) (hg : D.heap.size ≤ g) (hG : BlkIs W g #[] 109) (ha : D.heap.size ≤ a) (hA : BlkIs W a zMed 30) :
    Pr12 D ty sub a g (((W.setCell ⟨a, 0, none⟩ (.string ⟨ty.toArray⟩)).setCell ⟨a, 1, none⟩ (.string ⟨sub.toArray⟩)).setCell ⟨a, 2, none⟩ (.slice (some ⟨g, 0, none⟩) 0 0)) := by
  have hne : g ≠ a := blk_ne hG hA (by decide)
  exact ⟨((hb.setCell (p := ⟨a, 0, none⟩) ha _).setCell (p := ⟨a, 1, none⟩) ha _).setCell (p := ⟨a, 2, none⟩) ha _, hg, ((hG.setOther _ _ hne).setOther _ _ hne).setOther _ _ hne, ha, ((hA.set 0 _).set 1 _).set 2 _⟩
theorem zCells {w : World} {b : Nat} {T : TypeId} (h : BlkIs w b zMed T) : w.cell? ⟨b, 0, none⟩ = some (.string ⟨#[]⟩) ∧ w.cell? ⟨b, 1, none⟩ = some (.string ⟨#[]⟩) ∧ w.cell? ⟨b, 2, none⟩ = some (.slice none 0 0) :=
  ⟨h.cell 0 _ rfl, h.cell 1 _ rfl, h.cell 2 _ rfl⟩
theorem zero_set {w : World} {b : Nat} {T : TypeId} (h : BlkIs w b zMed T) : BlkIs (((w.setCell ⟨b, 0, none⟩ (.string ⟨#[]⟩)).setCell ⟨b, 1, none⟩ (.string ⟨#[]⟩)).setCell ⟨b, 2, none⟩ (.slice none 0 0)) b zMed T := ((h.set 0 _).set 1 _).set 2 _
theorem mdR_no0 (s : List UInt8) (N : Nat) (hN : runL isSg s = N) (h : N = 0 ∨ s[N]? ≠ some 47) : mdR s = noMed := mdR_none s N hN h
theorem mdR_short (s : List UInt8) (N M : Nat) (hN : runL isSg s = N) (h0 : N ≠ 0) (h : s[N]? = some 47) (hM : N + 1 + runL isSg (s.drop (N + 1)) = M) (hk : M = N + 1) : mdR s = noMed := by
  rw [mdR_at s N hN h0 h]
  refine mdK_bad s (s.drop (N + 1)) N 0 _ _ _ (by omega) rfl (Or.inl rfl)
theorem mdR_fault (s : List UInt8) (N M m e : Nat) (ps : List Par) (hN : runL isSg s = N) (h0 : N ≠ 0) (h : s[N]? = some 47) (hM : N + 1 + runL isSg (s.drop (N + 1)) = M) (hl : M ≤ s.length) (hp : parR (s.drop M) = (ps, m, e)) (hb : e ≠ 0 ∨ M + m ≠ s.length) : mdR s = noMed := by
  rw [mdR_at s N hN h0 h]
  refine mdK_bad s (s.drop (N + 1)) N (runL isSg (s.drop (N + 1))) ps m e rfl (by rw [List.drop_drop, hM]; exact hp) (Or.inr (hb.imp id (fun hb => ?_)))
  rw [List.length_drop]
  omega
theorem mdR_good (s : List UInt8) (N M m : Nat) (ps : List Par) (hN : runL isSg s = N) (h0 : N ≠ 0) (h : s[N]? = some 47) (hM : N + 1 + runL isSg (s.drop (N + 1)) = M) (hk : M ≠ N + 1) (hl : M ≤ s.length) (hp : parR (s.drop M) = (ps, m, 0)) (hb : M + m = s.length) :
    mdR s = (lowL (s.take N), lowL ((s.drop (N + 1)).take (M - (N + 1))), ps.map lowP, true) := by
  rw [mdR_at s N hN h0 h]
  rw [mdK_ok s (s.drop (N + 1)) N (M - (N + 1)) ps m 0 (by omega) (by rw [List.drop_drop, show N + 1 + (M - (N + 1)) = M from by omega]; exact hp) (by omega) rfl (by rw [List.length_drop]; omega)]
end Go.Proofs.YthnniiakmjonjaaDoor
