/- The walks of narrow, accept's and the reference's, and of accept.above. Conditions: at most 2^30 parameters. -/
import Derived.Test.YthnniiakmjonjaaDoorRMeet
import Derived.ChangeKeysEq
namespace Go.Proofs.YthnniiakmjonjaaDoor
open Go.RowKit
set_option linter.unusedSimpArgs false
set_option linter.unusedVariables false
set_option maxRecDepth 1000000
abbrev Tri := Int × Int × Int
def starN (a : List UInt8) : Int := if a = [42] then 0 else 1
def narT (m : Mdm) : Tri := (starN m.sub, starN m.ty, (m.ps.length : Int))
abbrev triV (a : Tri) : Array Value := #[.int .i64 a.1, .int .i64 a.2.1, .int .i64 a.2.2]
def abP (a b : Tri) : Bool := if a.1 = b.1 then (if a.2.1 = b.2.1 then decide (b.2.2 < a.2.2) else decide (b.2.1 < a.2.1)) else decide (b.1 < a.1)
/-- The three numbers and the one say the same. -/
def TriOf (a : Tri) (k : Int) : Prop := (a = (-1, 0, 0) ∧ k = -1) ∨ ((a.1 = 0 ∨ a.1 = 1) ∧ (a.2.1 = 0 ∨ a.2.1 = 1) ∧ 0 ≤ a.2.2 ∧ a.2.2 ≤ 1073741824 ∧ k = a.2.2 + 2000000000000 * a.1 + 1000000000000 * a.2.1)
theorem starN_01 (a : List UInt8) : starN a = 0 ∨ starN a = 1 := by unfold starN; split; exact Or.inl rfl; exact Or.inr rfl
theorem nar_eq (m : Mdm) : nar m = (m.ps.length : Int) + 2000000000000 * starN m.sub + 1000000000000 * starN m.ty := by
  unfold nar starN
  split <;> split <;> omega
theorem triOf_nar (m : Mdm) (h : m.ps.length ≤ 1073741824) : TriOf (narT m) (nar m) := by
  refine Or.inr ⟨starN_01 _, starN_01 _, Int.natCast_nonneg _, ?_, nar_eq m⟩
  show (m.ps.length : Int) ≤ 1073741824
  omega
theorem abP_code (m : Mdm) (h : m.ps.length ≤ 1073741824) (b : Tri) (k : Int) (hb : TriOf b k) : abP (narT m) b = decide (k < nar m) := by
  obtain ⟨x, y, n⟩ := b
  rw [nar_eq m]
  have h1 := starN_01 m.sub
  have h2 := starN_01 m.ty
  unfold abP narT
  simp only
  rcases hb with ⟨hb, rfl⟩ | ⟨hx, hy, h0, h9, rfl⟩
  · simp only [Prod.mk.injEq] at hb
    obtain ⟨rfl, rfl, rfl⟩ := hb
    rw [if_neg (by rcases h1 with e | e <;> rw [e] <;> decide)]
    rw [decide_eq_true (by rcases h1 with e | e <;> rw [e] <;> decide), decide_eq_true (by rcases h1 with e | e <;> rcases h2 with e2 | e2 <;> rw [e, e2] <;> omega)]
  · simp only at hx hy h0 h9
    generalize starN m.sub = s at *
    generalize starN m.ty = t at *
    rw [Bool.eq_iff_iff]
    rcases h1 with rfl | rfl <;> rcases h2 with rfl | rfl <;> rcases hx with rfl | rfl <;> rcases hy with rfl | rfl <;> simp <;> omega
theorem abP_self (a : Tri) : abP a a = false := by unfold abP; rw [if_pos rfl, if_pos rfl]; simp
theorem abP_0 (a b : Tri) (h : a.1 ≠ b.1) : abP a b = decide (b.1 < a.1) := by unfold abP; rw [if_neg h]
theorem abP_1 (a b : Tri) (h0 : a.1 = b.1) (h : a.2.1 ≠ b.2.1) : abP a b = decide (b.2.1 < a.2.1) := by unfold abP; rw [if_pos h0, if_neg h]
theorem abP_2 (a b : Tri) (h0 : a.1 = b.1) (h : a.2.1 = b.2.1) : abP a b = decide (b.2.2 < a.2.2) := by unfold abP; rw [if_pos h0, if_pos h]
set_option maxHeartbeats 4000000 in
theorem rnarrow_any (m : Mdm) (mv : Value) (w : World) (hn : m.ps.length ≤ 1073741824) (h : ParsIn w mv m.ps) :
    Calls Tryd.prog 75 #[.agg #[.string ⟨m.ty.toArray⟩, .string ⟨m.sub.toArray⟩, mv]] w fun e w' => e = .returned (.int .i64 (nar m)) ∧ Below w.heap.size w w' := by
  obtain ⟨ty, sub, ps⟩ := m
  obtain ⟨ao, cap, rfl, _⟩ := h
  simp only at hn
  have hb : Below w.heap.size w (w.alloc (medO ⟨ty, sub, ps⟩ (.slice ao ps.length cap) 30)) := (Below.refl _ w).alloc (Nat.le_refl _) _
  have HB := Lib.hid hb
  clear hb
  obtain ⟨n, hln⟩ : ∃ n, ps.length = n := ⟨_, rfl⟩
  rw [hln] at hn HB
  by_cases h1 : sub = [42]
  · have b1 : (sub == [42]) = true := by rw [h1]; rfl
    by_cases h2 : ty = [42]
    · have b2 : (ty == [42]) = true := by rw [h2]; rfl
      have HR := Lib.hid (show nar ⟨ty, sub, ps⟩ = (n : Int) by unfold nar; rw [if_pos h1, if_pos h2, hln]; omega)
      clear h1 h2
      go_enter Tryd.func75, Tryd.ntmps75
      go_wp2
      go_ret
      rw [HR.out]
      exact ⟨rfl, HB.out⟩
    · have b2 : (ty == [42]) = false := beq_false_of_ne h2
      obtain ⟨N, hN⟩ : ∃ N : Int, (n : Int) + 1000000000000 = N := ⟨_, rfl⟩
      have HR := Lib.hid (show nar ⟨ty, sub, ps⟩ = N by unfold nar; rw [if_pos h1, if_neg h2, hln]; omega)
      have hw : IntKind.i64.wrap N = N := by rw [IntKind.wrap_i64]; omega
      have hw2 : wrap64 N = N := by unfold wrap64; omega
      clear h1 h2 hn
      go_enter Tryd.func75, Tryd.ntmps75
      go_wp2
      go_ret
      rw [HR.out]
      exact ⟨rfl, HB.out⟩
  · have b1 : (sub == [42]) = false := beq_false_of_ne h1
    obtain ⟨M, hM⟩ : ∃ M : Int, (n : Int) + 2000000000000 = M := ⟨_, rfl⟩
    have hv : IntKind.i64.wrap M = M := by rw [IntKind.wrap_i64]; omega
    have hv2 : wrap64 M = M := by unfold wrap64; omega
    by_cases h2 : ty = [42]
    · have b2 : (ty == [42]) = true := by rw [h2]; rfl
      have HR := Lib.hid (show nar ⟨ty, sub, ps⟩ = M by unfold nar; rw [if_neg h1, if_pos h2, hln]; omega)
      clear h1 h2 hn
      go_enter Tryd.func75, Tryd.ntmps75
      go_wp2
      go_ret
      rw [HR.out]
      exact ⟨rfl, HB.out⟩
    · have b2 : (ty == [42]) = false := beq_false_of_ne h2
      obtain ⟨N, hN⟩ : ∃ N : Int, M + 1000000000000 = N := ⟨_, rfl⟩
      have HR := Lib.hid (show nar ⟨ty, sub, ps⟩ = N by unfold nar; rw [if_neg h1, if_neg h2, hln]; omega)
      have hw : IntKind.i64.wrap N = N := by rw [IntKind.wrap_i64]; omega
      have hw2 : wrap64 N = N := by unfold wrap64; omega
      clear h1 h2 hn
      go_enter Tryd.func75, Tryd.ntmps75
      go_wp2
      go_ret
      rw [HR.out]
      exact ⟨rfl, HB.out⟩
theorem blk3 (w : World) (A B : Obj) (cs : Array Value) (T : TypeId) : (((w.alloc A).alloc (.cells cs T)).alloc B).heap[w.heap.size + 1]? = some (.cells cs T (0, 0)) := by
  have h : BlkIs ((w.alloc A).alloc (.cells cs T)) (w.heap.size + 1) cs T := by
    have := blkIs_new (w.alloc A) cs T
    simpa using this
  exact h.alloc B
theorem bel3 (w : World) (A B C : Obj) : Below w.heap.size w (((w.alloc A).alloc B).alloc C) := (((Below.refl _ w).alloc (Nat.le_refl _) A).alloc (alloc_le (Nat.le_refl _) A) B).alloc (alloc_le (alloc_le (Nat.le_refl _) A) B) C
theorem info_int3 : ∃ i, Tryd.prog.info? 3 = some i := info_of_underlying Tryd.underlying3
theorem cells_int3 : Tryd.prog.cellsOf 3 = 1 := by kernel_rfl
theorem eqTri (a0 a1 a2 b0 b1 b2 : Int) (w : World) : (Op.equalIn 10000 123 (.agg #[.int .i64 a0, .int .i64 a1, .int .i64 a2]) (.agg #[.int .i64 b0, .int .i64 b1, .int .i64 b2])).run Tryd.prog w = .ok (decide ((a0, a1, a2) = (b0, b1, b2))) w := by
  obtain ⟨i, hi⟩ := info_int3
  have hp : Tryd.prog.plainKey 3 = true := by kernel_rfl
  rw [show (10000 : Nat) = 9999 + 1 from rfl, run_equalIn_array w 9999 _ _ Tryd.underlying123 hi, cells_int3, show List.range 3 = [0, 1, 2] from rfl]
  have q : ∀ (x0 x1 x2 : Int), (part 3 #[.int .i64 x0, .int .i64 x1, .int .i64 x2] 0).run Tryd.prog w = .ok (.int .i64 x0) w ∧ (part 3 #[.int .i64 x0, .int .i64 x1, .int .i64 x2] 1).run Tryd.prog w = .ok (.int .i64 x1) w ∧ (part 3 #[.int .i64 x0, .int .i64 x1, .int .i64 x2] 2).run Tryd.prog w = .ok (.int .i64 x2) w :=
    fun x0 x1 x2 => ⟨run_part_plain w hp rfl, run_part_plain w hp rfl, run_part_plain w hp rfl⟩
  have r : ∀ x y : Int, (Op.equalIn 9999 3 (.int .i64 x) (.int .i64 y)).run Tryd.prog w = .ok (x == y) w := fun x y => run_equalIn_int w 9998 3 .i64 .i64 x y Tryd.underlying3
  by_cases h0 : a0 = b0
  · subst h0
    by_cases h1 : a1 = b1
    · subst h1
      by_cases h2 : a2 = b2
      · subst h2
        simp [Op.eqItems, (q a0 a1 a2).1, (q a0 a1 a2).2.1, (q a0 a1 a2).2.2, r]
      · simp [Op.eqItems, (q a0 a1 a2).1, (q a0 a1 a2).2.1, (q a0 a1 a2).2.2, (q a0 a1 b2).1, (q a0 a1 b2).2.1, (q a0 a1 b2).2.2, r, h2]
    · simp [Op.eqItems, (q a0 a1 a2).1, (q a0 a1 a2).2.1, (q a0 a1 a2).2.2, (q a0 b1 b2).1, (q a0 b1 b2).2.1, (q a0 b1 b2).2.2, r, h1]
  · simp [Op.eqItems, (q a0 a1 a2).1, (q b0 b1 b2).1, r, h0]
set_option maxHeartbeats 4000000 in
theorem narrow_any (m : Mdm) (mv : Value) (w : World) (hn : m.ps.length ≤ 1073741824) (h : ParsIn w mv m.ps) :
    Calls Tryd.prog 74 #[.agg #[.string ⟨m.ty.toArray⟩, .string ⟨m.sub.toArray⟩, mv]] w fun e w' => e = .returned (.agg (triV (narT m))) ∧ Below w.heap.size w w' := by
  obtain ⟨ty, sub, ps⟩ := m
  obtain ⟨ao, cap, rfl, _⟩ := h
  simp only at hn
  obtain ⟨n, hln⟩ : ∃ n, ps.length = n := ⟨_, rfl⟩
  rw [hln] at hn
  by_cases h1 : sub = [42]
  · have b1 : (sub == [42]) = true := by rw [h1]; rfl
    by_cases h2 : ty = [42]
    · have b2 : (ty == [42]) = true := by rw [h2]; rfl
      have HR := Lib.hid (show narT ⟨ty, sub, ps⟩ = (0, 0, (n : Int)) by unfold narT starN; rw [if_pos h1, if_pos h2, hln])
      clear h1 h2
      go_enter Tryd.func74, Tryd.ntmps74
      go_wp2
      (try simp only [Exit.inBlock, Exit.then])
      rw [HR.out]
      refine bodyPost_ret (v := .agg #[.int .i64 0, .int .i64 0, .int .i64 (n : Int)]) ?mr00 rfl ⟨rfl, ?mb00⟩
      case mr00 => exact results_cell_row (p := 2) (ty := 123) rfl _ _ (w.heap.size + 1) 123 _ (0, 0) _ rfl (blk3 w _ _ _ _) Tryd.underlying123 rfl (by kernel_rfl)
      case mb00 => exact bel3 w _ _ _
    · have b2 : (ty == [42]) = false := beq_false_of_ne h2
      have HR := Lib.hid (show narT ⟨ty, sub, ps⟩ = (0, 1, (n : Int)) by unfold narT starN; rw [if_pos h1, if_neg h2, hln])
      clear h1 h2
      go_enter Tryd.func74, Tryd.ntmps74
      go_wp2
      (try simp only [Exit.inBlock, Exit.then])
      rw [HR.out]
      refine bodyPost_ret (v := .agg #[.int .i64 0, .int .i64 1, .int .i64 (n : Int)]) ?mr01 rfl ⟨rfl, ?mb01⟩
      case mr01 => exact results_cell_row (p := 2) (ty := 123) rfl _ _ (w.heap.size + 1) 123 _ (0, 0) _ rfl (blk3 w _ _ _ _) Tryd.underlying123 rfl (by kernel_rfl)
      case mb01 => exact bel3 w _ _ _
  · have b1 : (sub == [42]) = false := beq_false_of_ne h1
    by_cases h2 : ty = [42]
    · have b2 : (ty == [42]) = true := by rw [h2]; rfl
      have HR := Lib.hid (show narT ⟨ty, sub, ps⟩ = (1, 0, (n : Int)) by unfold narT starN; rw [if_neg h1, if_pos h2, hln])
      clear h1 h2
      go_enter Tryd.func74, Tryd.ntmps74
      go_wp2
      (try simp only [Exit.inBlock, Exit.then])
      rw [HR.out]
      refine bodyPost_ret (v := .agg #[.int .i64 1, .int .i64 0, .int .i64 (n : Int)]) ?mr10 rfl ⟨rfl, ?mb10⟩
      case mr10 => exact results_cell_row (p := 2) (ty := 123) rfl _ _ (w.heap.size + 1) 123 _ (0, 0) _ rfl (blk3 w _ _ _ _) Tryd.underlying123 rfl (by kernel_rfl)
      case mb10 => exact bel3 w _ _ _
    · have b2 : (ty == [42]) = false := beq_false_of_ne h2
      have HR := Lib.hid (show narT ⟨ty, sub, ps⟩ = (1, 1, (n : Int)) by unfold narT starN; rw [if_neg h1, if_neg h2, hln])
      clear h1 h2
      go_enter Tryd.func74, Tryd.ntmps74
      go_wp2
      (try simp only [Exit.inBlock, Exit.then])
      rw [HR.out]
      refine bodyPost_ret (v := .agg #[.int .i64 1, .int .i64 1, .int .i64 (n : Int)]) ?mr11 rfl ⟨rfl, ?mb11⟩
      case mr11 => exact results_cell_row (p := 2) (ty := 123) rfl _ _ (w.heap.size + 1) 123 _ (0, 0) _ rfl (blk3 w _ _ _ _) Tryd.underlying123 rfl (by kernel_rfl)
      case mb11 => exact bel3 w _ _ _
set_option maxHeartbeats 4000000 in
theorem above_any (a b : Tri) (w : World) :
    Calls Tryd.prog 73 #[.agg (triV a), .agg (triV b)] w fun e w' => e = .returned (.bool (abP a b)) ∧ Below w.heap.size w w' := by
  obtain ⟨a0, a1, a2⟩ := a
  obtain ⟨b0, b1, b2⟩ := b
  show Calls Tryd.prog 73 #[.agg #[.int .i64 a0, .int .i64 a1, .int .i64 a2], .agg #[.int .i64 b0, .int .i64 b1, .int .i64 b2]] w _
  have heq := eqTri a0 a1 a2 b0 b1 b2
  by_cases hab : (a0, a1, a2) = (b0, b1, b2)
  · rw [decide_eq_true hab] at heq
    have HX := Lib.hid (show abP (a0, a1, a2) (b0, b1, b2) = false by rw [hab]; exact abP_self _)
    clear hab
    go_enter Tryd.func73, Tryd.ntmps73
    go_wp2
    go_ret
    rw [HX.out]
    exact ⟨rfl, by have := (bel2 w (.cells #[.int .i64 a0, .int .i64 a1, .int .i64 a2] 123) (.cells #[.int .i64 b0, .int .i64 b1, .int .i64 b2] 123)); exact ⟨this.os, this.tape, this.output, this.size, this.block⟩⟩
  · rw [decide_eq_false hab] at heq
    have HN := Lib.hid hab
    have hrel : Below w.heap.size w ((w.alloc (.cells #[.int .i64 a0, .int .i64 a1, .int .i64 a2] 123)).alloc (.cells #[.int .i64 b0, .int .i64 b1, .int .i64 b2] 123)) ∧ BlkIs ((w.alloc (.cells #[.int .i64 a0, .int .i64 a1, .int .i64 a2] 123)).alloc (.cells #[.int .i64 b0, .int .i64 b1, .int .i64 b2] 123)) w.heap.size #[.int .i64 a0, .int .i64 a1, .int .i64 a2] 123 ∧ BlkIs ((w.alloc (.cells #[.int .i64 a0, .int .i64 a1, .int .i64 a2] 123)).alloc (.cells #[.int .i64 b0, .int .i64 b1, .int .i64 b2] 123)) (w.heap.size + 1) #[.int .i64 b0, .int .i64 b1, .int .i64 b2] 123 := by
      have h1 := (bel2 w (.cells #[.int .i64 a0, .int .i64 a1, .int .i64 a2] 123) (.cells #[.int .i64 b0, .int .i64 b1, .int .i64 b2] 123))
      have h2 := blk2 w #[.int .i64 a0, .int .i64 a1, .int .i64 a2] #[.int .i64 b0, .int .i64 b1, .int .i64 b2] 123 123
      exact ⟨⟨h1.os, h1.tape, h1.output, h1.size, h1.block⟩, h2.1, h2.2⟩
    have HREL := Lib.hid hrel
    clear hab hrel
    go_enter Tryd.func73, Tryd.ntmps73
    go_wp2
    go_loopw [9] (fun iv wr => ∃ i : Nat, iv = .int .i64 i ∧ i ≤ 3 ∧ (0 < i → a0 = b0) ∧ (1 < i → a1 = b1) ∧ (2 < i → a2 = b2) ∧ Below w.heap.size w wr ∧ BlkIs wr w.heap.size #[.int .i64 a0, .int .i64 a1, .int .i64 a2] 123 ∧ BlkIs wr (w.heap.size + 1) #[.int .i64 b0, .int .i64 b1, .int .i64 b2] 123) (fun iv _ => 3 - (intOf iv).toNat)
    case atStart => exact ⟨0, rfl, by omega, fun h => absurd h (by omega), fun h => absurd h (by omega), fun h => absurd h (by omega), HREL.out⟩
    case round =>
    clear heq HREL
    obtain ⟨i, rfl, hi, e0, e1, e2, hb, hA, hB⟩ := hrel
    have HB := Lib.hid (And.intro hb (And.intro hA hB))
    have c0 : wr.cell? ⟨w.heap.size, 0, none⟩ = some (.int .i64 a0) := hA.cell 0 _ rfl
    have c1 : wr.cell? ⟨w.heap.size, 1, none⟩ = some (.int .i64 a1) := hA.cell 1 _ rfl
    have c2 : wr.cell? ⟨w.heap.size, 2, none⟩ = some (.int .i64 a2) := hA.cell 2 _ rfl
    have d0 : wr.cell? ⟨w.heap.size + 1, 0, none⟩ = some (.int .i64 b0) := hB.cell 0 _ rfl
    have d1 : wr.cell? ⟨w.heap.size + 1, 1, none⟩ = some (.int .i64 b1) := hB.cell 1 _ rfl
    have d2 : wr.cell? ⟨w.heap.size + 1, 2, none⟩ = some (.int .i64 b2) := hB.cell 2 _ rfl
    clear hb hA hB
    rcases (show i = 0 ∨ i = 1 ∨ i = 2 ∨ i = 3 by omega) with rfl | rfl | rfl | rfl
    · by_cases h : a0 = b0
      · have hq : (a0 != b0) = false := by simp [h]
        have HE := Lib.hid (And.intro e0 (And.intro e1 h))
        clear e0 e1 e2 h
        go_wp2_with fail
        refine wp_region_still_lit (by kernel_rfl) (by kernel_rfl) ?_
        repeat still_step
        refine wpStill_nil ?_
        go_wp2
        obtain ⟨e0, e1, h⟩ := HE.out
        go_roundw
        case rel => exact ⟨1, rfl, by omega, fun _ => h, fun h => absurd h (by omega), fun h => absurd h (by omega), HB.out.1.drew, HB.out.2.1, HB.out.2.2⟩
        case measure => simp [intOf]
      · have hq : (a0 != b0) = true := by simp [h]
        obtain ⟨W3, hW3⟩ : ∃ W3, wr.drew = W3 := ⟨_, rfl⟩
        have x0 : W3.cell? ⟨w.heap.size, 0, none⟩ = some (.int .i64 a0) := by rw [← hW3]; exact c0
        have y0 : W3.cell? ⟨w.heap.size + 1, 0, none⟩ = some (.int .i64 b0) := by rw [← hW3]; exact d0
        have HW3 := Lib.hid hW3
        clear hW3
        have HE := Lib.hid (abP_0 (a0, a1, a2) (b0, b1, b2) h)
        clear e0 e1 e2 h
        go_wp2_with fail
        refine wp_region_still_lit (by kernel_rfl) (by kernel_rfl) ?_
        repeat still_step
        refine wpStill_nil ?_
        go_upto_region 7 with fail
        show Code.wp Tryd.prog _ _ _ wr.drew
        rw [HW3.out]
        clear c0 c1 c2 d0 d1 d2
        refine wp_region_still_lit (by kernel_rfl) (by kernel_rfl) ?_
        repeat still_step
        refine wpStill_nil ?_
        go_wp2
        go_ret
        rw [HE.out]
        rw [← HW3.out]
        exact ⟨rfl, HB.out.1.drew.drew⟩
    · by_cases h : a1 = b1
      · have hq : (a1 != b1) = false := by simp [h]
        have HE := Lib.hid (And.intro e0 (And.intro e1 h))
        clear e0 e1 e2 h
        go_wp2_with fail
        refine wp_region_still_lit (by kernel_rfl) (by kernel_rfl) ?_
        repeat still_step
        refine wpStill_nil ?_
        go_wp2
        obtain ⟨e0, e1, h⟩ := HE.out
        go_roundw
        case rel => exact ⟨2, rfl, by omega, fun _ => e0 (by omega), fun _ => h, fun h => absurd h (by omega), HB.out.1.drew, HB.out.2.1, HB.out.2.2⟩
        case measure => simp [intOf]
      · have hq : (a1 != b1) = true := by simp [h]
        obtain ⟨W3, hW3⟩ : ∃ W3, wr.drew = W3 := ⟨_, rfl⟩
        have x1 : W3.cell? ⟨w.heap.size, 1, none⟩ = some (.int .i64 a1) := by rw [← hW3]; exact c1
        have y1 : W3.cell? ⟨w.heap.size + 1, 1, none⟩ = some (.int .i64 b1) := by rw [← hW3]; exact d1
        have HW3 := Lib.hid hW3
        clear hW3
        have HE := Lib.hid (abP_1 (a0, a1, a2) (b0, b1, b2) (e0 (by omega)) h)
        clear e0 e1 e2 h
        go_wp2_with fail
        refine wp_region_still_lit (by kernel_rfl) (by kernel_rfl) ?_
        repeat still_step
        refine wpStill_nil ?_
        go_upto_region 7 with fail
        show Code.wp Tryd.prog _ _ _ wr.drew
        rw [HW3.out]
        clear c0 c1 c2 d0 d1 d2
        refine wp_region_still_lit (by kernel_rfl) (by kernel_rfl) ?_
        repeat still_step
        refine wpStill_nil ?_
        go_wp2
        go_ret
        rw [HE.out]
        rw [← HW3.out]
        exact ⟨rfl, HB.out.1.drew.drew⟩
    · by_cases h : a2 = b2
      · have hq : (a2 != b2) = false := by simp [h]
        have HE := Lib.hid (And.intro e0 (And.intro e1 h))
        clear e0 e1 e2 h
        go_wp2_with fail
        refine wp_region_still_lit (by kernel_rfl) (by kernel_rfl) ?_
        repeat still_step
        refine wpStill_nil ?_
        go_wp2
        obtain ⟨e0, e1, h⟩ := HE.out
        go_roundw
        case rel => exact ⟨3, rfl, by omega, fun _ => e0 (by omega), fun _ => e1 (by omega), fun _ => h, HB.out.1.drew, HB.out.2.1, HB.out.2.2⟩
        case measure => simp [intOf]
      · have hq : (a2 != b2) = true := by simp [h]
        obtain ⟨W3, hW3⟩ : ∃ W3, wr.drew = W3 := ⟨_, rfl⟩
        have x2 : W3.cell? ⟨w.heap.size, 2, none⟩ = some (.int .i64 a2) := by rw [← hW3]; exact c2
        have y2 : W3.cell? ⟨w.heap.size + 1, 2, none⟩ = some (.int .i64 b2) := by rw [← hW3]; exact d2
        have HW3 := Lib.hid hW3
        clear hW3
        have HE := Lib.hid (abP_2 (a0, a1, a2) (b0, b1, b2) (e0 (by omega)) (e1 (by omega)))
        clear e0 e1 e2 h
        go_wp2_with fail
        refine wp_region_still_lit (by kernel_rfl) (by kernel_rfl) ?_
        repeat still_step
        refine wpStill_nil ?_
        go_upto_region 7 with fail
        show Code.wp Tryd.prog _ _ _ wr.drew
        rw [HW3.out]
        clear c0 c1 c2 d0 d1 d2
        refine wp_region_still_lit (by kernel_rfl) (by kernel_rfl) ?_
        repeat still_step
        refine wpStill_nil ?_
        go_wp2
        go_ret
        rw [HE.out]
        rw [← HW3.out]
        exact ⟨rfl, HB.out.1.drew.drew⟩
    · exact absurd (by rw [e0 (by omega), e1 (by omega), e2 (by omega)]) HN.out
end Go.Proofs.YthnniiakmjonjaaDoor
