/- The walk of target.Normal at "/a", its second part: the range over the segments. Conditions: bytealg's MaxLen holds an int. -/
import Derived.Test.YtpdbejeiceodkaaGreatDoorTgt
import Derived.Test.YtpdbejeiceodkaaGreatDoorParM
import Derived.Shelf.Strings.BuilderK
namespace Go.Proofs.YtpdbejeiceodkaaGreatDoor
open Go.RowKit Go.Shelf
attribute [local go_sem] Oper.semAt_some
set_option linter.unusedSimpArgs false
set_option linter.unusedVariables false
set_option maxRecDepth 1000000
theorem cutA (m : Int) (w : World) (hm : w.cell? ⟨0, 0, none⟩ = some (.int .i64 m)) : Calls Tryz.prog 46 #[.string ⟨#[97]⟩, .string ⟨#[47]⟩] w fun e w' => e = .returned (.tuple #[.string ⟨#[97]⟩, .string ⟨#[]⟩, .bool false]) ∧ ∃ n, w' = w.drewN n := by
  have h := Tryz.strings_Cut ⟨#[97]⟩ ⟨#[47]⟩ m w (by decide) hm
  rw [show Lib.cut (⟨#[97]⟩ : ByteArray).data.toList (⟨#[47]⟩ : ByteArray).data.toList = ([97], [], false) by decide] at h
  exact h
theorem grown_drewN (w : World) (n : Nat) : w.grownBy (w.drewN n) none := ⟨rfl, rfl, rfl, Nat.le_refl _, fun k _ _ => rfl⟩
set_option maxHeartbeats 2000000 in
theorem eachA_in (n l Bx n₀ : Nat) (hn : 1 ≤ n) (m : Int) (J Jx : List Unit → World → Prop)
    (hY : ∀ pre x W, J pre W → pre.length < 1 → YieldAt Fence.wide (n - 1) Tryz.prog l #[.string ⟨#[97]⟩] W fun e W' =>
      (e = .returned (.bool true) ∧ J (pre ++ [x]) W' ∧ Below n₀ W W') ∨ (e = .returned (.bool false) ∧ Jx (pre ++ [x]) W'))
    (W : World) (hJ : AbidesFrom W.heap.size J) (hBx : W.cell? ⟨Bx, 0, none⟩ = some (.string (⟨#[47, 97]⟩ : ByteArray))) (hm : W.cell? ⟨0, 0, none⟩ = some (.int .i64 m)) (h0 : J [] W) :
    CallsIn Fence.wide n Tryz.prog 179 #[.func (.yield l) #[] #[], .pointer (some ⟨Bx, 0, none⟩)] W fun e W' => (∃ v, e = .returned v) ∧
      ((∃ ys, ys = [()] ∧ J ys W') ∨ (∃ pre, pre <+: [()] ∧ Jx pre W')) := by
  refine callsIn_of_wp Tryz.func179 rfl trivial ?_ rfl
  simp only [Tryz.ntmps179, List.size_toArray, List.length_cons, List.length_nil, Nat.reduceAdd, Nat.reduceSub, Array.replicate_succ, Array.replicate_zero, List.push_toArray, List.append_toArray, List.nil_append, List.cons_append]
  gi_wp2_with (refine ⟨trivial, ?_⟩; gi_at_call 45; refine (callsIn_wide.2 (cutPreA _)).mono ?_; rintro e W ⟨rfl, rfl⟩)
  refine wpIn_loop_rounds 2 ?_
  rw [roundsIn_succ]
  gi_wp2_with (refine ⟨trivial, ?_⟩; gi_at_call 46; refine (callsIn_wide.2 (cutA m _ hm)).mono ?_; rintro e w' ⟨rfl, k, rfl⟩; obtain ⟨fn, tmps, assign, body, hy, hR⟩ := hY [] () (W.drewN k) (hJ [] W (W.drewN k) none h0 (grown_drewN W k) (fun r e => by cases e)) (by decide))
  refine hR.mono ?_
  rintro e W3 (⟨rfl, hJ3, hk3⟩ | ⟨rfl, hJx3⟩)
  · gi_wp2
    rw [roundsIn_succ]
    gi_wp2
    go_end0
    exact ⟨⟨_, rfl⟩, .inl ⟨[()], rfl, hJ3⟩⟩
  · gi_wp2
    refine bodyPost_ret (results_none rfl _ _ _) rfl ?_
    exact ⟨⟨_, rfl⟩, .inr ⟨[()], ⟨[], rfl⟩, hJx3⟩⟩
theorem eachA_stops (n Bx n₀ : Nat) (hn : 1 ≤ n) (m : Int) (w : World) (hBx : Bx < w.heap.size) (hc : w.cell? ⟨Bx, 0, none⟩ = some (.string (⟨#[47, 97]⟩ : ByteArray))) (hm : w.cell? ⟨0, 0, none⟩ = some (.int .i64 m)) :
    SeqStopsK Fence.wide n Tryz.prog 179 #[.pointer (some ⟨Bx, 0, none⟩)] (fun _ : Unit => #[Value.string ⟨#[97]⟩]) (Below n₀) (fun ys => ys = [()]) (fun pre => pre <+: [()]) 1 w := fun l J Jx W hW hJ _ hY h0 =>
  eachA_in n l Bx n₀ hn m J Jx hY W hJ ((hW.cell (p := ⟨Bx, 0, none⟩) hBx).trans hc) (mx_later (B := 0) hm hW) h0
theorem bld_laterT {B b : Nat} {T e : TypeId} {bs : List Value} {w w' : World} (h : Lib.IsBuilder T e B b bs w) (hb : Below w.heap.size w w') : Lib.IsBuilder T e B b bs w' := by
  have key : ∀ p, Lib.BuilderAt T e B b p bs w → Lib.BuilderAt T e B b p bs w' := fun p ⟨h1, v, h2, h3, h4⟩ =>
    ⟨h1, v, by rw [hb.block b (Array.getElem?_eq_some_iff.1 h2).1]; exact h2, own_later h3 hb, h4⟩
  rcases h with h | h
  · exact Or.inl (key _ h)
  · exact Or.inr (key _ h)
theorem strA (B b : Nat) (w : World) (h : Lib.IsBuilder 156 5 B b (Lib.byteCells [47, 97]) w) (hB : B ≤ w.heap.size) :
    Calls Tryz.prog 94 #[.pointer (some ⟨b, 0, none⟩)] w fun e w' => e = .returned (.string (⟨#[47, 97]⟩ : ByteArray)) ∧ Below B w w' ∧ Lib.OthersKept 5 (some b) w w' :=
  (Any.Builder_String_any_k Tryz.lays169 Tryz.Builder_Extra_169 B b [47, 97] w (Lib.IsBuilderF.of h) hB).mono fun e w' ⟨he, _, h1, h2⟩ => ⟨he, h1, h2⟩
theorem boxed_kept {w w' : World} {b B : Nat} {t : TypeId} {v : Value} (h : Boxed w B t v) (hk : Lib.OthersKept 5 (some b) w w') (hne : B ≠ b) (ht : t ≠ 5) : Boxed w' B t v :=
  hk B _ h (fun e => hne (by injection e)) (fun c fz e => by injection e with _ e; exact ht e)
def NrmI (w : World) (B1 B2 : Nat) (pre : List Unit) (W : World) : Prop :=
  ((∃ v, Boxed W B1 34 v ∧ W.ownsRow w.heap.size 9 1 v pre.length (pre.map fun _ => Value.string (⟨#[97]⟩ : ByteArray)) ∧ True) ∧ Boxed W B2 4 (.bool false)) ∧ Below w.heap.size w W
theorem nrmI_own (w : World) (B1 B2 B : Nat) (hB : w.heap.size ≤ B) : OwnFrom B (NrmI w B1 B2) :=
  OwnFrom.and (OwnFrom.and (Own.from (holdsRow_own w.heap.size B1 34 9 1 (fun pre : List Unit => pre.length) (fun pre => pre.map fun _ => Value.string (⟨#[97]⟩ : ByteArray)) (fun _ _ => True)) _) (Own.from (boxed_own B2 4 (fun _ => .bool false)) _)) (ownFrom_below (Nat.le_refl _) hB)
theorem eachA_call (w : World) : Calls Tryz.prog 144 #[.string (⟨#[47, 97]⟩ : ByteArray)] w fun e w' => e = .returned (.func (.func 179) #[] #[.pointer (some ⟨w.heap.size, 0, none⟩)]) ∧ w' = w.alloc (.cells #[.string (⟨#[47, 97]⟩ : ByteArray)] 9) := by
  go_enter Tryz.func144, Tryz.ntmps144
  go_wp2
  go_ret
  exact ⟨rfl, rfl⟩
theorem infoStrN : (Tryz.prog.info? 9).map (fun i => (i.zero, i.size, i.bytes)) = some (some (.string ByteArray.empty), 1, 16) := by kernel_rfl
set_option maxHeartbeats 4000000 in
theorem normA (m : Int) (w : World) (hm : w.cell? ⟨0, 0, none⟩ = some (.int .i64 m)) : Calls Tryz.prog 98 #[.string (⟨#[47, 97]⟩ : ByteArray)] w fun e w' => e = .returned (.tuple #[.string (⟨#[47, 97]⟩ : ByteArray), .int .i64 0]) ∧ Below w.heap.size w w' := by
  obtain ⟨i0, hi, hz0, hz1, hz2⟩ := info_parts infoStrN
  have hbl := Lib.fresh_isBuilder 156 5 w
  refine (callsIn_wide (n := 9)).1 ?_
  refine callsIn_of_wp_marks Tryz.func98 rfl trivial ?_ rfl
  simp only [Tryz.ntmps98, List.size_toArray, List.length_cons, List.length_nil, Nat.reduceAdd, Nat.reduceSub, Array.replicate_succ, Array.replicate_zero, List.push_toArray, List.append_toArray, List.nil_append, List.cons_append]
  gi_wp2_with (refine ⟨trivial, ?_⟩; gi_at_call 139; refine (callsIn_wide.2 (isPathA _)).mono ?_; rintro e w ⟨rfl, rfl⟩)
  have z0 : w.heap.size ≤ (w.alloc (.cells #[.pointer none, .slice none 0 0] 156)).heap.size := by simp
  have hb0 := (Below.refl _ w).alloc (Nat.le_refl _) (.cells #[.pointer none, .slice none 0 0] 156)
  refine wpIn_loop_rounds 3 ?_
  rw [roundsIn_succ]
  gi_wp2_with (refine ⟨trivial, ?_⟩; gi_at_call 140; refine (callsIn_wide.2 (trpA 0 _ (.inl rfl))).mono ?_; rintro e w2 ⟨rfl, hw2⟩; subst hw2)
  gi_wp2_with (refine ⟨trivial, ?_⟩; gi_at_call 93; refine (callsIn_wide.2 (writeByte_any w.heap.size w.heap.size [] 47 _ hbl (by decide) z0)).mono ?_; rintro e w3 ⟨rfl, hbl3, hb3⟩)
  have hbw3 : Below w.heap.size w w3 := hb0.trans hb3
  have z3 := hbw3.size
  rw [roundsIn_succ]
  gi_wp2_with (refine ⟨trivial, ?_⟩; gi_at_call 140; refine (callsIn_wide.2 (trpA 1 _ (.inr rfl))).mono ?_; rintro e w4 ⟨rfl, hw4⟩; subst hw4)
  gi_wp2_with (refine ⟨trivial, ?_⟩; gi_at_call 93; refine (callsIn_wide.2 (writeByte_any w.heap.size w.heap.size _ 97 _ hbl3 (by decide) z3)).mono ?_; rintro e w5 ⟨rfl, hbl5, hb5⟩)
  have hbw5 : Below w.heap.size w w5 := hbw3.trans hb5
  have z5 := hbw5.size
  have hbl5 : Lib.IsBuilder 156 5 w.heap.size w.heap.size (Lib.byteCells [47, 97]) w5 := hbl5
  rw [roundsIn_succ]
  have hb56 : Below w5.heap.size w5 ((w5.alloc (.cells #[.slice none 0 0] 34)).alloc (.cells #[.bool false] 4)) := ((Below.refl _ w5).alloc (Nat.le_refl _) _).alloc (by simp) _
  have z6 : w.heap.size ≤ ((w5.alloc (.cells #[.slice none 0 0] 34)).alloc (.cells #[.bool false] 4)).heap.size := by simp; omega
  have x1 : Boxed ((w5.alloc (.cells #[.slice none 0 0] 34)).alloc (.cells #[.bool false] 4)) w5.heap.size 34 (.slice none 0 0) := (Boxed.new w5 34 _).alloc _
  have x2 : Boxed ((w5.alloc (.cells #[.slice none 0 0] 34)).alloc (.cells #[.bool false] 4)) (w5.heap.size + 1) 4 (.bool false) := by have := Boxed.new (w5.alloc (.cells #[.slice none 0 0] 34)) 4 (.bool false); rwa [World.size_alloc] at this
  have zb : w.heap.size < w5.heap.size := by have := hb5.size; have := hb3.size; simp at this; omega
  gi_wp2_with (first
    | (refine ⟨trivial, ?_⟩; gi_at_call 94; refine (callsIn_wide.2 (strA w.heap.size w.heap.size _ (bld_laterT hbl5 hb56) z6)).mono ?_; rintro e w6 ⟨rfl, hb6, hk6⟩)
    | (refine ⟨trivial, ?_⟩; gi_at_call 144; refine (callsIn_wide.2 (eachA_call _)).mono ?_; rintro e w7 ⟨rfl, rfl⟩))
  have hb06 : Below w.heap.size w w6 := (hbw5.trans (hb56.mono z5)).trans hb6
  have y1 := boxed_kept x1 hk6 (by omega) (by decide)
  have y2 := boxed_kept x2 hk6 (by omega) (by decide)
  have z66 := hb06.size
  have hmw : (w6.alloc (.cells #[.string (⟨#[47, 97]⟩ : ByteArray)] 9)).cell? ⟨0, 0, none⟩ = some (.int .i64 m) := mx_later (B := 0) hm (hb06.alloc z66 _)
  have y3 := Boxed.new w6 9 (.string (⟨#[47, 97]⟩ : ByteArray))
  have hq : (⟨#[47]⟩ : ByteArray) ++ (⟨#[97]⟩ : ByteArray) = ⟨#[47, 97]⟩ := by decide
  refine wpIn_rangeFunc_ownF (F := Fence.wide) rfl (by decide) (gf := 179) (lb := #[.pointer (some ⟨w6.heap.size, 0, none⟩)]) rfl trivial (enters_of Tryz.func179 (by kernel_rfl) rfl)
    (eachA_stops _ w6.heap.size w.heap.size (by decide) m _ (by simp) y3.cell hmw) belowK_t (belowK_b (by simp; omega)) (Below.refl _ _) (fun _ => rfl)
    (NrmI w w5.heap.size (w5.heap.size + 1)) (fun _ _ _ => False) (nrmI_own w _ _ _ (by simp; omega)) (fun _ _ _ _ _ hs _ _ => hs)
    ⟨⟨⟨_, y1.alloc _, World.ownsRow_nil _ _ _ _, trivial⟩, y2.alloc _⟩, hb06.alloc z66 _⟩ ?a1 ?assign ?body ?done ?stop
  case assign =>
    intro l x W K hK
    gi_wp2
    exact hK
  case body =>
    rintro l pre x W ⟨⟨⟨v, hv, hrow, _⟩, hd⟩, hB⟩ hlt
    obtain rfl : pre = [] := List.eq_nil_of_length_eq_zero (by omega)
    have hv1 : Boxed (W.setCell ⟨w5.heap.size + 1, 0, none⟩ (.bool false)) w5.heap.size 34 v := hv.kept (grownBy_setCell' W (w5.heap.size + 1) (.bool false)) (by simp)
    have hd1 : Boxed (W.setCell ⟨w5.heap.size + 1, 0, none⟩ (.bool false)) (w5.heap.size + 1) 4 (.bool false) := hd.set _
    have hr1 : (W.setCell ⟨w5.heap.size + 1, 0, none⟩ (.bool false)).ownsRow w.heap.size 9 1 v 0 [] := hrow.kept (grownBy_setCell' W (w5.heap.size + 1) (.bool false)) (.inr (hd.not_row (by decide) hrow).symm)
    have hb1 : Below w.heap.size W (W.setCell ⟨w5.heap.size + 1, 0, none⟩ (.bool false)) := (Below.refl _ W).setCell (p := ⟨w5.heap.size + 1, 0, none⟩) (by simp; omega) _
    have hk1 : KeepsOthers W (W.setCell ⟨w5.heap.size + 1, 0, none⟩ (.bool false)) := KeepsOthers.setCell _ _ _
    have hz1' : w.heap.size ≤ (W.setCell ⟨w5.heap.size + 1, 0, none⟩ (.bool false)).heap.size := (hB.trans hb1).size
    have f2 := hd.frozen
    have c0 := hd.cell
    have hsz : (W.setCell ⟨w5.heap.size + 1, 0, none⟩ (.bool false)).heap.size = W.heap.size := by simp
    have hcn := cell_one_new (W.setCell ⟨w5.heap.size + 1, 0, none⟩ (.bool false)) (.string (⟨#[97]⟩ : ByteArray)) 9
    rw [hsz] at hcn
    have c1 := hv1.cell
    have c2 := hd1.cell
    gi_wp2_with (gi_at_builtin; refine wpListIn_append_own _ rfl _ _ 34 rfl w.heap.size 9 i0 (.string ByteArray.empty) 1 16 Tryz.underlying34 hi hz0 hz1 hz2 rfl (by decide) _ _ _ rfl (hr1.alloc _) ⟨W.heap.size, 0, none⟩ 1 1 [.string (⟨#[97]⟩ : ByteArray)] rfl rfl hcn (by simp [Value.oneCell']) (by decide) (by decide) (by simp at hz1' ⊢; omega) ?_; intro v' w9 hown' hgrow _; obtain ⟨g', cap', rfl⟩ := ownsRow_succ hown'; obtain ⟨hv9, hv2, hr2, hk2, hb2⟩ := hv1.appended (by decide) hr1 hz1' (by omega) hown' hgrow; have hc9 := hv9.cell; have hf9 := hv9.frozen; have hd9 := ((hd1.alloc (.cells #[.string (⟨#[97]⟩ : ByteArray)] 9)).kept hgrow (hd1.not_row (by decide) hr1)).kept (grownBy_setCell' w9 w5.heap.size (.slice (some ⟨g', 0, none⟩) (0 + 1) cap')) (by simp))
    exact ⟨hk1.trans hk2, hb1.trans hb2, ⟨⟨_, hv2, hr2, trivial⟩, hd9⟩, hB.trans (hb1.trans hb2)⟩
  case done =>
    rintro D ys W hD hys ⟨⟨⟨v, hv, hrow, _⟩, hd⟩, hB⟩ hK
    subst hys
    obtain ⟨g, cap, rfl⟩ := ownsRow_succ hrow
    have cg : W.cell? ⟨g, 0, none⟩ = some (.string (⟨#[97]⟩ : ByteArray)) := hrow.cells (g := g) rfl 0 _ rfl
    have c1 := hv.cell
    have c2 := hd.cell
    gi_wp2_with (refine ⟨trivial, ?_⟩; gi_at_call 145; refine (callsIn_wide.2 (joinA _ none g cap cg)).mono ?_; rintro e w' ⟨rfl, rfl⟩)
    refine ⟨by simp, .inl ⟨_, _, rfl, run_takeDeferred hK, ?_⟩⟩
    exact ⟨_, results_tmp2 rfl _ _ _, rfl, hB.trans (belowK_b (w := w) (Nat.le_refl _) _ D _ _ (by simp at hD; omega) hK rfl rfl)⟩
  case stop =>
    rintro D c pre W _ _ h _
    exact h.elim
end Go.Proofs.YtpdbejeiceodkaaGreatDoor
