/- The blocks of a head that is being read, what a round may touch, the lines' bounds. No conditions but those stated. -/
import Derived.Test.YtlfdeenekjklgaaGreatDoorPk14
import Derived.Test.YtlfdeenekjklgaaGreatDoorPk06
namespace Go.Proofs.YtlfdeenekjklgaaGreatDoor
open Go.RowKit Go.Shelf
attribute [local go_sem] Oper.semAt_some
attribute [local go_sem] wide_fn
set_option linter.unusedSimpArgs false
set_option linter.unusedVariables false
set_option maxRecDepth 1000000
def hdErr (q c : Nat) : Value := if c = 0 then .nilIface else fltV c q
def hdPl (q c : Nat) : Nat := if c = 0 then q else 0
/-- What head answers: the part, the place behind it or a fault. -/
def HdPost (R : Prt × Nat × Nat) (w : World) (e : Ending) (w' : World) : Prop :=
  ∃ P : Prt, e = .returned (.tuple #[.agg (prtC P), .int .i64 (hdPl R.2.1 R.2.2 : Nat), hdErr R.2.1 R.2.2]) ∧ (R.2.2 = 0 → P = R.1) ∧ Below w.heap.size w w'
/-- The blocks of a head that is being read: the reader's box, the three results', the part's, two marks'. -/
structure Bl where
  b0 : Nat
  b1 : Nat
  b2 : Nat
  b3 : Nat
  b4 : Nat
  b5 : Nat
  b6 : Nat
def Bl.ok (b : Bl) (B : Nat) : Prop := b.b0 = B ∧ B + 1 = b.b1 ∧ b.b1 + 1 = b.b2 ∧ b.b2 + 1 = b.b3 ∧ b.b3 + 1 = b.b4 ∧ b.b4 + 1 = b.b5 ∧ b.b5 + 1 = b.b6
def HdM (w : World) (b : Bl) (r : Nat) (st : HdSt) (W : World) : Prop :=
  (PrtIs W b.b4 st.p ∧ Boxed W b.b5 4 (.bool st.named) ∧ Boxed W b.b6 4 (.bool st.typed)) ∧ (PrtIs W b.b1 p00 ∧ Boxed W b.b2 3 (.int .i64 0) ∧ Boxed W b.b3 71 .nilIface) ∧ Boxed W b.b0 64 (.pointer (some ⟨r, 0, none⟩)) ∧ Below w.heap.size w W
/-- The results' blocks where it is read. -/
def HdE (w : World) (b : Bl) (P : Prt) (q c : Nat) (W : World) : Prop :=
  PrtIs W b.b1 P ∧ Boxed W b.b2 3 (.int .i64 (hdPl q c : Nat)) ∧ Boxed W b.b3 71 (hdErr q c) ∧ Below w.heap.size w W
def HdI (w : World) (b : Bl) (r m : Nat) (pre : List Ln) (W : World) : Prop := ∃ st, hdO m pre (.run st00) = .run st ∧ HdM w b r st W ∧ b.b6 + 2 < W.heap.size
def HdX (w : World) (b : Bl) (m : Nat) (pre : List Ln) (W : World) : Prop := ∃ P p q c, hdO m pre (.run st00) = .done p q c ∧ (c = 0 → P = p) ∧ HdE w b P q c W
theorem blk_own {N bx k : Nat} {A C : World} {row : Option Nat} {o : Obj} (h : A.heap[k]? = some o) (hk : k < N) (hne : k ≠ bx) (hg : A.grownBy C row) (hr : ∀ r, row = some r → r = bx ∨ (N ≤ r ∧ ∃ o : Obj, A.heap[r]? = some o ∧ o.isCells = false)) : C.heap[k]? = some o :=
  (hg.block k (Array.getElem?_eq_some_iff.1 h).1 (fun e => by
    rcases hr k e.symm with h1 | ⟨h1, _⟩
    · exact hne h1
    · omega)).trans h
theorem below_own {n0 N bx : Nat} {w A C : World} {row : Option Nat} (h : Below n0 w A) (hn : n0 ≤ N) (hnb : n0 ≤ bx) (hnA : n0 ≤ w.heap.size) (hg : A.grownBy C row) (hr : ∀ r, row = some r → r = bx ∨ (N ≤ r ∧ ∃ o : Obj, A.heap[r]? = some o ∧ o.isCells = false)) : Below n0 w C :=
  h.grown hg (Nat.le_trans hnA h.size) (fun j hj => by
    rcases hr j hj with h1 | ⟨h1, _⟩ <;> omega)
theorem hdI_own {w : World} {b : Bl} {r m N bx : Nat} (hB : b.ok w.heap.size) (hN : b.b6 < N) (hbx : b.b6 < bx) : OwnBox N bx (HdI w b r m) := fun pre A C row ⟨st, h0, ⟨⟨a1, a2, a3⟩, ⟨d1, d2, d3⟩, c1, e1⟩, z1⟩ hg hr => by
  obtain ⟨k0, k1, k2, k3, k4, k5, k6⟩ := hB
  exact ⟨st, h0, ⟨⟨blk_own a1 (by omega) (by omega) hg hr, blk_own a2 (by omega) (by omega) hg hr, blk_own a3 (by omega) (by omega) hg hr⟩, ⟨blk_own d1 (by omega) (by omega) hg hr, blk_own d2 (by omega) (by omega) hg hr, blk_own d3 (by omega) (by omega) hg hr⟩, blk_own c1 (by omega) (by omega) hg hr, below_own e1 (by omega) (by omega) (by omega) hg hr⟩, Nat.lt_of_lt_of_le z1 hg.size⟩
theorem hdX_own {w : World} {b : Bl} {m N bx : Nat} (hB : b.ok w.heap.size) (hN : b.b6 < N) (hbx : b.b6 < bx) : OwnBox N bx (HdX w b m) := fun pre A C row ⟨P, p, q, c, h0, h1, a1, a2, a3, e1⟩ hg hr => by
  obtain ⟨k0, k1, k2, k3, k4, k5, k6⟩ := hB
  exact ⟨P, p, q, c, h0, h1, blk_own a1 (by omega) (by omega) hg hr, blk_own a2 (by omega) (by omega) hg hr, blk_own a3 (by omega) (by omega) hg hr, below_own e1 (by omega) (by omega) (by omega) hg hr⟩
theorem HdM.later {w : World} {b : Bl} {r : Nat} {st : HdSt} {W W' : World} (h : HdM w b r st W) (hb : Below W.heap.size W W') : HdM w b r st W' :=
  ⟨⟨BlkIs.later h.1.1 hb, BlkIs.later h.1.2.1 hb, BlkIs.later h.1.2.2 hb⟩, ⟨BlkIs.later h.2.1.1 hb, BlkIs.later h.2.1.2.1 hb, BlkIs.later h.2.1.2.2 hb⟩, BlkIs.later h.2.2.1 hb, h.2.2.2.trans (hb.mono h.2.2.2.size)⟩
theorem HdM.turn {w : World} {B b1 b2 b3 b4 b5 b6 r : Nat} {p q : Prt} {nm ty : Bool} {W W' : World} (hok : (⟨B, b1, b2, b3, b4, b5, b6⟩ : Bl).ok w.heap.size) (h : HdM w ⟨B, b1, b2, b3, b4, b5, b6⟩ r ⟨p, nm, ty⟩ W) (hg : W.grownBy W' (some b4)) (hq : PrtIs W' b4 q) : HdM w ⟨B, b1, b2, b3, b4, b5, b6⟩ r ⟨q, nm, ty⟩ W' := by
  obtain ⟨k0, k1, k2, k3, k4, k5, k6⟩ := hok
  simp only at k0 k1 k2 k3 k4 k5 k6
  have ne : ∀ j, j ≠ b4 → (some b4 : Option Nat) ≠ some j := fun j h e => h (by injection e with e; exact e.symm)
  exact ⟨⟨hq, BlkIs.grown h.1.2.1 hg (ne b5 (by omega)), BlkIs.grown h.1.2.2 hg (ne b6 (by omega))⟩, ⟨BlkIs.grown h.2.1.1 hg (ne b1 (by omega)), BlkIs.grown h.2.1.2.1 hg (ne b2 (by omega)), BlkIs.grown h.2.1.2.2 hg (ne b3 (by omega))⟩, BlkIs.grown h.2.2.1 hg (ne B (by omega)), h.2.2.2.grown hg h.2.2.2.size (fun j e => by injection e; omega)⟩
theorem HdM.mark5 {w : World} {B b1 b2 b3 b4 b5 b6 r : Nat} {p : Prt} {nm ty : Bool} {W : World} (hok : (⟨B, b1, b2, b3, b4, b5, b6⟩ : Bl).ok w.heap.size) (h : HdM w ⟨B, b1, b2, b3, b4, b5, b6⟩ r ⟨p, nm, ty⟩ W) (v : Bool) : HdM w ⟨B, b1, b2, b3, b4, b5, b6⟩ r ⟨p, v, ty⟩ (W.setCell ⟨b5, 0, none⟩ (.bool v)) := by
  obtain ⟨k0, k1, k2, k3, k4, k5, k6⟩ := hok
  simp only at k0 k1 k2 k3 k4 k5 k6
  have hg := gb_set W b5 0 (.bool v)
  have ne : ∀ j, j ≠ b5 → (some b5 : Option Nat) ≠ some j := fun j h e => h (by injection e with e; exact e.symm)
  exact ⟨⟨BlkIs.grown h.1.1 hg (ne b4 (by omega)), Boxed.set _ h.1.2.1, BlkIs.grown h.1.2.2 hg (ne b6 (by omega))⟩, ⟨BlkIs.grown h.2.1.1 hg (ne b1 (by omega)), BlkIs.grown h.2.1.2.1 hg (ne b2 (by omega)), BlkIs.grown h.2.1.2.2 hg (ne b3 (by omega))⟩, BlkIs.grown h.2.2.1 hg (ne B (by omega)), h.2.2.2.grown hg h.2.2.2.size (fun j e => by injection e; omega)⟩
theorem HdM.mark6 {w : World} {B b1 b2 b3 b4 b5 b6 r : Nat} {p : Prt} {nm ty : Bool} {W : World} (hok : (⟨B, b1, b2, b3, b4, b5, b6⟩ : Bl).ok w.heap.size) (h : HdM w ⟨B, b1, b2, b3, b4, b5, b6⟩ r ⟨p, nm, ty⟩ W) (v : Bool) : HdM w ⟨B, b1, b2, b3, b4, b5, b6⟩ r ⟨p, nm, v⟩ (W.setCell ⟨b6, 0, none⟩ (.bool v)) := by
  obtain ⟨k0, k1, k2, k3, k4, k5, k6⟩ := hok
  simp only at k0 k1 k2 k3 k4 k5 k6
  have hg := gb_set W b6 0 (.bool v)
  have ne : ∀ j, j ≠ b6 → (some b6 : Option Nat) ≠ some j := fun j h e => h (by injection e with e; exact e.symm)
  exact ⟨⟨BlkIs.grown h.1.1 hg (ne b4 (by omega)), BlkIs.grown h.1.2.1 hg (ne b5 (by omega)), Boxed.set _ h.1.2.2⟩, ⟨BlkIs.grown h.2.1.1 hg (ne b1 (by omega)), BlkIs.grown h.2.1.2.1 hg (ne b2 (by omega)), BlkIs.grown h.2.1.2.2 hg (ne b3 (by omega))⟩, BlkIs.grown h.2.2.1 hg (ne B (by omega)), h.2.2.2.grown hg h.2.2.2.size (fun j e => by injection e; omega)⟩
/-- What a round may touch. -/
structure Kp (n0 b7 b8 : Nat) (W W' : World) : Prop where
  ko : KeepsOthers W W'
  bl : Below n0 W W'
  h7 : W'.heap[b7]? = W.heap[b7]?
  h8 : W'.heap[b8]? = W.heap[b8]?
theorem Kp.trans {n0 b7 b8 : Nat} {A B C : World} (h : Kp n0 b7 b8 A B) (k : Kp n0 b7 b8 B C) : Kp n0 b7 b8 A C := ⟨h.ko.trans k.ko, h.bl.trans k.bl, k.h7.trans h.h7, k.h8.trans h.h8⟩
theorem Kp.refl (n0 b7 b8 : Nat) (A : World) : Kp n0 b7 b8 A A := ⟨KeepsOthers.refl _, Below.refl _ _, rfl, rfl⟩
theorem Kp.gb {n0 b7 b8 : Nat} {W W' : World} {row : Option Nat} (hg : W.grownBy W' row) (hr : ∀ (j : Nat) (o : Obj), row = some j → W.heap[j]? = some o → o.isCells = true) (h7 : b7 < W.heap.size) (h8 : b8 < W.heap.size) (hn : n0 ≤ W.heap.size) (hj : ∀ j, row = some j → n0 ≤ j ∧ j ≠ b7 ∧ j ≠ b8) : Kp n0 b7 b8 W W' :=
  ⟨KeepsOthers.of_grownBy hg hr, (Below.refl n0 W).grown hg hn (fun j e => (hj j e).1), hg.block b7 h7 (fun e => (hj _ e.symm).2.1 rfl), hg.block b8 h8 (fun e => (hj _ e.symm).2.2 rfl)⟩
theorem Kp.later {n0 b7 b8 : Nat} {W W' : World} (hb : Below W.heap.size W W') (h7 : b7 < W.heap.size) (h8 : b8 < W.heap.size) (hn : n0 ≤ W.heap.size) : Kp n0 b7 b8 W W' := Kp.gb (gb_of_below hb none) (fun _ _ e => by cases e) h7 h8 hn (fun _ e => by cases e)
theorem Kp.set {n0 b7 b8 b : Nat} {W : World} {cs : Array Value} {T : TypeId} (h : BlkIs W b cs T) (j : Nat) (v : Value) (h7 : b7 < W.heap.size) (h8 : b8 < W.heap.size) (hn : n0 ≤ W.heap.size) (hb : n0 ≤ b) (hb7 : b ≠ b7) (hb8 : b ≠ b8) : Kp n0 b7 b8 W (W.setCell ⟨b, j, none⟩ v) :=
  Kp.gb (gb_set W b j v) (fun k o e hk => by injection e with e; subst e; unfold BlkIs at h; rw [h] at hk; injection hk with hk; subst hk; rfl) h7 h8 hn (fun k e => by injection e with e; subst e; exact ⟨hb, hb7, hb8⟩)
/-- The results laid down. -/
def resW (W : World) (b1 b2 b3 : Nat) (P : Prt) (x y : Value) : World := ((((((W.setCell ⟨b1, 0, none⟩ (.string ⟨P.name.toArray⟩)).setCell ⟨b1, 1, none⟩ (.string ⟨P.file.toArray⟩)).setCell ⟨b1, 2, none⟩ (.string ⟨P.media.toArray⟩)).setCell ⟨b1, 3, none⟩ (.string ⟨P.body.toArray⟩)).setCell ⟨b1, 4, none⟩ (.bool P.has)).setCell ⟨b2, 0, none⟩ x).setCell ⟨b3, 0, none⟩ y
theorem hd_exit {w : World} {B b1 b2 b3 b4 b5 b6 r : Nat} {st : HdSt} {W : World} (hok : (⟨B, b1, b2, b3, b4, b5, b6⟩ : Bl).ok w.heap.size) (h : HdM w ⟨B, b1, b2, b3, b4, b5, b6⟩ r st W) (P : Prt) (q c : Nat) :
    KeepsOthers W (resW W b1 b2 b3 P (.int .i64 (hdPl q c : Nat)) (hdErr q c)) ∧ HdE w ⟨B, b1, b2, b3, b4, b5, b6⟩ P q c (resW W b1 b2 b3 P (.int .i64 (hdPl q c : Nat)) (hdErr q c)) := by
  obtain ⟨k0, k1, k2, k3, k4, k5, k6⟩ := hok
  simp only at k0 k1 k2 k3 k4 k5 k6
  obtain ⟨⟨a1, a2, a3⟩, ⟨d1, d2, d3⟩, c1, e1⟩ := h
  obtain ⟨W1, hW1⟩ : ∃ W1, ((((W.setCell ⟨b1, 0, none⟩ (.string ⟨P.name.toArray⟩)).setCell ⟨b1, 1, none⟩ (.string ⟨P.file.toArray⟩)).setCell ⟨b1, 2, none⟩ (.string ⟨P.media.toArray⟩)).setCell ⟨b1, 3, none⟩ (.string ⟨P.body.toArray⟩)).setCell ⟨b1, 4, none⟩ (.bool P.has) = W1 := ⟨_, rfl⟩
  have hP : PrtIs W1 b1 P := by rw [← hW1]; exact ((((BlkIs.set d1 0 _).set 1 _).set 2 _).set 3 _).set 4 _
  have hg : W.grownBy W1 (some b1) := by rw [← hW1]; exact ((((gb_set _ _ _ _).trans (gb_set _ _ _ _)).trans (gb_set _ _ _ _)).trans (gb_set _ _ _ _)).trans (gb_set _ _ _ _)
  have hk : KeepsOthers W W1 := by rw [← hW1]; exact ((((KeepsOthers.setCell _ _ _).trans (KeepsOthers.setCell _ _ _)).trans (KeepsOthers.setCell _ _ _)).trans (KeepsOthers.setCell _ _ _)).trans (KeepsOthers.setCell _ _ _)
  have ne : ∀ i j : Nat, j ≠ i → (some i : Option Nat) ≠ some j := fun i j h e => h (by injection e with e; exact e.symm)
  have d2' := BlkIs.grown d2 hg (ne b1 b2 (by omega))
  have d3' := BlkIs.grown d3 hg (ne b1 b3 (by omega))
  unfold resW
  rw [hW1]
  obtain ⟨W2, hW2⟩ : ∃ W2, W1.setCell ⟨b2, 0, none⟩ (.int .i64 (hdPl q c : Nat)) = W2 := ⟨_, rfl⟩
  have hg2 : W1.grownBy W2 (some b2) := by rw [← hW2]; exact gb_set _ _ _ _
  have q2 : Boxed W2 b2 3 (.int .i64 (hdPl q c : Nat)) := by rw [← hW2]; exact Boxed.set _ d2'
  have p2 := BlkIs.grown hP hg2 (ne b2 b1 (by omega))
  have d3'' := BlkIs.grown d3' hg2 (ne b2 b3 (by omega))
  have hk2 : KeepsOthers W1 W2 := by rw [← hW2]; exact KeepsOthers.setCell _ _ _
  rw [hW2]
  have hg3 := gb_set W2 b3 0 (hdErr q c)
  have hs1 := hg.size; have hs2 := hg2.size; have hs0 := e1.size
  exact ⟨(hk.trans hk2).trans (KeepsOthers.setCell _ _ _), BlkIs.grown p2 hg3 (ne b3 b1 (by omega)), BlkIs.grown q2 hg3 (ne b3 b2 (by omega)), Boxed.set _ d3'',
    ((e1.grown hg e1.size (fun j e => by injection e; omega)).grown hg2 (by omega) (fun j e => by injection e; omega)).grown hg3 (by omega) (fun j e => by injection e; omega)⟩
theorem hd_put {w : World} {B b1 b2 b3 b4 b5 b6 r : Nat} {st : HdSt} {W : World} (hok : (⟨B, b1, b2, b3, b4, b5, b6⟩ : Bl).ok w.heap.size) (h : HdM w ⟨B, b1, b2, b3, b4, b5, b6⟩ r st W) (P : Prt) (q c : Nat) (z : Int) (y : Value) (hz : z = ((hdPl q c : Nat) : Int)) (hy : y = hdErr q c) :
    KeepsOthers W (((((((W.setCell ⟨b1, 0, none⟩ (.string ⟨P.name.toArray⟩)).setCell ⟨b1, 1, none⟩ (.string ⟨P.file.toArray⟩)).setCell ⟨b1, 2, none⟩ (.string ⟨P.media.toArray⟩)).setCell ⟨b1, 3, none⟩ (.string ⟨P.body.toArray⟩)).setCell ⟨b1, 4, none⟩ (.bool P.has)).setCell ⟨b2, 0, none⟩ (.int .i64 z)).setCell ⟨b3, 0, none⟩ y) ∧
    HdE w ⟨B, b1, b2, b3, b4, b5, b6⟩ P q c (((((((W.setCell ⟨b1, 0, none⟩ (.string ⟨P.name.toArray⟩)).setCell ⟨b1, 1, none⟩ (.string ⟨P.file.toArray⟩)).setCell ⟨b1, 2, none⟩ (.string ⟨P.media.toArray⟩)).setCell ⟨b1, 3, none⟩ (.string ⟨P.body.toArray⟩)).setCell ⟨b1, 4, none⟩ (.bool P.has)).setCell ⟨b2, 0, none⟩ (.int .i64 z)).setCell ⟨b3, 0, none⟩ y) := by
  subst hz; subst hy
  exact hd_exit hok h P q c
theorem hd_cells {w : World} {B b1 b2 b3 b4 b5 b6 r : Nat} {p : Prt} {nm ty : Bool} {W : World} (h : HdM w ⟨B, b1, b2, b3, b4, b5, b6⟩ r ⟨p, nm, ty⟩ W) :
    (W.cell? ⟨B, 0, none⟩ = some (.pointer (some ⟨r, 0, none⟩)) ∧ W.cell? ⟨b5, 0, none⟩ = some (.bool nm) ∧ W.cell? ⟨b6, 0, none⟩ = some (.bool ty)) ∧
    (W.cell? ⟨b4, 0, none⟩ = some (.string ⟨p.name.toArray⟩) ∧ W.cell? ⟨b4, 1, none⟩ = some (.string ⟨p.file.toArray⟩) ∧ W.cell? ⟨b4, 2, none⟩ = some (.string ⟨p.media.toArray⟩) ∧ W.cell? ⟨b4, 3, none⟩ = some (.string ⟨p.body.toArray⟩) ∧ W.cell? ⟨b4, 4, none⟩ = some (.bool p.has)) ∧
    ((W.frozen? ⟨b1, 0, none⟩ = false ∧ W.frozen? ⟨b1, 1, none⟩ = false ∧ W.frozen? ⟨b1, 2, none⟩ = false ∧ W.frozen? ⟨b1, 3, none⟩ = false ∧ W.frozen? ⟨b1, 4, none⟩ = false) ∧ W.frozen? ⟨b2, 0, none⟩ = false ∧ W.frozen? ⟨b3, 0, none⟩ = false) ∧
    ((W.cell? ⟨b1, 0, none⟩ = some (.string ⟨#[]⟩) ∧ W.cell? ⟨b1, 1, none⟩ = some (.string ⟨#[]⟩) ∧ W.cell? ⟨b1, 2, none⟩ = some (.string ⟨#[]⟩) ∧ W.cell? ⟨b1, 3, none⟩ = some (.string ⟨#[]⟩) ∧ W.cell? ⟨b1, 4, none⟩ = some (.bool false)) ∧ W.cell? ⟨b2, 0, none⟩ = some (.int .i64 0) ∧ W.cell? ⟨b3, 0, none⟩ = some .nilIface) ∧ W.frozen? ⟨b4, 2, none⟩ = false ∧ W.frozen? ⟨b5, 0, none⟩ = false ∧ W.frozen? ⟨b6, 0, none⟩ = false :=
  ⟨⟨Boxed.cell h.2.2.1, Boxed.cell h.1.2.1, Boxed.cell h.1.2.2⟩, ⟨BlkIs.cell h.1.1 0 _ rfl, BlkIs.cell h.1.1 1 _ rfl, BlkIs.cell h.1.1 2 _ rfl, BlkIs.cell h.1.1 3 _ rfl, BlkIs.cell h.1.1 4 _ rfl⟩, ⟨⟨BlkIs.free h.2.1.1 0, BlkIs.free h.2.1.1 1, BlkIs.free h.2.1.1 2, BlkIs.free h.2.1.1 3, BlkIs.free h.2.1.1 4⟩, BlkIs.free h.2.1.2.1 0, BlkIs.free h.2.1.2.2 0⟩, ⟨⟨BlkIs.cell h.2.1.1 0 _ rfl, BlkIs.cell h.2.1.1 1 _ rfl, BlkIs.cell h.2.1.1 2 _ rfl, BlkIs.cell h.2.1.1 3 _ rfl, BlkIs.cell h.2.1.1 4 _ rfl⟩, Boxed.cell h.2.1.2.1, Boxed.cell h.2.1.2.2⟩, BlkIs.free h.1.1 2, BlkIs.free h.1.2.1 0, BlkIs.free h.1.2.2 0⟩
theorem hdPl_ne (q c : Nat) (h : c ≠ 0) : hdPl q c = 0 := by unfold hdPl; rw [if_neg h]
theorem hdErr_ne (q c : Nat) (h : c ≠ 0) : hdErr q c = fltV c q := by unfold hdErr; rw [if_neg h]
theorem hz_bad (q c : Nat) (h : c ≠ 0) : (0 : Int) = ((hdPl q c : Nat) : Int) := by rw [hdPl_ne q c h]; rfl
theorem hy_bad (q c : Nat) (h : c ≠ 0) : fltV c q = hdErr q c := (hdErr_ne q c h).symm
theorem stepO_neg (m : Nat) (st : HdSt) (q : Int) (L : List UInt8) (h : q < 0) : stepO m (.run st) (q, L) = .done st.p m 154 := by
  show (if q < 0 then _ else _) = _
  rw [if_pos h]
theorem stepO_end (m : Nat) (st : HdSt) (q : Nat) : stepO m (.run st) ((q : Int), []) = if st.named = true then .done st.p (q + 2) 0 else .done st.p q 152 := by
  unfold stepO
  simp only
  rw [if_neg (show ¬ ((q : Nat) : Int) < 0 by omega), if_pos trivial]
  rfl
theorem stepO_line (m : Nat) (st : HdSt) (q : Nat) (L : List UInt8) (h : L ≠ []) : stepO m (.run st) ((q : Int), L) = if (hdStep st L).2 ≠ 0 then .done st.p q (hdStep st L).2 else .run (hdStep st L).1 := by
  unfold stepO
  simp only
  rw [if_neg (show ¬ ((q : Nat) : Int) < 0 by omega), if_neg h]
  rfl
theorem hdStep_bad (st : HdSt) (L N V : List UInt8) (e : Nat) (h : plR L = (N, V, e)) (he : e ≠ 0) : hdStep st L = (st, e) := by
  unfold hdStep
  rw [h, if_pos he]
theorem hdStep_cd (st : HdSt) (L N V : List UInt8) (h : plR L = (N, V, 0)) (hk : lowL N = cdN) : hdStep st L = if st.named = true then (st, 152) else match dsp st.p V with
      | none => (st, 152)
      | some q => (⟨q, true, st.typed⟩, 0) := by
  unfold hdStep
  rw [h, if_neg (by simp), if_pos hk]
  rfl
theorem hdStep_ct (st : HdSt) (L N V : List UInt8) (h : plR L = (N, V, 0)) (h1 : ¬ lowL N = cdN) (hk : lowL N = ctN) : hdStep st L = if st.typed = true then (st, 152) else (⟨{ st.p with media := V }, st.named, true⟩, 0) := by
  unfold hdStep
  rw [h, if_neg (by simp), if_neg h1, if_pos hk]
theorem hdStep_no (st : HdSt) (L N V : List UInt8) (h : plR L = (N, V, 0)) (h1 : ¬ lowL N = cdN) (hk : ¬ lowL N = ctN) : hdStep st L = (st, 0) := by
  unfold hdStep
  rw [h, if_neg (by simp), if_neg h1, if_neg hk]
theorem plR_len (l : List UInt8) : (plR l).1.length ≤ l.length ∧ (plR l).2.1.length ≤ l.length := by
  unfold plR
  split
  · exact ⟨Nat.zero_le _, Nat.zero_le _⟩
  · split
    · exact ⟨Nat.zero_le _, Nat.zero_le _⟩
    · unfold plK
      split
      · exact ⟨Nat.zero_le _, Nat.zero_le _⟩
      · split
        · exact ⟨Nat.zero_le _, Nat.zero_le _⟩
        · refine ⟨by simp only [List.length_take]; omega, ?_⟩
          have := trimL_len (l.drop ((Lib.indexByte l 58).toNat + 1))
          rw [List.length_drop] at this
          show (trimL (l.drop ((Lib.indexByte l 58).toNat + 1))).length ≤ _
          omega
theorem box_norm {n0 b7 b8 : Nat} {α : Type} {I Ix : List α → World → Prop} {xs : List α} {W W' : World} {a : Act} (h : Kp n0 b7 b8 W W') (hI : I xs W') : boxPost n0 [b7, b8] I Ix xs W .normal a W' :=
  ⟨h.ko, ⟨h.bl, fun k hk => by
    rcases List.mem_cons.1 hk with rfl | hk
    · exact h.h7
    · rcases List.mem_cons.1 hk with rfl | hk
      · exact h.h8
      · cases hk⟩, hI⟩
theorem al7 (w : World) (B : Nat) (hB : w.heap.size = B) (o0 o1 o2 o3 o4 o5 o6 : Obj) (b1 b2 b3 b4 b5 b6 : Nat) (h1 : B + 1 = b1) (h2 : b1 + 1 = b2) (h3 : b2 + 1 = b3) (h4 : b3 + 1 = b4) (h5 : b4 + 1 = b5) (h6 : b5 + 1 = b6) :
    (((((((w.alloc o0).alloc o1).alloc o2).alloc o3).alloc o4).alloc o5).alloc o6).heap[B]? = some o0 ∧ (((((((w.alloc o0).alloc o1).alloc o2).alloc o3).alloc o4).alloc o5).alloc o6).heap[b1]? = some o1 ∧ (((((((w.alloc o0).alloc o1).alloc o2).alloc o3).alloc o4).alloc o5).alloc o6).heap[b2]? = some o2 ∧ (((((((w.alloc o0).alloc o1).alloc o2).alloc o3).alloc o4).alloc o5).alloc o6).heap[b3]? = some o3 ∧ (((((((w.alloc o0).alloc o1).alloc o2).alloc o3).alloc o4).alloc o5).alloc o6).heap[b4]? = some o4 ∧ (((((((w.alloc o0).alloc o1).alloc o2).alloc o3).alloc o4).alloc o5).alloc o6).heap[b5]? = some o5 ∧ (((((((w.alloc o0).alloc o1).alloc o2).alloc o3).alloc o4).alloc o5).alloc o6).heap[b6]? = some o6 ∧
    Below w.heap.size w (((((((w.alloc o0).alloc o1).alloc o2).alloc o3).alloc o4).alloc o5).alloc o6) := by
  have nw : ∀ (W : World) (o : Obj) (k : Nat), W.heap.size = k → (W.alloc o).heap[k]? = some o := fun W o k h => by rw [← h]; exact World.alloc_heap_new W o
  have kp : ∀ (W : World) (o o' : Obj) (k : Nat), k < W.heap.size → W.heap[k]? = some o' → (W.alloc o).heap[k]? = some o' := fun W o o' k h h1 => (Below.heap_alloc _ _ _ h).trans h1
  refine ⟨?_, ?_, ?_, ?_, ?_, ?_, ?_, ?_⟩
  · iterate 6 (refine kp _ _ _ _ (by simp only [World.size_alloc]; omega) ?_)
    exact nw _ _ _ (by omega)
  · iterate 5 (refine kp _ _ _ _ (by simp only [World.size_alloc]; omega) ?_)
    exact nw _ _ _ (by simp only [World.size_alloc]; omega)
  · iterate 4 (refine kp _ _ _ _ (by simp only [World.size_alloc]; omega) ?_)
    exact nw _ _ _ (by simp only [World.size_alloc]; omega)
  · iterate 3 (refine kp _ _ _ _ (by simp only [World.size_alloc]; omega) ?_)
    exact nw _ _ _ (by simp only [World.size_alloc]; omega)
  · iterate 2 (refine kp _ _ _ _ (by simp only [World.size_alloc]; omega) ?_)
    exact nw _ _ _ (by simp only [World.size_alloc]; omega)
  · iterate 1 (refine kp _ _ _ _ (by simp only [World.size_alloc]; omega) ?_)
    exact nw _ _ _ (by simp only [World.size_alloc]; omega)
  · exact nw _ _ _ (by simp only [World.size_alloc]; omega)
  · iterate 7 (refine Below.alloc ?_ (by first | exact Nat.le_refl _ | (simp only [World.size_alloc]; omega)) _)
    exact Below.refl _ w
theorem results_cell3 {fn : Func} {p u v : Tmp} {t1 t2 t3 : TypeId} (h : fn.results = #[.cell p t1, .cell u t2, .cell v t3]) (tmps : Array Value) (P : Program) (w : World) :
    (results fn tmps).run P w = ((asAddr (tmps.getD p undef)).run P w).andThen fun a w₁ => ((loadVar t1 a).run P w₁).andThen fun x w₂ => ((asAddr (tmps.getD u undef)).run P w₂).andThen fun b w₃ => ((loadVar t2 b).run P w₃).andThen fun y w₄ => ((asAddr (tmps.getD v undef)).run P w₄).andThen fun c w₅ => ((loadVar t3 c).run P w₅).andThen fun z w₆ => .ok (.tuple #[x, y, z]) w₆ := by
  simp only [results, h]
  simp [Sem.run_bind, Result.andThen]
theorem seqL_bd (s : List UInt8) : ∀ (f a : Nat), a ≤ s.length → ∀ x ∈ seqL f s a, x.1 ≤ (s.length : Int) ∧ x.2.length ≤ s.length
  | 0, a, _, x, hx => by cases hx
  | f + 1, a, h, x, hx => by
    unfold seqL at hx
    cases hf : fnd crlf (s.drop a) with
    | none =>
      rw [hf] at hx
      obtain rfl := List.mem_singleton.1 hx
      exact ⟨by show (-1 : Int) ≤ _; omega, by show (s.drop a).length ≤ _; rw [List.length_drop]; omega⟩
    | some n =>
      rw [hf] at hx
      obtain ⟨h3, _, _⟩ := fnd_spec _ _ _ hf
      rw [List.length_drop] at h3
      simp only [crlf, List.length_cons, List.length_nil] at h3
      cases n with
      | zero =>
        obtain rfl := List.mem_singleton.1 hx
        exact ⟨by show (a : Int) ≤ _; omega, Nat.zero_le _⟩
      | succ n =>
        rcases List.mem_cons.1 hx with rfl | hx
        · exact ⟨by show (a : Int) ≤ _; omega, by show ((s.drop a).take (n + 1)).length ≤ _; rw [List.length_take, List.length_drop]; omega⟩
        · exact seqL_bd s f _ (by omega) x hx
theorem hd_leaf {w : World} {b : Bl} {m n0 : Nat} {ks : List Nat} {I : List Ln → World → Prop} {xs : List Ln} {W X : World} {a : Act} {P p : Prt} {q c : Nat} (h : KeepsOthers W X ∧ HdE w b P q c X) (h0 : hdO m xs (.run st00) = .done p q c) (hP : c = 0 → P = p) : boxPost n0 ks I (HdX w b m) xs W .ret a X := ⟨h.1, P, p, q, c, h0, hP, h.2⟩
theorem hd_drew {w : World} {b : Bl} {P : Prt} {q c : Nat} {W X : World} (h : KeepsOthers W X ∧ HdE w b P q c X) : KeepsOthers W X.drew ∧ HdE w b P q c X.drew :=
  have hb : Below X.heap.size X X.drew := below_drewN (Below.refl _ X) 1
  ⟨h.1.trans (KeepsOthers.drew X), BlkIs.later h.2.1 hb, BlkIs.later h.2.2.1 hb, BlkIs.later h.2.2.2.1 hb, h.2.2.2.2.trans (hb.mono h.2.2.2.2.size)⟩
theorem hy_lit (q c : Nat) (z : Int) (h : c ≠ 0) (hz : z = (c : Int)) : (.iface 68 (.agg #[.int .i64 z, .int .i64 (q : Nat)]) : Value) = hdErr q c := by subst hz; exact hy_bad q c h
end Go.Proofs.YtlfdeenekjklgaaGreatDoor
