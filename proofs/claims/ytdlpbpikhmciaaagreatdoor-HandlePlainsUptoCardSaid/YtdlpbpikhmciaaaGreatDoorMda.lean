/- Struct blocks beside rows of the call's own. No conditions. (Out of the accept seat's text of this name.) -/
import Derived.Test.YtdlpbpikhmciaaaGreatDoorParM
import Derived.Test.YtdlpbpikhmciaaaGreatDoorRegH
namespace Go.Proofs.YtdlpbpikhmciaaaGreatDoor
open Go.RowKit
set_option linter.unusedSimpArgs false
set_option linter.unusedVariables false
set_option maxRecDepth 1000000
theorem alloc_le {L : Nat} {w : World} (h : L ≤ w.heap.size) (o : Obj) : L ≤ (w.alloc o).heap.size := by simp; omega
/-- A block that holds one object and may be written. -/
def BlkIs (w : World) (b : Nat) (cs : Array Value) (T : TypeId) : Prop := w.heap[b]? = some (.cells cs T)
theorem BlkIs.lt {w : World} {b : Nat} {cs : Array Value} {T : TypeId} (h : BlkIs w b cs T) : b < w.heap.size := (Array.getElem?_eq_some_iff.1 h).1
theorem blkIs_new (w : World) (cs : Array Value) (T : TypeId) : BlkIs (w.alloc (.cells cs T)) w.heap.size cs T := heap_alloc_new w _
theorem BlkIs.below {w w' : World} {B b : Nat} {cs : Array Value} {T : TypeId} (h : BlkIs w b cs T) (hb : Below B w w') (hlt : b < B) : BlkIs w' b cs T := by unfold BlkIs; rw [hb.block b hlt]; exact h
theorem BlkIs.later {w w' : World} {b : Nat} {cs : Array Value} {T : TypeId} (h : BlkIs w b cs T) (hb : Below w.heap.size w w') : BlkIs w' b cs T := h.below hb h.lt
theorem BlkIs.alloc {w : World} {b : Nat} {cs : Array Value} {T : TypeId} (h : BlkIs w b cs T) (o : Obj) : BlkIs (w.alloc o) b cs T := h.later ((Below.refl _ w).alloc (Nat.le_refl _) o)
theorem BlkIs.cell {w : World} {b : Nat} {cs : Array Value} {T : TypeId} (h : BlkIs w b cs T) (j : Nat) (v : Value) (hj : cs[j]? = some v) : w.cell? ⟨b, j, none⟩ = some v := by
  rw [Lib.cell_of_heap h]; exact hj
theorem BlkIs.free {w : World} {b : Nat} {cs : Array Value} {T : TypeId} (h : BlkIs w b cs T) (j : Nat) : w.frozen? ⟨b, j, none⟩ = false := Lib.frozen_of_heap h j
theorem BlkIs.grown {w w' : World} {b : Nat} {cs : Array Value} {T : TypeId} {row : Option Nat} (h : BlkIs w b cs T) (hg : w.grownBy w' row) (hne : row ≠ some b) : BlkIs w' b cs T := by unfold BlkIs; rw [hg.block b h.lt (fun e => hne e.symm)]; exact h
theorem BlkIs.set {w : World} {b : Nat} {cs : Array Value} {T : TypeId} (h : BlkIs w b cs T) (j : Nat) (v : Value) : BlkIs (w.setCell ⟨b, j, none⟩ v) b (cs.setIfInBounds j v) T := Joins.block_setCell h v
theorem BlkIs.setOther {w : World} {b : Nat} {cs : Array Value} {T : TypeId} (h : BlkIs w b cs T) (a : Addr) (v : Value) (hne : b ≠ a.block) : BlkIs (w.setCell a v) b cs T := by unfold BlkIs; rw [Below.heap_setCell w a v b hne]; exact h
/-- A row of another type does not stand in such a block. -/
theorem own_blk {w : World} {L b n s : Nat} {cs : Array Value} {T e : TypeId} {v : Value} {xs : List Value} (hown : w.ownsRow L e s v n xs) (h : BlkIs w b cs T) (hne : e ≠ T) : v.ownBlock ≠ some b := by
  rcases hown.2 with ⟨rfl, _⟩ | ⟨g, c, cur, rfl, _, hg, _⟩
  · simp [Value.ownBlock]
  · intro e2
    simp [Value.ownBlock] at e2
    subst e2
    unfold BlkIs at h
    rw [h] at hg
    injection hg with hg
    injection hg with _ hg
    exact hne hg.symm
theorem own_setOther {w : World} {L b j n s : Nat} {e : TypeId} {v u : Value} {xs : List Value} (hown : w.ownsRow L e s v n xs) (hne : v.ownBlock ≠ some b) : (w.setCell ⟨b, j, none⟩ u).ownsRow L e s v n xs :=
  hown.kept (row := some b) ⟨rfl, rfl, rfl, by simp, fun k hk hkb => Below.heap_setCell w ⟨b, j, none⟩ u k (fun e => hkb (by rw [e]))⟩ (Or.inr hne)
theorem par_bd (i n : Nat) (h : i < n) (hn : n ≤ 1073741824) : i + 1 ≤ maxLen ∧ (i + 1) * 40 ≤ 140737488355328 := by unfold maxLen; omega
theorem cells_new2 (w : World) (o : Obj) (e : TypeId) (l : List Value) : ∀ j u, l[j]? = some u → ((w.alloc o).alloc (.cells l.toArray e)).cell? ((⟨w.heap.size + 1, 0, none⟩ : Addr).add j) = some u := by
  intro j u hu
  have := cells_new (w.alloc o) e l j u hu
  rwa [show (w.alloc o).heap.size = w.heap.size + 1 from by simp] at this
end Go.Proofs.YtdlpbpikhmciaaaGreatDoor
