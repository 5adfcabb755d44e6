/- EachH, HdK, Mda, HdC0, HdA: texts of the seat, one behind the other (a claim holds at most sixty). Conditions: each theorem names its own. -/
import Derived.Test.YtdlpbpikhmciaaaGreatDoorPk06
import Derived.OrdersHeld
import Derived.Test.YtdlpbpikhmciaaaGreatDoorPa08
import Derived.Test.YtdlpbpikhmciaaaGreatDoorPk00
import Derived.Laws.EntriesVeiled
namespace Go.Proofs.YtdlpbpikhmciaaaGreatDoor
open Go.RowKit
set_option linter.unusedSimpArgs false
set_option linter.unusedVariables false
set_option maxRecDepth 1000000
section
variable {P : Program} {ops : Array Oper} {S : World → Prop} {Q : Exit → Act → World → Prop}
theorem wp_region_eachH {id : Nat} {a : Act} {w : World} (S : World → Prop) (n : Nat) (hm : P.follows .mixedOrders = true) (hn : n = ops.size) (h : wpAnyH P .any ops (offPanic Q) S n (Array.replicate ops.size false) a w.drew) : (Code.region id ops true).wp P Q a w := by
  subst hn
  refine Code.wp_mono (Q := offPanic Q) (fun e a w h => ?_) (wp_region_held hm h)
  cases e <;> first | exact h | exact (h : False).elim
theorem eachH_take {i n : Nat} {o : Oper} {v : Value} {L : Array Bool} {a : Act} {w : World} (hi : ops[i]? = some o) (hs : Region.noSelect ops = true) (hc : (Region.free .any ops L i && (Region.ready .any ops L).contains i) = true) (hw : Region.wanted o (yielded ops a.tmps) = true) (hS : S w)
    (hv : ∀ w, S w → (execOp a.eval o).run P w = .ok (.value v) w) (h : wpAnyH P .any ops (offPanic Q) S n (L.setIfInBounds i true) (a.put o.dst v) w) : wpAnyH P .any ops (offPanic Q) S (n + 1) L a w := by
  rw [Bool.and_eq_true] at hc
  exact wpAnyH_take hi hs hc.1 hc.2 (fun _ _ _ h => h) (.inl ⟨hw, hv⟩) hS h
abbrev EachStepH (P : Program) (ops : Array Oper) (S : World → Prop) (Q : Exit → Act → World → Prop) (n : Nat) (L : Array Bool) (a : Act) (w : World) (i : Nat) (o : Oper) : Prop :=
  ∀ K : Act → World → Prop, (∀ a w, S w → wpAnyH P .any ops Q S n (L.setIfInBounds i true) a w → K a w) → if Region.wanted o (yielded ops a.tmps) = true then Oper.wp P o a w K Q else K (a.put o.dst undef) w
theorem eachH1 {i n : Nat} {o : Oper} {L : Array Bool} {a : Act} {w : World} (hr : (Region.ready .any ops L == [i]) = true) (hi : ops[i]? = some o) (h : EachStepH P ops S Q n L a w i o) : wpAnyH P .any ops Q S (n + 1) L a w := by
  refine wpAnyH_all (by simpa using hr) (by simp) (fun j hj => ?_)
  obtain rfl : j = i := by simpa using hj
  exact wpOp_step hi (fun K hK => h K (fun a w hS h' => hK a w ⟨hS, h'⟩))
theorem eachH2 {i j n : Nat} {o p : Oper} {L : Array Bool} {a : Act} {w : World} (hr : (Region.ready .any ops L == [i, j]) = true) (hi : ops[i]? = some o) (hj : ops[j]? = some p) (h : EachStepH P ops S Q n L a w i o) (h2 : EachStepH P ops S Q n L a w j p) : wpAnyH P .any ops Q S (n + 1) L a w := by
  refine wpAnyH_all (by simpa using hr) (by simp) (fun k hk => ?_)
  rcases (by simpa using hk : k = i ∨ k = j) with rfl | rfl
  · exact wpOp_step hi (fun K hK => h K (fun a w hS h' => hK a w ⟨hS, h'⟩))
  · exact wpOp_step hj (fun K hK => h2 K (fun a w hS h' => hK a w ⟨hS, h'⟩))
theorem eachH3 {i j k n : Nat} {o p q : Oper} {L : Array Bool} {a : Act} {w : World} (hr : (Region.ready .any ops L == [i, j, k]) = true) (hi : ops[i]? = some o) (hj : ops[j]? = some p) (hk : ops[k]? = some q) (h : EachStepH P ops S Q n L a w i o) (h2 : EachStepH P ops S Q n L a w j p) (h3 : EachStepH P ops S Q n L a w k q) : wpAnyH P .any ops Q S (n + 1) L a w := by
  refine wpAnyH_all (by simpa using hr) (by simp) (fun x hx => ?_)
  rcases (by simpa using hx : x = i ∨ x = j ∨ x = k) with rfl | rfl | rfl
  · exact wpOp_step hi (fun K hK => h K (fun a w hS h' => hK a w ⟨hS, h'⟩))
  · exact wpOp_step hj (fun K hK => h2 K (fun a w hS h' => hK a w ⟨hS, h'⟩))
  · exact wpOp_step hk (fun K hK => h3 K (fun a w hS h' => hK a w ⟨hS, h'⟩))
theorem eachH_done {L : Array Bool} {a : Act} {w : World} {n : Nat} (hr : Region.ready .any ops L = []) (h : Q .normal a w) : wpAnyH P .any ops (offPanic Q) S n L a w := wpAnyH_done (Q := offPanic Q) hr h n
end
end Go.Proofs.YtdlpbpikhmciaaaGreatDoor
namespace Go.Proofs.YtdlpbpikhmciaaaGreatDoor
open Go.RowKit
set_option linter.unusedSimpArgs false
set_option linter.unusedVariables false
set_option maxRecDepth 1000000
def eX : ByteArray := ⟨#[120]⟩
def e0 : ByteArray := ⟨#[]⟩
def kRow (f g : FuncId) (un ut um : ByteArray) (us uc : Int) : List Value := [.func (.func f) #[] #[], .func (.func g) #[] #[], .int .i64 0, .string un, .string ut, .string um, .int .i64 us, .int .i64 uc]
def kAll : List Value := [.nilFunc, .nilFunc, .int .i64 0, .string e0, .string e0, .string e0, .int .i64 0, .int .i64 0] ++ kRow 46 47 e0 eX eX 1 0 ++ kRow 49 50 e0 e0 e0 1 0 ++ kRow 51 52 e0 eX e0 1 0 ++ kRow 53 54 e0 e0 e0 0 0 ++ kRow 55 54 e0 e0 e0 0 0 ++ kRow 56 57 eX e0 e0 0 1 ++ kRow 58 59 e0 e0 e0 0 1 ++ kRow 60 61 eX e0 e0 0 0 ++ kRow 63 54 e0 e0 e0 0 0
def kArr : Array Value := kAll.toArray
set_option maxHeartbeats 4000000 in
theorem kinds_any (w : World) : Calls Tryz.prog 25 #[] w fun e w' => e = .returned (.slice (some ⟨w.heap.size, 0, none⟩) 10 10) ∧ w' = w.alloc (.cells kArr 74) := by
  go_enter Tryz.func25, Tryz.ntmps25
  go_wp2
  go_ret
  exact ⟨rfl, rfl⟩
def rt3 (t : List UInt8) (s : Int) : Bool := (s == 301 || (s == 302 || (s == 303 || (s == 307 || s == 308)))) && (refR [] t).isSome
theorem parsNil (W : World) : ParsIn W (.slice none 0 0) [] := ⟨none, 0, rfl, fun i p hp => by simp at hp⟩
theorem rfT_is (ps : List Par) (l : List UInt8) (b : Bool) (h : (refR ps l).isSome = b) : (rfT ps l).2 = if b then 0 else 180 := by
  unfold rfT
  cases hr : refR ps l with
  | none => rw [hr] at h; subst h; rfl
  | some x => rw [hr] at h; subst h; rfl
set_option maxHeartbeats 4000000 in
theorem lit3_any (k s c : Int) (n t m : ByteArray) (w : World) (hs : t.size ≤ 1048576) : Calls Tryz.prog 52 #[.agg (hdC k n t m s c)] w fun e w' => e = .returned (.bool (rt3 t.data.toList s)) ∧ Below w.heap.size w w' := by
  have hN := orefer_any t (.slice none 0 0) [] (w.alloc (.cells (hdC k n t m s c) 23)) hs (by simp [totP]) (parsNil _)
  obtain ⟨b, hb⟩ : ∃ b, (refR [] t.data.toList).isSome = b := ⟨_, rfl⟩
  have hX : rt3 t.data.toList s = ((s == 301 || (s == 302 || (s == 303 || (s == 307 || s == 308)))) && b) := by unfold rt3; rw [hb]
  rw [hX]
  rw [rfT_is _ _ _ hb] at hN
  obtain ⟨x, hx⟩ : ∃ x : ByteArray, ⟨(rfT [] t.data.toList).1.toArray⟩ = x := ⟨_, rfl⟩
  rw [hx] at hN
  have HN := Lib.hid hN
  have HBW := Lib.hid (show ∀ a, Below w.heap.size w (w.alloc (.cells a 23)) from fun a => below1 w _)
  clear hX hb hx hN
  by_cases h1 : s = 301 ∨ s = 302 ∨ s = 303 ∨ s = 307 ∨ s = 308
  · rcases h1 with rfl | rfl | rfl | rfl | rfl
    all_goals
      cases b
      all_goals
        go_enter Tryz.func52, Tryz.ntmps52
        go_wp2_with fail
        refine (HN.out).mono ?_
        rintro e w1 ⟨rfl, hb1⟩
        have HB := Lib.hid ((HBW.out _).trans (hb1.mono (HBW.out _).size))
        clear hb1
        go_wp2
        go_ret
        exact ⟨by first | rfl | trivial, HB.out⟩
  · have g1 : (s == 301) = false := by simp; omega
    have g2 : (s == 302) = false := by simp; omega
    have g3 : (s == 303) = false := by simp; omega
    have g4 : (s == 307) = false := by simp; omega
    have g5 : (s == 308) = false := by simp; omega
    have hx : ((s == 301 || (s == 302 || (s == 303 || (s == 307 || s == 308)))) && b) = false := by rw [g1, g2, g3, g4, g5]; rfl
    have HX := Lib.hid hx
    clear hx h1
    go_enter Tryz.func52, Tryz.ntmps52
    go_wp2
    go_ret
    exact ⟨ret_boolO HX.out.symm, HBW.out _⟩
end Go.Proofs.YtdlpbpikhmciaaaGreatDoor
namespace Go.Proofs.YtdlpbpikhmciaaaGreatDoor
open Go.RowKit
set_option linter.unusedSimpArgs false
set_option linter.unusedVariables false
set_option maxRecDepth 1000000
theorem alloc_le {L : Nat} {w : World} (h : L ≤ w.heap.size) (o : Obj) : L ≤ (w.alloc o).heap.size := by simp; omega
/-- A block that holds one object and may be written. -/
def BlkIs (w : World) (b : Nat) (cs : Array Value) (T : TypeId) : Prop := w.heap[b]? = some (.cells cs T)
theorem BlkIs.lt {w : World} {b : Nat} {cs : Array Value} {T : TypeId} (h : BlkIs w b cs T) : b < w.heap.size := (Array.getElem?_eq_some_iff.1 h).1
theorem blkIs_new (w : World) (cs : Array Value) (T : TypeId) : BlkIs (w.alloc (.cells cs T)) w.heap.size cs T := heap_alloc_new w _
theorem BlkIs.below {w w' : World} {B b : Nat} {cs : Array Value} {T : TypeId} (h : BlkIs w b cs T) (hb : Below B w w') (hlt : b < B) : BlkIs w' b cs T := by unfold BlkIs; rw [hb.block b hlt]; exact h
theorem BlkIs.later {w w' : World} {b : Nat} {cs : Array Value} {T : TypeId} (h : BlkIs w b cs T) (hb : Below w.heap.size w w') : BlkIs w' b cs T := h.below hb h.lt
theorem BlkIs.alloc {w : World} {b : Nat} {cs : Array Value} {T : TypeId} (h : BlkIs w b cs T) (o : Obj) : BlkIs (w.alloc o) b cs T := h.later ((Below.refl _ w).alloc (Nat.le_refl _) o)
theorem BlkIs.cell {w : World} {b : Nat} {cs : Array Value} {T : TypeId} (h : BlkIs w b cs T) (j : Nat) (v : Value) (hj : cs[j]? = some v) : w.cell? ⟨b, j, none⟩ = some v := by
  rw [Lib.cell_of_heap h]; exact hj
theorem BlkIs.free {w : World} {b : Nat} {cs : Array Value} {T : TypeId} (h : BlkIs w b cs T) (j : Nat) : w.frozen? ⟨b, j, none⟩ = false := Lib.frozen_of_heap h j
theorem BlkIs.grown {w w' : World} {b : Nat} {cs : Array Value} {T : TypeId} {row : Option Nat} (h : BlkIs w b cs T) (hg : w.grownBy w' row) (hne : row ≠ some b) : BlkIs w' b cs T := by unfold BlkIs; rw [hg.block b h.lt (fun e => hne e.symm)]; exact h
theorem BlkIs.set {w : World} {b : Nat} {cs : Array Value} {T : TypeId} (h : BlkIs w b cs T) (j : Nat) (v : Value) : BlkIs (w.setCell ⟨b, j, none⟩ v) b (cs.setIfInBounds j v) T := Joins.block_setCell h v
theorem BlkIs.setOther {w : World} {b : Nat} {cs : Array Value} {T : TypeId} (h : BlkIs w b cs T) (a : Addr) (v : Value) (hne : b ≠ a.block) : BlkIs (w.setCell a v) b cs T := by unfold BlkIs; rw [Below.heap_setCell w a v b hne]; exact h
/-- A row of another type does not stand in such a block. -/
theorem own_blk {w : World} {L b n s : Nat} {cs : Array Value} {T e : TypeId} {v : Value} {xs : List Value} (hown : w.ownsRow L e s v n xs) (h : BlkIs w b cs T) (hne : e ≠ T) : v.ownBlock ≠ some b := by
  rcases hown.2 with ⟨rfl, _⟩ | ⟨g, c, cur, rfl, _, hg, _⟩
  · simp [Value.ownBlock]
  · intro e2
    simp [Value.ownBlock] at e2
    subst e2
    unfold BlkIs at h
    rw [h] at hg
    injection hg with hg
    injection hg with _ hg
    exact hne hg.symm
theorem own_setOther {w : World} {L b j n s : Nat} {e : TypeId} {v u : Value} {xs : List Value} (hown : w.ownsRow L e s v n xs) (hne : v.ownBlock ≠ some b) : (w.setCell ⟨b, j, none⟩ u).ownsRow L e s v n xs :=
  hown.kept (row := some b) ⟨rfl, rfl, rfl, by simp, fun k hk hkb => Below.heap_setCell w ⟨b, j, none⟩ u k (fun e => hkb (by rw [e]))⟩ (Or.inr hne)
theorem par_bd (i n : Nat) (h : i < n) (hn : n ≤ 1073741824) : i + 1 ≤ maxLen ∧ (i + 1) * 40 ≤ 140737488355328 := by unfold maxLen; omega
theorem cells_new2 (w : World) (o : Obj) (e : TypeId) (l : List Value) : ∀ j u, l[j]? = some u → ((w.alloc o).alloc (.cells l.toArray e)).cell? ((⟨w.heap.size + 1, 0, none⟩ : Addr).add j) = some u := by
  intro j u hu
  have := cells_new (w.alloc o) e l j u hu
  rwa [show (w.alloc o).heap.size = w.heap.size + 1 from by simp] at this
end Go.Proofs.YtdlpbpikhmciaaaGreatDoor
namespace Go.Proofs.YtdlpbpikhmciaaaGreatDoor
open Go.RowKit
set_option linter.unusedSimpArgs false
set_option linter.unusedVariables false
set_option maxRecDepth 1000000
def chkI (a b : Bool) : Int := if a && b then 0 else 180
abbrev zK : Array Value := #[.nilFunc, .nilFunc, .int .i64 0, .string ⟨#[]⟩, .string ⟨#[]⟩, .string ⟨#[]⟩, .int .i64 0, .int .i64 0]
theorem eightBelow {w W : World} {p : Nat} (h : Below w.heap.size w W) (hp : w.heap.size ≤ p) (u0 u1 u2 u3 u4 u5 u6 u7 : Value) :
    Below w.heap.size w ((((((((W.setCell ⟨p, 0, none⟩ u0).setCell ⟨p, 1, none⟩ u1).setCell ⟨p, 2, none⟩ u2).setCell ⟨p, 3, none⟩ u3).setCell ⟨p, 4, none⟩ u4).setCell ⟨p, 5, none⟩ u5).setCell ⟨p, 6, none⟩ u6).setCell ⟨p, 7, none⟩ u7) :=
  (((((((h.setCell (p := ⟨p, 0, none⟩) hp _).setCell (p := ⟨p, 1, none⟩) hp _).setCell (p := ⟨p, 2, none⟩) hp _).setCell (p := ⟨p, 3, none⟩) hp _).setCell (p := ⟨p, 4, none⟩) hp _).setCell (p := ⟨p, 5, none⟩) hp _).setCell (p := ⟨p, 6, none⟩) hp _).setCell (p := ⟨p, 7, none⟩) hp _
theorem eightOther {W : World} {p g : Nat} {c : Array Value} {T : TypeId} (h : BlkIs W g c T) (hne : g ≠ p) (u0 u1 u2 u3 u4 u5 u6 u7 : Value) :
    BlkIs ((((((((W.setCell ⟨p, 0, none⟩ u0).setCell ⟨p, 1, none⟩ u1).setCell ⟨p, 2, none⟩ u2).setCell ⟨p, 3, none⟩ u3).setCell ⟨p, 4, none⟩ u4).setCell ⟨p, 5, none⟩ u5).setCell ⟨p, 6, none⟩ u6).setCell ⟨p, 7, none⟩ u7) g c T :=
  (((((((h.setOther _ _ hne).setOther _ _ hne).setOther _ _ hne).setOther _ _ hne).setOther _ _ hne).setOther _ _ hne).setOther _ _ hne).setOther _ _ hne
theorem eightSet {W : World} {p : Nat} (h : BlkIs W p zK 74) (u0 u1 u2 u3 u4 u5 u6 u7 : Value) :
    BlkIs ((((((((W.setCell ⟨p, 0, none⟩ u0).setCell ⟨p, 1, none⟩ u1).setCell ⟨p, 2, none⟩ u2).setCell ⟨p, 3, none⟩ u3).setCell ⟨p, 4, none⟩ u4).setCell ⟨p, 5, none⟩ u5).setCell ⟨p, 6, none⟩ u6).setCell ⟨p, 7, none⟩ u7) p #[u0, u1, u2, u3, u4, u5, u6, u7] 74 := by
  have h8 := (((((((h.set 0 u0).set 1 u1).set 2 u2).set 3 u3).set 4 u4).set 5 u5).set 6 u6).set 7 u7
  have e : (((((((zK.setIfInBounds 0 u0).setIfInBounds 1 u1).setIfInBounds 2 u2).setIfInBounds 3 u3).setIfInBounds 4 u4).setIfInBounds 5 u5).setIfInBounds 6 u6).setIfInBounds 7 u7 = #[u0, u1, u2, u3, u4, u5, u6, u7] := by simp
  rw [e] at h8
  exact h8
end Go.Proofs.YtdlpbpikhmciaaaGreatDoor
namespace Go.Proofs.YtdlpbpikhmciaaaGreatDoor
open Go.RowKit
set_option linter.unusedSimpArgs false
set_option linter.unusedVariables false
set_option maxRecDepth 1000000
abbrev asC (me ta : ByteArray) (ma mi : Int) (fs : Value) : Array Value := #[.string me, .string ta, .int .i64 ma, .int .i64 mi, fs, .string ⟨#[]⟩, .slice none 0 0, .int .i64 0, .string ⟨#[]⟩, .int .i64 0, .string ⟨#[]⟩, .string ⟨#[]⟩, .bool false, .slice none 0 0, .int .i64 0]
abbrev vC (k s c : Int) (n t m : ByteArray) (me ta : ByteArray) (ma mi : Int) (fs : Value) (sv : Value) : Array Value := #[.int .i64 k, .string n, .string t, .string m, .int .i64 s, .int .i64 c, .string me, .string ta, .int .i64 ma, .int .i64 mi, fs, .string ⟨#[]⟩, .slice none 0 0, .int .i64 0, .string ⟨#[]⟩, .int .i64 0, .string ⟨#[]⟩, .string ⟨#[]⟩, .bool false, .slice none 0 0, .int .i64 0, sv]
abbrev rC (st : Int) (re : ByteArray) (fv : Value) (bo : ByteArray) : Array Value := #[.int .i64 st, .string re, fv, .string bo]
abbrev zR : Array Value := #[.int .i64 0, .string ⟨#[]⟩, .slice none 0 0, .string ⟨#[]⟩]
abbrev Fld := List UInt8 × List UInt8
/-- A list of fields in a row of its own. -/
def FldRow (W : World) (fv : Value) (L : List Fld) : Prop := (L = [] ∧ fv = .slice none 0 0) ∨ ∃ g cs cap fr, fv = .slice (some ⟨g, 0, none⟩) L.length cap ∧ W.heap[g]? = some (.cells cs 43 fr) ∧ ∀ i p, L[i]? = some p → cs[i * 2]? = some (.string ⟨p.1.toArray⟩) ∧ cs[i * 2 + 1]? = some (.string ⟨p.2.toArray⟩)
theorem FldRow.later {W W' : World} {fv : Value} {L : List Fld} (h : FldRow W fv L) (hb : Below W.heap.size W W') : FldRow W' fv L := by
  rcases h with h | ⟨g, cs, cap, fr, h1, h2, h3⟩
  · exact .inl h
  · exact .inr ⟨g, cs, cap, fr, h1, by rw [hb.block g (Array.getElem?_eq_some_iff.1 h2).1]; exact h2, h3⟩
theorem FldRow.set {W : World} {fv : Value} {L : List Fld} (h : FldRow W fv L) {b j : Nat} {cs : Array Value} {T : TypeId} (hB : BlkIs W b cs T) (hT : T ≠ 43) (u : Value) : FldRow (W.setCell ⟨b, j, none⟩ u) fv L := by
  rcases h with h | ⟨g, cs', cap, fr, h1, h2, h3⟩
  · exact .inl h
  · refine .inr ⟨g, cs', cap, fr, h1, ?_, h3⟩
    rw [Below.heap_setCell W ⟨b, j, none⟩ u g (by
      intro e
      have e' : g = b := e
      unfold BlkIs at hB
      rw [e', hB] at h2
      injection h2 with h2
      injection h2 with _ h2
      exact hT h2)]
    exact h2
theorem FldRow.at {W : World} {fv : Value} {L : List Fld} (h : FldRow W fv L) (i : Nat) (p : Fld) (hp : L[i]? = some p) : ∃ g cap, fv = .slice (some ⟨g, 0, none⟩) L.length cap ∧ W.cell? ⟨g, i * 2, none⟩ = some (.string ⟨p.1.toArray⟩) ∧ W.cell? ⟨g, i * 2 + 1, none⟩ = some (.string ⟨p.2.toArray⟩) := by
  rcases h with ⟨rfl, _⟩ | ⟨g, cs, cap, fr, h1, h2, h3⟩
  · simp at hp
  · exact ⟨g, cap, h1, by rw [Lib.cell_of_heap h2]; exact (h3 i p hp).1, by rw [Lib.cell_of_heap h2]; exact (h3 i p hp).2⟩
theorem fldRow_one (W : World) (a b : List UInt8) : FldRow (W.alloc (.cells #[.string ⟨a.toArray⟩, .string ⟨b.toArray⟩] 43)) (.slice (some ⟨W.heap.size, 0, none⟩) 1 1) [(a, b)] := by
  refine .inr ⟨W.heap.size, #[.string ⟨a.toArray⟩, .string ⟨b.toArray⟩], 1, (0, 0), rfl, heap_alloc_new W _, fun i p hp => ?_⟩
  match i, hp with
  | 0, hp =>
    obtain rfl : (a, b) = p := by simpa using hp
    exact ⟨rfl, rfl⟩
theorem results_respC {fn : Func} {p : Tmp} (h : fn.results = #[.cell p 46]) (tmps : Array Value) (w : World) (g : Nat) (cs : Array Value) (fr : Nat × Nat)
    (hp : tmps.getD p undef = .pointer (some ⟨g, 0, none⟩)) (hg : w.heap[g]? = some (.cells cs 46 fr)) (hs : cs.size = 4) :
    (results fn tmps).run Tryz.prog w = .ok (.agg cs) w :=
  results_cell_row h tmps w g 46 cs fr _ hp hg Tryz.underlying46 rfl (by rw [hs]; kernel_rfl)
theorem fourBelow {w W : World} {p : Nat} (h : Below w.heap.size w W) (hp : w.heap.size ≤ p) (u0 u1 u2 u3 : Value) :
    Below w.heap.size w ((((W.setCell ⟨p, 0, none⟩ u0).setCell ⟨p, 1, none⟩ u1).setCell ⟨p, 2, none⟩ u2).setCell ⟨p, 3, none⟩ u3) :=
  (((h.setCell (p := ⟨p, 0, none⟩) hp _).setCell (p := ⟨p, 1, none⟩) hp _).setCell (p := ⟨p, 2, none⟩) hp _).setCell (p := ⟨p, 3, none⟩) hp _
theorem fourSet {W : World} {p : Nat} {z : Array Value} {T : TypeId} (h : BlkIs W p z T) (hz : z.size = 4) (u0 u1 u2 u3 : Value) :
    BlkIs ((((W.setCell ⟨p, 0, none⟩ u0).setCell ⟨p, 1, none⟩ u1).setCell ⟨p, 2, none⟩ u2).setCell ⟨p, 3, none⟩ u3) p #[u0, u1, u2, u3] T := by
  have h8 := (((h.set 0 u0).set 1 u1).set 2 u2).set 3 u3
  have e : (((z.setIfInBounds 0 u0).setIfInBounds 1 u1).setIfInBounds 2 u2).setIfInBounds 3 u3 = #[u0, u1, u2, u3] := by
    match z, hz with
    | ⟨[a, b, c, d]⟩, _ => simp
  rw [e] at h8
  exact h8
theorem fourFld {W : World} {fv : Value} {L : List Fld} (h : FldRow W fv L) {p : Nat} {z : Array Value} (hB : BlkIs W p z 46) (u0 u1 u2 u3 : Value) :
    FldRow ((((W.setCell ⟨p, 0, none⟩ u0).setCell ⟨p, 1, none⟩ u1).setCell ⟨p, 2, none⟩ u2).setCell ⟨p, 3, none⟩ u3) fv L :=
  (((h.set hB (by decide) u0).set (hB.set 0 u0) (by decide) u1).set ((hB.set 0 u0).set 1 u1) (by decide) u2).set (((hB.set 0 u0).set 1 u1).set 2 u2) (by decide) u3
def ctL : List UInt8 := [67, 111, 110, 116, 101, 110, 116, 45, 84, 121, 112, 101]
def tpL : List UInt8 := [116, 101, 120, 116, 47, 112, 108, 97, 105, 110, 59, 32, 99, 104, 97, 114, 115, 101, 116, 61, 117, 116, 102, 45, 56]
/-- An answer: its status, reason, fields, body. -/
def RespIs (st : Int) (re : List UInt8) (L : List Fld) (bo : List UInt8) (w : World) (e : Ending) (w' : World) : Prop :=
  ∃ fv, e = .returned (.agg (rC st ⟨re.toArray⟩ fv ⟨bo.toArray⟩)) ∧ FldRow w' fv L ∧ Below w.heap.size w w'
set_option maxHeartbeats 4000000 in
theorem said_any (t : List UInt8) (w : World) : Calls Tryz.prog 79 #[.string ⟨t.toArray⟩] w (RespIs 200 [] [(ctL, tpL)] t w) := by
  obtain ⟨p, hp⟩ : ∃ p, w.heap.size = p := ⟨_, rfl⟩
  go_enter Tryz.func79, Tryz.ntmps79
  go_wp2
  refine bodyPost_ret (v := .agg (rC 200 ⟨#[]⟩ (.slice (some ⟨p + 1, 0, none⟩) 1 1) ⟨t.toArray⟩)) ?r rfl ⟨_, rfl, ?f, ?b⟩
  case r => exact results_respC rfl _ _ p _ (0, 0) rfl (by rw [← hp]; exact (blkIs_new w _ _).alloc _) rfl
  case f =>
    have := fldRow_one (w.alloc (.cells (rC 200 ⟨#[]⟩ (.slice (some ⟨p + 1, 0, none⟩) 1 1) ⟨t.toArray⟩) 46)) ctL tpL
    rw [World.size_alloc, hp] at this
    exact this
  case b => exact (below1 w _).alloc (by simp) _
set_option maxHeartbeats 8000000 in
theorem vtext_any (v : Nat) (k s c : Int) (n me ta : ByteArray) (t m : List UInt8) (ma mi : Int) (fs sv : Value) (w : World) (h : BlkIs w v (vC k s c n ⟨t.toArray⟩ ⟨m.toArray⟩ me ta ma mi fs sv) 100) : Calls Tryz.prog 46 #[.pointer (some ⟨v, 0, none⟩)] w (RespIs s [] [(ctL, m)] t w) := by
  obtain ⟨p, hp⟩ : ∃ p, w.heap.size = p := ⟨_, rfl⟩
  obtain ⟨W2, hW2⟩ : ∃ W2, w.alloc (.cells zR 46) = W2 := ⟨_, rfl⟩
  have hS : BlkIs W2.drew v (vC k s c n ⟨t.toArray⟩ ⟨m.toArray⟩ me ta ma mi fs sv) 100 := by rw [← hW2]; exact h.later (below1 w _).drew
  have hP : BlkIs W2.drew p zR 46 := by rw [← hW2, ← hp]; exact blkIs_new _ _ _
  have hb : Below w.heap.size w W2.drew := by rw [← hW2]; exact (below1 w _).drew
  have HW2 := Lib.hid hW2; have HI := Lib.hid (And.intro hP hb); have HPP := Lib.hid hp
  clear hW2 hP hb h
  go_enter Tryz.func46, Tryz.ntmps46
  go_upto_region 1 with fail
  rw [HW2.out]
  refine wp_region_eachH (fun W => BlkIs W v (vC k s c n ⟨t.toArray⟩ ⟨m.toArray⟩ me ta ma mi fs sv) 100) 19 (by kernel_rfl) (by kernel_rfl) ?_
  obtain ⟨WD, hWD⟩ : ∃ W, W2.drew = W := ⟨_, rfl⟩
  rw [hWD] at HI hS ⊢
  clear hWD
  refine eachH_take (i := 0) rfl (by kernel_rfl) (by kernel_rfl) (by kernel_rfl) hS (v := ?_) ?_ ?_; rotate_left; · (intro W hS; have t2 : W.cell? ⟨v, 2, none⟩ = some (.string ⟨t.toArray⟩) := hS.cell 2 _ rfl; have t3 : W.cell? ⟨v, 3, none⟩ = some (.string ⟨m.toArray⟩) := hS.cell 3 _ rfl; have t4 : W.cell? ⟨v, 4, none⟩ = some (.int .i64 s) := hS.cell 4 _ rfl; clear hS; go_simp; with_reducible rfl)
  refine eachH_take (i := 1) rfl (by kernel_rfl) (by kernel_rfl) (by kernel_rfl) hS (v := ?_) ?_ ?_; rotate_left; · (intro W hS; have t2 : W.cell? ⟨v, 2, none⟩ = some (.string ⟨t.toArray⟩) := hS.cell 2 _ rfl; have t3 : W.cell? ⟨v, 3, none⟩ = some (.string ⟨m.toArray⟩) := hS.cell 3 _ rfl; have t4 : W.cell? ⟨v, 4, none⟩ = some (.int .i64 s) := hS.cell 4 _ rfl; clear hS; go_simp; with_reducible rfl)
  refine eachH_take (i := 2) rfl (by kernel_rfl) (by kernel_rfl) (by kernel_rfl) hS (v := ?_) ?_ ?_; rotate_left; · (intro W hS; have t2 : W.cell? ⟨v, 2, none⟩ = some (.string ⟨t.toArray⟩) := hS.cell 2 _ rfl; have t3 : W.cell? ⟨v, 3, none⟩ = some (.string ⟨m.toArray⟩) := hS.cell 3 _ rfl; have t4 : W.cell? ⟨v, 4, none⟩ = some (.int .i64 s) := hS.cell 4 _ rfl; clear hS; go_simp; with_reducible rfl)
  refine eachH_take (i := 3) rfl (by kernel_rfl) (by kernel_rfl) (by kernel_rfl) hS (v := ?_) ?_ ?_; rotate_left; · (intro W hS; have t2 : W.cell? ⟨v, 2, none⟩ = some (.string ⟨t.toArray⟩) := hS.cell 2 _ rfl; have t3 : W.cell? ⟨v, 3, none⟩ = some (.string ⟨m.toArray⟩) := hS.cell 3 _ rfl; have t4 : W.cell? ⟨v, 4, none⟩ = some (.int .i64 s) := hS.cell 4 _ rfl; clear hS; go_simp; with_reducible rfl)
  refine eachH_take (i := 4) rfl (by kernel_rfl) (by kernel_rfl) (by kernel_rfl) hS (v := ?_) ?_ ?_; rotate_left; · (intro W hS; have t2 : W.cell? ⟨v, 2, none⟩ = some (.string ⟨t.toArray⟩) := hS.cell 2 _ rfl; have t3 : W.cell? ⟨v, 3, none⟩ = some (.string ⟨m.toArray⟩) := hS.cell 3 _ rfl; have t4 : W.cell? ⟨v, 4, none⟩ = some (.int .i64 s) := hS.cell 4 _ rfl; clear hS; go_simp; with_reducible rfl)
  refine eachH_take (i := 5) rfl (by kernel_rfl) (by kernel_rfl) (by kernel_rfl) hS (v := ?_) ?_ ?_; rotate_left; · (intro W hS; have t2 : W.cell? ⟨v, 2, none⟩ = some (.string ⟨t.toArray⟩) := hS.cell 2 _ rfl; have t3 : W.cell? ⟨v, 3, none⟩ = some (.string ⟨m.toArray⟩) := hS.cell 3 _ rfl; have t4 : W.cell? ⟨v, 4, none⟩ = some (.int .i64 s) := hS.cell 4 _ rfl; clear hS; go_simp; with_reducible rfl)
  refine eachH_take (i := 6) rfl (by kernel_rfl) (by kernel_rfl) (by kernel_rfl) hS (v := ?_) ?_ ?_; rotate_left; · (intro W hS; have t2 : W.cell? ⟨v, 2, none⟩ = some (.string ⟨t.toArray⟩) := hS.cell 2 _ rfl; have t3 : W.cell? ⟨v, 3, none⟩ = some (.string ⟨m.toArray⟩) := hS.cell 3 _ rfl; have t4 : W.cell? ⟨v, 4, none⟩ = some (.int .i64 s) := hS.cell 4 _ rfl; clear hS; go_simp; with_reducible rfl)
  refine eachH_take (i := 7) rfl (by kernel_rfl) (by kernel_rfl) (by kernel_rfl) hS (v := ?_) ?_ ?_; rotate_left; · (intro W hS; have t2 : W.cell? ⟨v, 2, none⟩ = some (.string ⟨t.toArray⟩) := hS.cell 2 _ rfl; have t3 : W.cell? ⟨v, 3, none⟩ = some (.string ⟨m.toArray⟩) := hS.cell 3 _ rfl; have t4 : W.cell? ⟨v, 4, none⟩ = some (.int .i64 s) := hS.cell 4 _ rfl; clear hS; go_simp; with_reducible rfl)
  refine eachH_take (i := 8) rfl (by kernel_rfl) (by kernel_rfl) (by kernel_rfl) hS (v := ?_) ?_ ?_; rotate_left; · (intro W hS; have t2 : W.cell? ⟨v, 2, none⟩ = some (.string ⟨t.toArray⟩) := hS.cell 2 _ rfl; have t3 : W.cell? ⟨v, 3, none⟩ = some (.string ⟨m.toArray⟩) := hS.cell 3 _ rfl; have t4 : W.cell? ⟨v, 4, none⟩ = some (.int .i64 s) := hS.cell 4 _ rfl; clear hS; go_simp; with_reducible rfl)
  refine eachH_take (i := 9) rfl (by kernel_rfl) (by kernel_rfl) (by kernel_rfl) hS (v := ?_) ?_ ?_; rotate_left; · (intro W hS; have t2 : W.cell? ⟨v, 2, none⟩ = some (.string ⟨t.toArray⟩) := hS.cell 2 _ rfl; have t3 : W.cell? ⟨v, 3, none⟩ = some (.string ⟨m.toArray⟩) := hS.cell 3 _ rfl; have t4 : W.cell? ⟨v, 4, none⟩ = some (.int .i64 s) := hS.cell 4 _ rfl; clear hS; go_simp; with_reducible rfl)
  refine eachH_take (i := 10) rfl (by kernel_rfl) (by kernel_rfl) (by kernel_rfl) hS (v := ?_) ?_ ?_; rotate_left; · (intro W hS; have t2 : W.cell? ⟨v, 2, none⟩ = some (.string ⟨t.toArray⟩) := hS.cell 2 _ rfl; have t3 : W.cell? ⟨v, 3, none⟩ = some (.string ⟨m.toArray⟩) := hS.cell 3 _ rfl; have t4 : W.cell? ⟨v, 4, none⟩ = some (.int .i64 s) := hS.cell 4 _ rfl; clear hS; go_simp; with_reducible rfl)
  refine eachH_take (i := 12) rfl (by kernel_rfl) (by kernel_rfl) (by kernel_rfl) hS (v := ?_) ?_ ?_; rotate_left; · (intro W hS; have t2 : W.cell? ⟨v, 2, none⟩ = some (.string ⟨t.toArray⟩) := hS.cell 2 _ rfl; have t3 : W.cell? ⟨v, 3, none⟩ = some (.string ⟨m.toArray⟩) := hS.cell 3 _ rfl; have t4 : W.cell? ⟨v, 4, none⟩ = some (.int .i64 s) := hS.cell 4 _ rfl; clear hS; go_simp; with_reducible rfl)
  refine eachH_take (i := 13) rfl (by kernel_rfl) (by kernel_rfl) (by kernel_rfl) hS (v := ?_) ?_ ?_; rotate_left; · (intro W hS; have t2 : W.cell? ⟨v, 2, none⟩ = some (.string ⟨t.toArray⟩) := hS.cell 2 _ rfl; have t3 : W.cell? ⟨v, 3, none⟩ = some (.string ⟨m.toArray⟩) := hS.cell 3 _ rfl; have t4 : W.cell? ⟨v, 4, none⟩ = some (.int .i64 s) := hS.cell 4 _ rfl; clear hS; go_simp; with_reducible rfl)
  refine eachH_take (i := 14) rfl (by kernel_rfl) (by kernel_rfl) (by kernel_rfl) hS (v := ?_) ?_ ?_; rotate_left; · (intro W hS; have t2 : W.cell? ⟨v, 2, none⟩ = some (.string ⟨t.toArray⟩) := hS.cell 2 _ rfl; have t3 : W.cell? ⟨v, 3, none⟩ = some (.string ⟨m.toArray⟩) := hS.cell 3 _ rfl; have t4 : W.cell? ⟨v, 4, none⟩ = some (.int .i64 s) := hS.cell 4 _ rfl; clear hS; go_simp; with_reducible rfl)
  refine eachH_take (i := 15) rfl (by kernel_rfl) (by kernel_rfl) (by kernel_rfl) hS (v := ?_) ?_ ?_; rotate_left; · (intro W hS; have t2 : W.cell? ⟨v, 2, none⟩ = some (.string ⟨t.toArray⟩) := hS.cell 2 _ rfl; have t3 : W.cell? ⟨v, 3, none⟩ = some (.string ⟨m.toArray⟩) := hS.cell 3 _ rfl; have t4 : W.cell? ⟨v, 4, none⟩ = some (.int .i64 s) := hS.cell 4 _ rfl; clear hS; go_simp; with_reducible rfl)
  refine eachH_take (i := 16) rfl (by kernel_rfl) (by kernel_rfl) (by kernel_rfl) hS (v := ?_) ?_ ?_; rotate_left; · (intro W hS; have t2 : W.cell? ⟨v, 2, none⟩ = some (.string ⟨t.toArray⟩) := hS.cell 2 _ rfl; have t3 : W.cell? ⟨v, 3, none⟩ = some (.string ⟨m.toArray⟩) := hS.cell 3 _ rfl; have t4 : W.cell? ⟨v, 4, none⟩ = some (.int .i64 s) := hS.cell 4 _ rfl; clear hS; go_simp; with_reducible rfl)
  refine eachH1 (i := 11) (by kernel_rfl) rfl ?_
  intro K hK
  go_simp
  obtain ⟨g, hg⟩ : ∃ g, WD.heap.size = g := ⟨_, rfl⟩
  obtain ⟨W3, hW3⟩ : ∃ W3, WD.alloc (.cells #[.string ⟨ctL.toArray⟩, .string ⟨m.toArray⟩] 43) = W3 := ⟨_, rfl⟩
  have hS3 : BlkIs W3 v (vC k s c n ⟨t.toArray⟩ ⟨m.toArray⟩ me ta ma mi fs sv) 100 := by rw [← hW3]; exact hS.alloc _
  have hP3 : BlkIs W3 p zR 46 := by rw [← hW3]; exact HI.out.1.alloc _
  have hb3 : Below w.heap.size w W3 := by rw [← hW3]; exact HI.out.2.alloc HI.out.2.size _
  have hF3 : FldRow W3 (.slice (some ⟨g, 0, none⟩) 1 1) [(ctL, m)] := by rw [← hW3, ← hg]; exact fldRow_one _ _ _
  have hvp : v ≠ p := fun e => by
    rw [e] at hS3
    have h1 : W3.heap[p]? = _ := hS3
    have h2 : W3.heap[p]? = _ := hP3
    rw [h1] at h2
    injection h2 with h2
    injection h2 with _ h2
    exact absurd h2 (by decide)
  have HW3 := Lib.hid (show WD.alloc (.cells #[.string ⟨#[67, 111, 110, 116, 101, 110, 116, 45, 84, 121, 112, 101]⟩, .string ⟨m.toArray⟩] 43) = W3 from hW3)
  clear hW3 hS
  rw [hg, HW3.out]
  refine hK _ _ hS3 ?_
  clear hK K hg HW3
  refine eachH_take (i := 17) rfl (by kernel_rfl) (by kernel_rfl) (by kernel_rfl) hS3 (v := ?_) ?_ ?_; rotate_left; · (intro W hS; clear hS; go_simp; with_reducible rfl)
  refine eachH1 (i := 18) (by kernel_rfl) rfl ?_
  intro K hK
  have y0 := hP3.free 0
  have y1 := hP3.free 1
  have y2 := hP3.free 2
  have y3 := hP3.free 3
  have z0 := hP3.cell 0 _ rfl
  have z1 := hP3.cell 1 _ rfl
  have z2 := hP3.cell 2 _ rfl
  have z3 := hP3.cell 3 _ rfl
  have HF := Lib.hid (And.intro (fourSet hP3 rfl (.int .i64 s) (.string ⟨#[]⟩) (.slice (some ⟨g, 0, none⟩) 1 1) (.string ⟨t.toArray⟩)) (And.intro (fourBelow hb3 (Nat.le_of_eq HPP.out) (.int .i64 s) (.string ⟨#[]⟩) (.slice (some ⟨g, 0, none⟩) 1 1) (.string ⟨t.toArray⟩)) (And.intro (fourFld hF3 hP3 (.int .i64 s) (.string ⟨#[]⟩) (.slice (some ⟨g, 0, none⟩) 1 1) (.string ⟨t.toArray⟩)) ((((hS3.setOther ⟨p, 0, none⟩ (.int .i64 s) hvp).setOther ⟨p, 1, none⟩ (.string ⟨#[]⟩) hvp).setOther ⟨p, 2, none⟩ (.slice (some ⟨g, 0, none⟩) 1 1) hvp).setOther ⟨p, 3, none⟩ (.string ⟨t.toArray⟩) hvp))))
  clear hP3 hb3 hF3 hS3
  go_simp
  refine hK _ _ HF.out.2.2.2 ?_
  clear hK K y0 y1 y2 y3 z0 z1 z2 z3
  refine eachH_done (by kernel_rfl) ?_
  go_simp
  go_wp2
  refine bodyPost_ret (v := .agg (rC s ⟨#[]⟩ (.slice (some ⟨g, 0, none⟩) 1 1) ⟨t.toArray⟩)) ?r rfl ⟨_, rfl, HF.out.2.2.1, HF.out.2.1⟩
  case r => exact results_respC rfl _ _ p _ (0, 0) rfl HF.out.1 rfl
end Go.Proofs.YtdlpbpikhmciaaaGreatDoor
