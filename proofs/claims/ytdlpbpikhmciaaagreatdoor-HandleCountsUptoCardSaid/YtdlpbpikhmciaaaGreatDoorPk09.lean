/- HdA, HdD: texts of the seat, one behind the other (a claim holds at most sixty). Conditions: each theorem names its own. -/
import Derived.Test.YtdlpbpikhmciaaaGreatDoorPk08
import Derived.Test.YtdlpbpikhmciaaaGreatDoorPa02
import Derived.Lib.ItoaMem
import Derived.Lib.AppendIntMem
namespace Go.Proofs.YtdlpbpikhmciaaaGreatDoor
open Go.RowKit
set_option linter.unusedSimpArgs false
set_option linter.unusedVariables false
set_option maxRecDepth 1000000
abbrev asC (me ta : ByteArray) (ma mi : Int) (fs : Value) : Array Value := #[.string me, .string ta, .int .i64 ma, .int .i64 mi, fs, .string ⟨#[]⟩, .slice none 0 0, .int .i64 0, .string ⟨#[]⟩, .int .i64 0, .string ⟨#[]⟩, .string ⟨#[]⟩, .bool false, .slice none 0 0, .int .i64 0]
abbrev vC (k s c : Int) (n t m : ByteArray) (me ta : ByteArray) (ma mi : Int) (fs : Value) (sv : Value) : Array Value := #[.int .i64 k, .string n, .string t, .string m, .int .i64 s, .int .i64 c, .string me, .string ta, .int .i64 ma, .int .i64 mi, fs, .string ⟨#[]⟩, .slice none 0 0, .int .i64 0, .string ⟨#[]⟩, .int .i64 0, .string ⟨#[]⟩, .string ⟨#[]⟩, .bool false, .slice none 0 0, .int .i64 0, sv]
abbrev rC (st : Int) (re : ByteArray) (fv : Value) (bo : ByteArray) : Array Value := #[.int .i64 st, .string re, fv, .string bo]
abbrev zR : Array Value := #[.int .i64 0, .string ⟨#[]⟩, .slice none 0 0, .string ⟨#[]⟩]
abbrev Fld := List UInt8 × List UInt8
/-- A list of fields in a row of its own. -/
def FldRow (W : World) (fv : Value) (L : List Fld) : Prop := (L = [] ∧ fv = .slice none 0 0) ∨ ∃ g cs cap fr, fv = .slice (some ⟨g, 0, none⟩) L.length cap ∧ W.heap[g]? = some (.cells cs 43 fr) ∧ ∀ i p, L[i]? = some p → cs[i * 2]? = some (.string ⟨p.1.toArray⟩) ∧ cs[i * 2 + 1]? = some (.string ⟨p.2.toArray⟩)
theorem FldRow.later {W W' : World} {fv : Value} {L : List Fld} (h : FldRow W fv L) (hb : Below W.heap.size W W') : FldRow W' fv L := by
  rcases h with h | ⟨g, cs, cap, fr, h1, h2, h3⟩
  · exact .inl h
  · exact .inr ⟨g, cs, cap, fr, h1, by rw [hb.block g (Array.getElem?_eq_some_iff.1 h2).1]; exact h2, h3⟩
theorem FldRow.set {W : World} {fv : Value} {L : List Fld} (h : FldRow W fv L) {b j : Nat} {cs : Array Value} {T : TypeId} (hB : BlkIs W b cs T) (hT : T ≠ 43) (u : Value) : FldRow (W.setCell ⟨b, j, none⟩ u) fv L := by
  rcases h with h | ⟨g, cs', cap, fr, h1, h2, h3⟩
  · exact .inl h
  · refine .inr ⟨g, cs', cap, fr, h1, ?_, h3⟩
    rw [Below.heap_setCell W ⟨b, j, none⟩ u g (by
      intro e
      have e' : g = b := e
      unfold BlkIs at hB
      rw [e', hB] at h2
      injection h2 with h2
      injection h2 with _ h2
      exact hT h2)]
    exact h2
theorem FldRow.at {W : World} {fv : Value} {L : List Fld} (h : FldRow W fv L) (i : Nat) (p : Fld) (hp : L[i]? = some p) : ∃ g cap, fv = .slice (some ⟨g, 0, none⟩) L.length cap ∧ W.cell? ⟨g, i * 2, none⟩ = some (.string ⟨p.1.toArray⟩) ∧ W.cell? ⟨g, i * 2 + 1, none⟩ = some (.string ⟨p.2.toArray⟩) := by
  rcases h with ⟨rfl, _⟩ | ⟨g, cs, cap, fr, h1, h2, h3⟩
  · simp at hp
  · exact ⟨g, cap, h1, by rw [Lib.cell_of_heap h2]; exact (h3 i p hp).1, by rw [Lib.cell_of_heap h2]; exact (h3 i p hp).2⟩
theorem fldRow_one (W : World) (a b : List UInt8) : FldRow (W.alloc (.cells #[.string ⟨a.toArray⟩, .string ⟨b.toArray⟩] 43)) (.slice (some ⟨W.heap.size, 0, none⟩) 1 1) [(a, b)] := by
  refine .inr ⟨W.heap.size, #[.string ⟨a.toArray⟩, .string ⟨b.toArray⟩], 1, (0, 0), rfl, heap_alloc_new W _, fun i p hp => ?_⟩
  match i, hp with
  | 0, hp =>
    obtain rfl : (a, b) = p := by simpa using hp
    exact ⟨rfl, rfl⟩
theorem results_respC {fn : Func} {p : Tmp} (h : fn.results = #[.cell p 46]) (tmps : Array Value) (w : World) (g : Nat) (cs : Array Value) (fr : Nat × Nat)
    (hp : tmps.getD p undef = .pointer (some ⟨g, 0, none⟩)) (hg : w.heap[g]? = some (.cells cs 46 fr)) (hs : cs.size = 4) :
    (results fn tmps).run Tryz.prog w = .ok (.agg cs) w :=
  results_cell_row h tmps w g 46 cs fr _ hp hg Tryz.underlying46 rfl (by rw [hs]; kernel_rfl)
theorem fourBelow {w W : World} {p : Nat} (h : Below w.heap.size w W) (hp : w.heap.size ≤ p) (u0 u1 u2 u3 : Value) :
    Below w.heap.size w ((((W.setCell ⟨p, 0, none⟩ u0).setCell ⟨p, 1, none⟩ u1).setCell ⟨p, 2, none⟩ u2).setCell ⟨p, 3, none⟩ u3) :=
  (((h.setCell (p := ⟨p, 0, none⟩) hp _).setCell (p := ⟨p, 1, none⟩) hp _).setCell (p := ⟨p, 2, none⟩) hp _).setCell (p := ⟨p, 3, none⟩) hp _
theorem fourSet {W : World} {p : Nat} {z : Array Value} {T : TypeId} (h : BlkIs W p z T) (hz : z.size = 4) (u0 u1 u2 u3 : Value) :
    BlkIs ((((W.setCell ⟨p, 0, none⟩ u0).setCell ⟨p, 1, none⟩ u1).setCell ⟨p, 2, none⟩ u2).setCell ⟨p, 3, none⟩ u3) p #[u0, u1, u2, u3] T := by
  have h8 := (((h.set 0 u0).set 1 u1).set 2 u2).set 3 u3
  have e : (((z.setIfInBounds 0 u0).setIfInBounds 1 u1).setIfInBounds 2 u2).setIfInBounds 3 u3 = #[u0, u1, u2, u3] := by
    match z, hz with
    | ⟨[a, b, c, d]⟩, _ => simp
  rw [e] at h8
  exact h8
theorem fourFld {W : World} {fv : Value} {L : List Fld} (h : FldRow W fv L) {p : Nat} {z : Array Value} (hB : BlkIs W p z 46) (u0 u1 u2 u3 : Value) :
    FldRow ((((W.setCell ⟨p, 0, none⟩ u0).setCell ⟨p, 1, none⟩ u1).setCell ⟨p, 2, none⟩ u2).setCell ⟨p, 3, none⟩ u3) fv L :=
  (((h.set hB (by decide) u0).set (hB.set 0 u0) (by decide) u1).set ((hB.set 0 u0).set 1 u1) (by decide) u2).set (((hB.set 0 u0).set 1 u1).set 2 u2) (by decide) u3
def ctL : List UInt8 := [67, 111, 110, 116, 101, 110, 116, 45, 84, 121, 112, 101]
def tpL : List UInt8 := [116, 101, 120, 116, 47, 112, 108, 97, 105, 110, 59, 32, 99, 104, 97, 114, 115, 101, 116, 61, 117, 116, 102, 45, 56]
/-- An answer: its status, reason, fields, body. -/
def RespIs (st : Int) (re : List UInt8) (L : List Fld) (bo : List UInt8) (w : World) (e : Ending) (w' : World) : Prop :=
  ∃ fv, e = .returned (.agg (rC st ⟨re.toArray⟩ fv ⟨bo.toArray⟩)) ∧ FldRow w' fv L ∧ Below w.heap.size w w'
set_option maxHeartbeats 4000000 in
theorem said_any (t : List UInt8) (w : World) : Calls Tryz.prog 79 #[.string ⟨t.toArray⟩] w (RespIs 200 [] [(ctL, tpL)] t w) := by
  obtain ⟨p, hp⟩ : ∃ p, w.heap.size = p := ⟨_, rfl⟩
  go_enter Tryz.func79, Tryz.ntmps79
  go_wp2
  refine bodyPost_ret (v := .agg (rC 200 ⟨#[]⟩ (.slice (some ⟨p + 1, 0, none⟩) 1 1) ⟨t.toArray⟩)) ?r rfl ⟨_, rfl, ?f, ?b⟩
  case r => exact results_respC rfl _ _ p _ (0, 0) rfl (by rw [← hp]; exact (blkIs_new w _ _).alloc _) rfl
  case f =>
    have := fldRow_one (w.alloc (.cells (rC 200 ⟨#[]⟩ (.slice (some ⟨p + 1, 0, none⟩) 1 1) ⟨t.toArray⟩) 46)) ctL tpL
    rw [World.size_alloc, hp] at this
    exact this
  case b => exact (below1 w _).alloc (by simp) _
set_option maxHeartbeats 8000000 in
theorem vtext_any (v : Nat) (k s c : Int) (n me ta : ByteArray) (t m : List UInt8) (ma mi : Int) (fs sv : Value) (w : World) (h : BlkIs w v (vC k s c n ⟨t.toArray⟩ ⟨m.toArray⟩ me ta ma mi fs sv) 100) : Calls Tryz.prog 46 #[.pointer (some ⟨v, 0, none⟩)] w (RespIs s [] [(ctL, m)] t w) := by
  obtain ⟨p, hp⟩ : ∃ p, w.heap.size = p := ⟨_, rfl⟩
  obtain ⟨W2, hW2⟩ : ∃ W2, w.alloc (.cells zR 46) = W2 := ⟨_, rfl⟩
  have hS : BlkIs W2.drew v (vC k s c n ⟨t.toArray⟩ ⟨m.toArray⟩ me ta ma mi fs sv) 100 := by rw [← hW2]; exact h.later (below1 w _).drew
  have hP : BlkIs W2.drew p zR 46 := by rw [← hW2, ← hp]; exact blkIs_new _ _ _
  have hb : Below w.heap.size w W2.drew := by rw [← hW2]; exact (below1 w _).drew
  have HW2 := Lib.hid hW2; have HI := Lib.hid (And.intro hP hb); have HPP := Lib.hid hp
  clear hW2 hP hb h
  go_enter Tryz.func46, Tryz.ntmps46
  go_upto_region 1 with fail
  rw [HW2.out]
  refine wp_region_eachH (fun W => BlkIs W v (vC k s c n ⟨t.toArray⟩ ⟨m.toArray⟩ me ta ma mi fs sv) 100) 19 (by kernel_rfl) (by kernel_rfl) ?_
  obtain ⟨WD, hWD⟩ : ∃ W, W2.drew = W := ⟨_, rfl⟩
  rw [hWD] at HI hS ⊢
  clear hWD
  refine eachH_take (i := 0) rfl (by kernel_rfl) (by kernel_rfl) (by kernel_rfl) hS (v := ?_) ?_ ?_; rotate_left; · (intro W hS; have t2 : W.cell? ⟨v, 2, none⟩ = some (.string ⟨t.toArray⟩) := hS.cell 2 _ rfl; have t3 : W.cell? ⟨v, 3, none⟩ = some (.string ⟨m.toArray⟩) := hS.cell 3 _ rfl; have t4 : W.cell? ⟨v, 4, none⟩ = some (.int .i64 s) := hS.cell 4 _ rfl; clear hS; go_simp; with_reducible rfl)
  refine eachH_take (i := 1) rfl (by kernel_rfl) (by kernel_rfl) (by kernel_rfl) hS (v := ?_) ?_ ?_; rotate_left; · (intro W hS; have t2 : W.cell? ⟨v, 2, none⟩ = some (.string ⟨t.toArray⟩) := hS.cell 2 _ rfl; have t3 : W.cell? ⟨v, 3, none⟩ = some (.string ⟨m.toArray⟩) := hS.cell 3 _ rfl; have t4 : W.cell? ⟨v, 4, none⟩ = some (.int .i64 s) := hS.cell 4 _ rfl; clear hS; go_simp; with_reducible rfl)
  refine eachH_take (i := 2) rfl (by kernel_rfl) (by kernel_rfl) (by kernel_rfl) hS (v := ?_) ?_ ?_; rotate_left; · (intro W hS; have t2 : W.cell? ⟨v, 2, none⟩ = some (.string ⟨t.toArray⟩) := hS.cell 2 _ rfl; have t3 : W.cell? ⟨v, 3, none⟩ = some (.string ⟨m.toArray⟩) := hS.cell 3 _ rfl; have t4 : W.cell? ⟨v, 4, none⟩ = some (.int .i64 s) := hS.cell 4 _ rfl; clear hS; go_simp; with_reducible rfl)
  refine eachH_take (i := 3) rfl (by kernel_rfl) (by kernel_rfl) (by kernel_rfl) hS (v := ?_) ?_ ?_; rotate_left; · (intro W hS; have t2 : W.cell? ⟨v, 2, none⟩ = some (.string ⟨t.toArray⟩) := hS.cell 2 _ rfl; have t3 : W.cell? ⟨v, 3, none⟩ = some (.string ⟨m.toArray⟩) := hS.cell 3 _ rfl; have t4 : W.cell? ⟨v, 4, none⟩ = some (.int .i64 s) := hS.cell 4 _ rfl; clear hS; go_simp; with_reducible rfl)
  refine eachH_take (i := 4) rfl (by kernel_rfl) (by kernel_rfl) (by kernel_rfl) hS (v := ?_) ?_ ?_; rotate_left; · (intro W hS; have t2 : W.cell? ⟨v, 2, none⟩ = some (.string ⟨t.toArray⟩) := hS.cell 2 _ rfl; have t3 : W.cell? ⟨v, 3, none⟩ = some (.string ⟨m.toArray⟩) := hS.cell 3 _ rfl; have t4 : W.cell? ⟨v, 4, none⟩ = some (.int .i64 s) := hS.cell 4 _ rfl; clear hS; go_simp; with_reducible rfl)
  refine eachH_take (i := 5) rfl (by kernel_rfl) (by kernel_rfl) (by kernel_rfl) hS (v := ?_) ?_ ?_; rotate_left; · (intro W hS; have t2 : W.cell? ⟨v, 2, none⟩ = some (.string ⟨t.toArray⟩) := hS.cell 2 _ rfl; have t3 : W.cell? ⟨v, 3, none⟩ = some (.string ⟨m.toArray⟩) := hS.cell 3 _ rfl; have t4 : W.cell? ⟨v, 4, none⟩ = some (.int .i64 s) := hS.cell 4 _ rfl; clear hS; go_simp; with_reducible rfl)
  refine eachH_take (i := 6) rfl (by kernel_rfl) (by kernel_rfl) (by kernel_rfl) hS (v := ?_) ?_ ?_; rotate_left; · (intro W hS; have t2 : W.cell? ⟨v, 2, none⟩ = some (.string ⟨t.toArray⟩) := hS.cell 2 _ rfl; have t3 : W.cell? ⟨v, 3, none⟩ = some (.string ⟨m.toArray⟩) := hS.cell 3 _ rfl; have t4 : W.cell? ⟨v, 4, none⟩ = some (.int .i64 s) := hS.cell 4 _ rfl; clear hS; go_simp; with_reducible rfl)
  refine eachH_take (i := 7) rfl (by kernel_rfl) (by kernel_rfl) (by kernel_rfl) hS (v := ?_) ?_ ?_; rotate_left; · (intro W hS; have t2 : W.cell? ⟨v, 2, none⟩ = some (.string ⟨t.toArray⟩) := hS.cell 2 _ rfl; have t3 : W.cell? ⟨v, 3, none⟩ = some (.string ⟨m.toArray⟩) := hS.cell 3 _ rfl; have t4 : W.cell? ⟨v, 4, none⟩ = some (.int .i64 s) := hS.cell 4 _ rfl; clear hS; go_simp; with_reducible rfl)
  refine eachH_take (i := 8) rfl (by kernel_rfl) (by kernel_rfl) (by kernel_rfl) hS (v := ?_) ?_ ?_; rotate_left; · (intro W hS; have t2 : W.cell? ⟨v, 2, none⟩ = some (.string ⟨t.toArray⟩) := hS.cell 2 _ rfl; have t3 : W.cell? ⟨v, 3, none⟩ = some (.string ⟨m.toArray⟩) := hS.cell 3 _ rfl; have t4 : W.cell? ⟨v, 4, none⟩ = some (.int .i64 s) := hS.cell 4 _ rfl; clear hS; go_simp; with_reducible rfl)
  refine eachH_take (i := 9) rfl (by kernel_rfl) (by kernel_rfl) (by kernel_rfl) hS (v := ?_) ?_ ?_; rotate_left; · (intro W hS; have t2 : W.cell? ⟨v, 2, none⟩ = some (.string ⟨t.toArray⟩) := hS.cell 2 _ rfl; have t3 : W.cell? ⟨v, 3, none⟩ = some (.string ⟨m.toArray⟩) := hS.cell 3 _ rfl; have t4 : W.cell? ⟨v, 4, none⟩ = some (.int .i64 s) := hS.cell 4 _ rfl; clear hS; go_simp; with_reducible rfl)
  refine eachH_take (i := 10) rfl (by kernel_rfl) (by kernel_rfl) (by kernel_rfl) hS (v := ?_) ?_ ?_; rotate_left; · (intro W hS; have t2 : W.cell? ⟨v, 2, none⟩ = some (.string ⟨t.toArray⟩) := hS.cell 2 _ rfl; have t3 : W.cell? ⟨v, 3, none⟩ = some (.string ⟨m.toArray⟩) := hS.cell 3 _ rfl; have t4 : W.cell? ⟨v, 4, none⟩ = some (.int .i64 s) := hS.cell 4 _ rfl; clear hS; go_simp; with_reducible rfl)
  refine eachH_take (i := 12) rfl (by kernel_rfl) (by kernel_rfl) (by kernel_rfl) hS (v := ?_) ?_ ?_; rotate_left; · (intro W hS; have t2 : W.cell? ⟨v, 2, none⟩ = some (.string ⟨t.toArray⟩) := hS.cell 2 _ rfl; have t3 : W.cell? ⟨v, 3, none⟩ = some (.string ⟨m.toArray⟩) := hS.cell 3 _ rfl; have t4 : W.cell? ⟨v, 4, none⟩ = some (.int .i64 s) := hS.cell 4 _ rfl; clear hS; go_simp; with_reducible rfl)
  refine eachH_take (i := 13) rfl (by kernel_rfl) (by kernel_rfl) (by kernel_rfl) hS (v := ?_) ?_ ?_; rotate_left; · (intro W hS; have t2 : W.cell? ⟨v, 2, none⟩ = some (.string ⟨t.toArray⟩) := hS.cell 2 _ rfl; have t3 : W.cell? ⟨v, 3, none⟩ = some (.string ⟨m.toArray⟩) := hS.cell 3 _ rfl; have t4 : W.cell? ⟨v, 4, none⟩ = some (.int .i64 s) := hS.cell 4 _ rfl; clear hS; go_simp; with_reducible rfl)
  refine eachH_take (i := 14) rfl (by kernel_rfl) (by kernel_rfl) (by kernel_rfl) hS (v := ?_) ?_ ?_; rotate_left; · (intro W hS; have t2 : W.cell? ⟨v, 2, none⟩ = some (.string ⟨t.toArray⟩) := hS.cell 2 _ rfl; have t3 : W.cell? ⟨v, 3, none⟩ = some (.string ⟨m.toArray⟩) := hS.cell 3 _ rfl; have t4 : W.cell? ⟨v, 4, none⟩ = some (.int .i64 s) := hS.cell 4 _ rfl; clear hS; go_simp; with_reducible rfl)
  refine eachH_take (i := 15) rfl (by kernel_rfl) (by kernel_rfl) (by kernel_rfl) hS (v := ?_) ?_ ?_; rotate_left; · (intro W hS; have t2 : W.cell? ⟨v, 2, none⟩ = some (.string ⟨t.toArray⟩) := hS.cell 2 _ rfl; have t3 : W.cell? ⟨v, 3, none⟩ = some (.string ⟨m.toArray⟩) := hS.cell 3 _ rfl; have t4 : W.cell? ⟨v, 4, none⟩ = some (.int .i64 s) := hS.cell 4 _ rfl; clear hS; go_simp; with_reducible rfl)
  refine eachH_take (i := 16) rfl (by kernel_rfl) (by kernel_rfl) (by kernel_rfl) hS (v := ?_) ?_ ?_; rotate_left; · (intro W hS; have t2 : W.cell? ⟨v, 2, none⟩ = some (.string ⟨t.toArray⟩) := hS.cell 2 _ rfl; have t3 : W.cell? ⟨v, 3, none⟩ = some (.string ⟨m.toArray⟩) := hS.cell 3 _ rfl; have t4 : W.cell? ⟨v, 4, none⟩ = some (.int .i64 s) := hS.cell 4 _ rfl; clear hS; go_simp; with_reducible rfl)
  refine eachH1 (i := 11) (by kernel_rfl) rfl ?_
  intro K hK
  go_simp
  obtain ⟨g, hg⟩ : ∃ g, WD.heap.size = g := ⟨_, rfl⟩
  obtain ⟨W3, hW3⟩ : ∃ W3, WD.alloc (.cells #[.string ⟨ctL.toArray⟩, .string ⟨m.toArray⟩] 43) = W3 := ⟨_, rfl⟩
  have hS3 : BlkIs W3 v (vC k s c n ⟨t.toArray⟩ ⟨m.toArray⟩ me ta ma mi fs sv) 100 := by rw [← hW3]; exact hS.alloc _
  have hP3 : BlkIs W3 p zR 46 := by rw [← hW3]; exact HI.out.1.alloc _
  have hb3 : Below w.heap.size w W3 := by rw [← hW3]; exact HI.out.2.alloc HI.out.2.size _
  have hF3 : FldRow W3 (.slice (some ⟨g, 0, none⟩) 1 1) [(ctL, m)] := by rw [← hW3, ← hg]; exact fldRow_one _ _ _
  have hvp : v ≠ p := fun e => by
    rw [e] at hS3
    have h1 : W3.heap[p]? = _ := hS3
    have h2 : W3.heap[p]? = _ := hP3
    rw [h1] at h2
    injection h2 with h2
    injection h2 with _ h2
    exact absurd h2 (by decide)
  have HW3 := Lib.hid (show WD.alloc (.cells #[.string ⟨#[67, 111, 110, 116, 101, 110, 116, 45, 84, 121, 112, 101]⟩, .string ⟨m.toArray⟩] 43) = W3 from hW3)
  clear hW3 hS
  rw [hg, HW3.out]
  refine hK _ _ hS3 ?_
  clear hK K hg HW3
  refine eachH_take (i := 17) rfl (by kernel_rfl) (by kernel_rfl) (by kernel_rfl) hS3 (v := ?_) ?_ ?_; rotate_left; · (intro W hS; clear hS; go_simp; with_reducible rfl)
  refine eachH1 (i := 18) (by kernel_rfl) rfl ?_
  intro K hK
  have y0 := hP3.free 0
  have y1 := hP3.free 1
  have y2 := hP3.free 2
  have y3 := hP3.free 3
  have z0 := hP3.cell 0 _ rfl
  have z1 := hP3.cell 1 _ rfl
  have z2 := hP3.cell 2 _ rfl
  have z3 := hP3.cell 3 _ rfl
  have HF := Lib.hid (And.intro (fourSet hP3 rfl (.int .i64 s) (.string ⟨#[]⟩) (.slice (some ⟨g, 0, none⟩) 1 1) (.string ⟨t.toArray⟩)) (And.intro (fourBelow hb3 (Nat.le_of_eq HPP.out) (.int .i64 s) (.string ⟨#[]⟩) (.slice (some ⟨g, 0, none⟩) 1 1) (.string ⟨t.toArray⟩)) (And.intro (fourFld hF3 hP3 (.int .i64 s) (.string ⟨#[]⟩) (.slice (some ⟨g, 0, none⟩) 1 1) (.string ⟨t.toArray⟩)) ((((hS3.setOther ⟨p, 0, none⟩ (.int .i64 s) hvp).setOther ⟨p, 1, none⟩ (.string ⟨#[]⟩) hvp).setOther ⟨p, 2, none⟩ (.slice (some ⟨g, 0, none⟩) 1 1) hvp).setOther ⟨p, 3, none⟩ (.string ⟨t.toArray⟩) hvp))))
  clear hP3 hb3 hF3 hS3
  go_simp
  refine hK _ _ HF.out.2.2.2 ?_
  clear hK K y0 y1 y2 y3 z0 z1 z2 z3
  refine eachH_done (by kernel_rfl) ?_
  go_simp
  go_wp2
  refine bodyPost_ret (v := .agg (rC s ⟨#[]⟩ (.slice (some ⟨g, 0, none⟩) 1 1) ⟨t.toArray⟩)) ?r rfl ⟨_, rfl, HF.out.2.2.1, HF.out.2.1⟩
  case r => exact results_respC rfl _ _ p _ (0, 0) rfl HF.out.1 rfl
end Go.Proofs.YtdlpbpikhmciaaaGreatDoor
namespace Go.Proofs.YtdlpbpikhmciaaaGreatDoor
open Go.RowKit
set_option linter.unusedSimpArgs false
set_option linter.unusedVariables false
set_option maxRecDepth 1000000
def PowAt (w : World) : Prop := Lib.TabIs Tryz.prog w "internal/strconv.uint64pow10" .u64 Lib.pow10Tab
theorem gPow : Tryz.prog.globalNamed "internal/strconv.uint64pow10" = some 1 := by kernel_rfl
theorem PowAt.below {w w' : World} (h : PowAt w) (hb : Below w.heap.size w w') : PowAt w' := by
  unfold PowAt Lib.TabIs at h ⊢
  unfold World.var? at h ⊢
  simp only [gPow, Option.bind_some] at h ⊢
  have lt : 1 < w.heap.size := by
    rcases Nat.lt_or_ge 1 w.heap.size with h1 | h1
    · exact h1
    · rw [Array.getElem?_eq_none h1] at h; cases h
  rw [hb.block 1 lt]
  exact h
theorem oitoa_any (n : Int) (w : World) (h0 : -9223372036854775808 ≤ n) (h1 : n ≤ 9223372036854775807) (h : PowAt w) :
    Calls Tryz.prog 40 #[.int .i64 n] w fun e w' => e = .returned (.string ⟨(Lib.itoa n).toArray⟩) ∧ Below w.heap.size w w' :=
  (Tryz.strconv_Itoa n h0 h1 w h).mono fun e w' ⟨he, k, os, hw⟩ => ⟨he, by rw [hw]; exact Lib.below_grow w.heap.size w (Nat.le_refl _) k os⟩
theorem q_small (n m q : Nat) (hn : n ≤ 9223372036854775807) (hm : m ≤ n) (hq : m / 10 = q) : q ≤ 922337203685477580 := by omega
theorem dec_len20 : ∀ (k n : Nat), n < 10 ^ (k + 1) → (Lib.decDigits n).length ≤ k + 1
  | 0, n, h => by rw [Lib.decDigits, dif_pos (by omega)]; simp
  | k + 1, n, h => by
    rw [Lib.decDigits]
    split
    · simp
    · rw [List.length_append]
      have := dec_len20 k (n / 10) (by rw [Nat.pow_succ] at h; omega)
      simp only [List.length_singleton]
      omega
theorem dec_step (m : Nat) (o : List UInt8) (h0 : m ≠ 0) : Lib.decDigits m ++ o = (if m / 10 = 0 then [] else Lib.decDigits (m / 10)) ++ (UInt8.ofNat (48 + m % 10) :: o) := by
  rw [Lib.decDigits]
  by_cases h : m < 10
  · rw [dif_pos h, if_pos (by omega), Nat.mod_eq_of_lt h]; rfl
  · rw [dif_neg h, if_neg (by omega)]; simp
def DecR (n m : Nat) (o : List UInt8) : Prop := (if m = 0 then [] else Lib.decDigits m) ++ o = Lib.decDigits n
theorem DecR.len {n m : Nat} {o : List UInt8} (h : DecR n m o) (hn : n ≤ 9223372036854775808) : o.length ≤ 20 := by
  have h1 := congrArg List.length h
  rw [List.length_append] at h1
  have := dec_len20 19 n (Nat.lt_of_le_of_lt hn (by decide))
  omega
theorem DecR.step {n m : Nat} {o : List UInt8} (h : DecR n m o) (h0 : m ≠ 0) : DecR n (m / 10) (UInt8.ofNat (48 + m % 10) :: o) := by
  unfold DecR at h ⊢
  rw [if_neg h0, dec_step m o h0] at h
  exact h
theorem digit_cell (d : Nat) (h : d < 10) : IntKind.u8.wrap ((48 + d : Nat) : Int) = ((UInt8.ofNat (48 + d)).toNat : Int) := by
  rw [IntWalk.u8_in _ (by omega)]
  simp; omega
theorem cat_one (c : UInt8) (o : List UInt8) : (⟨#[c]⟩ : ByteArray) ++ (⟨o.toArray⟩ : ByteArray) = ⟨(c :: o).toArray⟩ := by
  refine ba_ext ?_
  simp
theorem w64_small (q : Nat) (h : q ≤ 922337203685477580) : wrap64 (q : Int) = (q : Int) := IntWalk.wrap64_in _ (by omega)
set_option maxHeartbeats 2000000 in
theorem rdigitsN_any (n : Nat) (w : World) (hn : n ≤ 9223372036854775807) :
    Calls Tryz.prog 23 #[.int .i64 (n : Int)] w fun e w' => e = .returned (.string ⟨(Lib.decDigits n).toArray⟩) ∧ Below w.heap.size w w' := by
  by_cases h0 : n = 0
  · subst h0
    have hd : Lib.decDigits 0 = [48] := by rw [Lib.decDigits, dif_pos (by omega)]; rfl
    have HD := Lib.hid hd; clear hd
    go_enter Tryz.func23, Tryz.ntmps23
    go_wp2
    go_ret
    rw [HD.out]
    exact ⟨rfl, Below.refl _ _⟩
  · have b0 : ((n : Int) == 0) = false := by simp; omega
    have k0 : (0 : Int) ≤ (n : Int) := Int.natCast_nonneg _
    have hst : DecR n n [] := by unfold DecR; rw [if_neg h0, List.append_nil]
    have HST := Lib.hid (And.intro hst hn)
    clear hst h0 hn
    go_enter Tryz.func23, Tryz.ntmps23
    go_wp2
    go_loopw [0, 4] (fun mv ov wr => ∃ (m : Nat) (o : List UInt8), mv = .int .i64 m ∧ ov = .string ⟨o.toArray⟩ ∧ m ≤ n ∧ DecR n m o ∧ Below w.heap.size w wr) (fun mv _ _ => (intOf mv).toNat)
    case atStart => exact ⟨n, [], rfl, rfl, Nat.le_refl _, HST.out.1, Below.refl _ _⟩
    case round =>
      obtain ⟨m, o, rfl, rfl, hmn, hR, hb⟩ := hrel
      by_cases hm : m = 0
      · subst hm
        have hf : o = Lib.decDigits n := hR
        have HF := Lib.hid hf; clear hf
        clear hR
        go_wp2
        go_ret
        rw [← HF.out]
        exact ⟨rfl, hb⟩
      · have b1 : ((m : Int) != 0) = true := by simp; omega
        have m0 : (0 : Int) ≤ (m : Int) := Int.natCast_nonneg _
        have hlen := hR.len (Nat.le_trans HST.out.2 (by decide))
        have hR2 := hR.step hm
        obtain ⟨d, hd⟩ : ∃ d, m % 10 = d := ⟨_, rfl⟩
        obtain ⟨q, hq⟩ : ∃ q, m / 10 = q := ⟨_, rfl⟩
        have e1 : (m : Int) % 10 = (d : Int) := by omega
        have e2 : (m : Int) / 10 = (q : Int) := by omega
        have d0 : (0 : Int) ≤ (d : Int) := Int.natCast_nonneg _
        have d1 : (d : Int) < 10 := by omega
        have hdl : d < 10 := by omega
        have hqm : q < m := by omega
        rw [hd, hq] at hR2
        obtain ⟨c, hc⟩ : ∃ c, UInt8.ofNat (48 + d) = c := ⟨_, rfl⟩
        have e4 := digit_cell d hdl
        rw [hc] at e4
        rw [hc] at hR2
        have e3 : IntKind.u8.wrap (48 + (d : Int)) = (c.toNat : Int) := by rw [← e4]; congr 1
        have hcells := cells_new wr 5 (Lib.byteCells [c])
        have hcv := run_str_cells (P := Tryz.prog) (wr.alloc (.cells #[.int .u8 (c.toNat : Int)] 5)) 81 5 Tryz.underlying81 Tryz.underlying5 wr.heap.size 0 1 1 [c] rfl (fun j hj => by
          obtain rfl : j = 0 := by simp at hj; omega
          rw [Lib.cell_of_heap (heap_alloc_new wr _)]; rfl) 9 Tryz.underlying9
        have hz : ¬ 9223372036854775807 < 1 + o.length ∧ ¬ 9223372036854775807 < o.length + 1 := by omega
        have hb2 : Below w.heap.size w (wr.alloc (.cells #[.int .u8 (c.toNat : Int)] 5)) := hb.alloc hb.size _
        have hwq := w64_small q (q_small n m q HST.out.2 hmn hq)
        have hqn : q ≤ n := by omega
        have HX := Lib.hid (And.intro hR2 (And.intro hb2 (And.intro hwq (And.intro hqn hqm))))
        clear hwq hqn hqm hmn
        clear hR hR2 hb2 hd hq hc e4 hcells hm hb
        go_wp2
        refine ⟨⟨q, c :: o, by rw [HX.out.2.2.1], by rw [cat_one], HX.out.2.2.2.1, HX.out.1, HX.out.2.1⟩, ?_⟩
        rw [HX.out.2.2.1]
        have := HX.out.2.2.2.2
        simp [intOf]
        omega
theorem tmod_neg (m d : Nat) (h : m % 10 = d) : (-(m : Int)).tmod 10 = -(d : Int) := by rw [Int.neg_tmod]; congr 1; rw [Int.tmod_eq_emod_of_nonneg (by omega)]; omega
theorem tdiv_neg (m q : Nat) (h : m / 10 = q) : (-(m : Int)).tdiv 10 = -(q : Int) := by rw [Int.neg_tdiv]; congr 1; rw [Int.tdiv_eq_ediv_of_nonneg (by omega)]; omega
theorem w64_neg (q : Nat) (h : q ≤ 922337203685477581) : wrap64 (-(q : Int)) = -(q : Int) := IntWalk.wrap64_in _ (by omega)
theorem q_smallN (n m q : Nat) (hn : n ≤ 9223372036854775808) (hm : m ≤ n) (hq : m / 10 = q) : q ≤ 922337203685477581 := by omega
set_option maxHeartbeats 4000000 in
theorem rdigitsM_any (n : Nat) (w : World) (h0 : 1 ≤ n) (hn : n ≤ 9223372036854775808) :
    Calls Tryz.prog 23 #[.int .i64 (-(n : Int))] w fun e w' => e = .returned (.string ⟨(45 :: Lib.decDigits n).toArray⟩) ∧ Below w.heap.size w w' := by
  obtain ⟨N, hN⟩ : ∃ N : Int, -(n : Int) = N := ⟨_, rfl⟩
  have b0 : (N == 0) = false := by simp; omega
  have b1 : N < 0 := by omega
  have hst : DecR n n [] := by unfold DecR; rw [if_neg (by omega), List.append_nil]
  have HST := Lib.hid (And.intro hst (And.intro hn hN))
  rw [hN]
  clear hst h0 hn hN
  go_enter Tryz.func23, Tryz.ntmps23
  go_wp2
  go_loopw [0, 4] (fun mv ov wr => ∃ (m : Nat) (o : List UInt8), mv = .int .i64 (-(m : Int)) ∧ ov = .string ⟨o.toArray⟩ ∧ m ≤ n ∧ DecR n m o ∧ Below w.heap.size w wr) (fun mv _ _ => (intOf mv).natAbs)
  case atStart => exact ⟨n, [], by rw [HST.out.2.2], rfl, Nat.le_refl _, HST.out.1, Below.refl _ _⟩
  case round =>
    obtain ⟨m, o, rfl, rfl, hmn, hR, hb⟩ := hrel
    by_cases hm : m = 0
    · subst hm
      have hf : o = Lib.decDigits n := hR
      have hlen := hR.len HST.out.2.1
      have hz : ¬ 9223372036854775807 < 1 + o.length := by omega
      have HF := Lib.hid hf; clear hf
      clear hR hlen
      have z0 : (-((0 : Nat) : Int)) = 0 := rfl
      rw [z0]
      clear z0
      go_wp2
      go_ret
      rw [← HF.out]
      exact ⟨by first | rfl | rw [cat_one], hb⟩
    · have m0 : (0 : Int) ≤ (m : Int) := Int.natCast_nonneg _
      have hlen := hR.len HST.out.2.1
      have hR2 := hR.step hm
      obtain ⟨d, hd⟩ : ∃ d, m % 10 = d := ⟨_, rfl⟩
      obtain ⟨q, hq⟩ : ∃ q, m / 10 = q := ⟨_, rfl⟩
      have e1 := tmod_neg m d hd
      have e2 := tdiv_neg m q hq
      have hwq := w64_neg q (q_smallN n m q HST.out.2.1 hmn hq)
      obtain ⟨Z, hZ⟩ : ∃ Z : Int, -(m : Int) = Z := ⟨_, rfl⟩
      obtain ⟨Y, hY⟩ : ∃ Y : Int, -(d : Int) = Y := ⟨_, rfl⟩
      obtain ⟨Q, hQ⟩ : ∃ Q : Int, -(q : Int) = Q := ⟨_, rfl⟩
      have b2 : (Z != 0) = true := by simp; omega
      have hnegY : -Y = (d : Int) := by omega
      have d0 : (0 : Int) ≤ (d : Int) := Int.natCast_nonneg _
      have d1 : (d : Int) < 10 := by omega
      have hdl : d < 10 := by omega
      have hqm : q < m := by omega
      have hqn : q ≤ n := by omega
      rw [hZ, hY] at e1
      rw [hZ, hQ] at e2
      rw [hQ] at hwq
      rw [hd, hq] at hR2
      obtain ⟨c, hc⟩ : ∃ c, UInt8.ofNat (48 + d) = c := ⟨_, rfl⟩
      have e4 := digit_cell d hdl
      rw [hc] at e4
      rw [hc] at hR2
      have e3 : IntKind.u8.wrap (48 + (d : Int)) = (c.toNat : Int) := by rw [← e4]; congr 1
      have hcells := cells_new wr 5 (Lib.byteCells [c])
      have hcv := run_str_cells (P := Tryz.prog) (wr.alloc (.cells #[.int .u8 (c.toNat : Int)] 5)) 81 5 Tryz.underlying81 Tryz.underlying5 wr.heap.size 0 1 1 [c] rfl (fun j hj => by
        obtain rfl : j = 0 := by simp at hj; omega
        rw [Lib.cell_of_heap (heap_alloc_new wr _)]; rfl) 9 Tryz.underlying9
      have hz : ¬ 9223372036854775807 < 1 + o.length ∧ ¬ 9223372036854775807 < o.length + 1 := by omega
      have hb2 : Below w.heap.size w (wr.alloc (.cells #[.int .u8 (c.toNat : Int)] 5)) := hb.alloc hb.size _
      have hms : (intOf (.int .i64 Z)).natAbs = m := by rw [← hZ]; simp [intOf]
      have hmq : (intOf (.int .i64 Q)).natAbs = q := by rw [← hQ]; simp [intOf]
      have HX := Lib.hid (And.intro hR2 (And.intro hb2 (And.intro hwq (And.intro hqn (And.intro hqm (And.intro hQ (And.intro hms hmq)))))))
      rw [hZ]
      by_cases hdz : d = 0
      · have y0 : Y = 0 := by omega
        subst y0
        obtain rfl : c = 48 := by rw [← hc, hdz]; rfl
        have hx48 : ((48 : UInt8).toNat : Int) = 48 := rfl
        rw [hx48] at hcv
        clear hwq hqn hqm hmn hZ hY hQ hms hmq
        clear hR hR2 hb2 hd hq hc e4 e3 hcells hm hb hnegY m0 hdz hdl d0 d1 hx48
        go_wp2
        refine ⟨⟨q, 48 :: o, by rw [HX.out.2.2.1, ← HX.out.2.2.2.2.2.1], by rw [cat_one], HX.out.2.2.2.1, HX.out.1, HX.out.2.1⟩, ?_⟩
        rw [HX.out.2.2.1, HX.out.2.2.2.2.2.2.1, HX.out.2.2.2.2.2.2.2]
        exact HX.out.2.2.2.2.1
      · have y1 : Y < 0 := by omega
        clear hwq hqn hqm hmn hZ hY hQ hms hmq hdz
        clear hR hR2 hb2 hd hq hc e4 hcells hm hb m0
        go_wp2
        refine ⟨⟨q, c :: o, by rw [HX.out.2.2.1, ← HX.out.2.2.2.2.2.1], by rw [cat_one], HX.out.2.2.2.1, HX.out.1, HX.out.2.1⟩, ?_⟩
        rw [HX.out.2.2.1, HX.out.2.2.2.2.2.2.1, HX.out.2.2.2.2.2.2.2]
        exact HX.out.2.2.2.2.1
end Go.Proofs.YtdlpbpikhmciaaaGreatDoor
