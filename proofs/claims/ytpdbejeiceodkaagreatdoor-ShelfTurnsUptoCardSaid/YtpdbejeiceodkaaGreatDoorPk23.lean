/- WrS, Joi: texts of the seat, one behind the other (a claim holds at most sixty). Conditions: each theorem names its own. -/
import Derived.Test.YtpdbejeiceodkaaGreatDoorPk04
import Derived.Test.YtpdbejeiceodkaaGreatDoorPk00
import Derived.Lib.AppendStr
import Derived.Test.YtpdbejeiceodkaaGreatDoorPa02
namespace Go.Proofs.YtpdbejeiceodkaaGreatDoor
open Go.RowKit
set_option linter.unusedSimpArgs false
set_option linter.unusedVariables false
set_option maxRecDepth 1000000
theorem bld_later {B b : Nat} {T e : TypeId} {bs : List Value} {w w' : World} (h : Lib.IsBuilder T e B b bs w) (hb : Below w.heap.size w w') : Lib.IsBuilder T e B b bs w' := by
  have key : ∀ p, Lib.BuilderAt T e B b p bs w → Lib.BuilderAt T e B b p bs w' := fun p ⟨h1, v, h2, h3, h4⟩ =>
    ⟨h1, v, by rw [hb.block b (Array.getElem?_eq_some_iff.1 h2).1]; exact h2, own_later h3 hb, h4⟩
  rcases h with h | h
  · exact Or.inl (key _ h)
  · exact Or.inr (key _ h)
theorem strCells_s (s : ByteArray) : Lib.strCells s = Lib.byteCells s.data.toList := by
  unfold Lib.strCells Lib.byteCells
  rfl
/-- The blocks that are no builder and no row of bytes stay. -/
def Keeps (w w' : World) : Prop := ∀ (g : Nat) (cs : Array Value) (T : TypeId) (r : Nat × Nat), w.heap[g]? = some (.cells cs T r) → T ≠ 5 → T ≠ 156 → w'.heap[g]? = some (.cells cs T r)
theorem Keeps.refl (w : World) : Keeps w w := fun _ _ _ _ h _ _ => h
theorem Keeps.trans {a b c : World} (h : Keeps a b) (k : Keeps b c) : Keeps a c := fun g cs T r hg h1 h2 => k g cs T r (h g cs T r hg h1 h2) h1 h2
theorem Keeps.of_below {w w' : World} (h : Below w.heap.size w w') : Keeps w w' := fun g cs T r hg _ _ => by rw [h.block g (Array.getElem?_eq_some_iff.1 hg).1]; exact hg
theorem Keeps.setCell {w : World} {b i : Nat} {cs : Array Value} {r : Nat × Nat} (hb : w.heap[b]? = some (.cells cs 156 r)) (v : Value) : Keeps w (w.setCell ⟨b, i, none⟩ v) := fun g cs2 T r2 hg _ h2 => by
  rw [Below.heap_setCell w ⟨b, i, none⟩ v g (by
    intro e
    have e' : g = b := e
    rw [e', hb] at hg
    injection hg with hg
    injection hg with _ hT
    exact h2 hT.symm)]
  exact hg
theorem Keeps.grown {w w' : World} {B : Nat} {v : Value} {n : Nat} {xs : List Value} (hown : w.ownsRow B 5 1 v n xs) (hg : w.grownBy w' v.ownBlock) : Keeps w w' := fun g cs T r hh h1 _ => by
  rw [hg.block g (Array.getElem?_eq_some_iff.1 hh).1 (by
    intro e
    rcases hown.2 with ⟨rfl, _⟩ | ⟨k, cap, cur, rfl, _, hk, _⟩
    · cases e
    · have e' : g = k := by injection e
      rw [e', hk] at hh
      injection hh with hh
      injection hh with _ hT
      exact h1 hT.symm)]
  exact hh
theorem copyCheck_keep (B b : Nat) (bs : List Value) (w : World) (h : Lib.IsBuilder 156 5 B b bs w) :
    Calls Tryz.prog 137 #[.pointer (some ⟨b, 0, none⟩)] w fun e w' => e = .returned (.tuple #[]) ∧ Lib.BuilderAt 156 5 B b (.pointer (some ⟨b, 0, none⟩)) bs w' ∧ Below B w w' ∧ Keeps w w' := by
  rcases h with h | h
  · refine (copyCheck_fresh b w h.cell0 h.shape h.frozen0).mono ?_
    rintro e w' ⟨rfl, rfl⟩
    obtain ⟨v, hb, _⟩ := h.2
    exact ⟨rfl, h.used _, (Below.refl B w).setCell (p := ⟨b, 0, none⟩) h.1 _, Keeps.setCell hb _⟩
  · refine (copyCheck_used b w h.cell0).mono ?_
    rintro e w' ⟨rfl, rfl⟩
    exact ⟨rfl, h, Below.refl B _, Keeps.refl _⟩
theorem writeString_any (B b : Nat) (acc : List UInt8) (s : ByteArray) (w : World) (h : Lib.IsBuilder 156 5 B b (Lib.byteCells acc) w) (hlen : acc.length + s.size ≤ 140737488355328) (hBw : B ≤ w.heap.size) :
    Calls Tryz.prog 142 #[.pointer (some ⟨b, 0, none⟩), .string s] w fun e w' => e = .returned (.tuple #[.int .i64 (s.size : Int), .nilIface]) ∧ (Lib.IsBuilder 156 5 B b (Lib.byteCells (acc ++ s.data.toList)) w' ∧ Below B w w' ∧ Keeps w w') := by
  obtain ⟨i0, hi, hz0, hz1, hz2⟩ := info_parts infoByte
  have hbl : (Lib.byteCells acc).length + s.size ≤ 140737488355328 := by rw [Lib.byteCells_length]; exact hlen
  rw [Lib.byteCells_append, ← strCells_s]
  generalize Lib.byteCells acc = bs at h hbl ⊢
  clear hlen
  go_enter Tryz.func142, Tryz.ntmps142
  go_wp2_with (go_at_call 137; refine (copyCheck_keep B b bs _ h).mono ?_)
  rintro e w1 ⟨rfl, h1, hb1, hk1⟩
  obtain ⟨hB, v, hbk, hown, hne⟩ := h1
  have c0 : w1.cell? ⟨b, 0, none⟩ = some (.pointer (some ⟨b, 0, none⟩)) := by rw [Lib.cell_of_heap hbk]; rfl
  have c1 : w1.cell? ⟨b, 1, none⟩ = some v := by rw [Lib.cell_of_heap hbk]; rfl
  have hbs := hb1.size
  go_wp2_with (at_builtin; refine Lib.wpList_append_own_string _ rfl (.tmp 12) (.tmp 13) 76 9 rfl B 5 i0 Tryz.underlying76 Tryz.underlying9 hi hz0 hz1 hz2 _ _ _ rfl hown _ rfl ?c3 ?c4 ?c5 ?_)
  case c3 => unfold maxLen; omega
  case c4 => exact hbl
  case c5 => omega
  intro v' w2 hown' hgrow _
  have hlt : b < w1.heap.size := (Array.getElem?_eq_some_iff.1 hbk).1
  have hb2 : w2.heap[b]? = some (.cells #[.pointer (some ⟨b, 0, none⟩), v] 156 (0, 0)) := by
    rw [hgrow.block b hlt (fun e => hne e.symm)]
    exact hbk
  have d0 : w2.cell? ⟨b, 0, none⟩ = some (.pointer (some ⟨b, 0, none⟩)) := by rw [Lib.cell_of_heap hb2]; rfl
  have d1 : w2.cell? ⟨b, 1, none⟩ = some v := by rw [Lib.cell_of_heap hb2]; rfl
  have f1 : w2.frozen? ⟨b, 1, none⟩ = false := Lib.frozen_of_heap hb2 1
  have hsl : ∃ a n c, v' = .slice a n c := by
    rcases hown'.2 with ⟨rfl, _⟩ | ⟨g, cap, cur, hv, _⟩
    · exact ⟨_, _, _, rfl⟩
    · exact ⟨_, _, _, hv⟩
  obtain ⟨a, n, cp, rfl⟩ := hsl
  have hput := Lib.BuilderAt.put (T := 156) (e := 5) (p := .pointer (some ⟨b, 0, none⟩)) hB hb2 (bs' := bs ++ Lib.strCells s) (by rw [List.length_append, Lib.strCells_length]; exact hown') (by decide)
  have hbw := ((hb1.grown hgrow (by omega) (fun k hk => (hown.lt k hk).1))).setCell (p := ⟨b, 1, none⟩) hB (.slice a n cp)
  have hkp := (hk1.trans (Keeps.grown hown hgrow)).trans (Keeps.setCell hb2 (i := 1) (.slice a n cp))
  have HP := Lib.hid (And.intro hput (And.intro hbw hkp))
  clear hput hbw hkp hk1 hown hown' hgrow hb1 hb2 hbk
  go_wp2
  go_ret2
  exact ⟨rfl, Or.inr HP.out.1, HP.out.2.1, HP.out.2.2⟩
end Go.Proofs.YtpdbejeiceodkaaGreatDoor
namespace Go.Proofs.YtpdbejeiceodkaaGreatDoor
open Go.RowKit
set_option linter.unusedSimpArgs false
set_option linter.unusedVariables false
set_option maxRecDepth 1000000
/-- strings.Join of a row of the call's own. -/
theorem join_own {w : World} {base : Nat} {v : Value} (q : List (List UInt8)) (sep : ByteArray) (h : w.ownsRow base 9 1 v q.length (strV q)) (hN : q.length ≤ 140737488355328) (hlen : (Lib.join q sep.data.toList).length ≤ 140737488355328) :
    Calls Tryz.prog 145 #[v, .string sep] w fun e w' => e = .returned (.string ⟨(Lib.join q sep.data.toList).toArray⟩) ∧ Below w.heap.size w w' := by
  by_cases hq : q = []
  · subst hq
    have e : ∃ a c, v = .slice a 0 c := by
      rcases h.2 with ⟨rfl, _⟩ | ⟨g, cap, cur, rfl, _⟩
      · exact ⟨none, 0, rfl⟩
      · exact ⟨_, _, rfl⟩
    obtain ⟨a, c, rfl⟩ := e
    exact (Tryz.strings_Join_none a c sep w).mono fun e w' ⟨he, hw⟩ => ⟨he, hw ▸ Below.refl _ _⟩
  · have hcap : ∃ g cap, v = .slice (some ⟨g, 0, none⟩) q.length cap ∧ q.length ≤ cap ∧ g < w.heap.size := by
      have hl : 0 < q.length := List.length_pos_iff.2 hq
      rcases h.2 with ⟨_, h0⟩ | ⟨g, cap, cur, rfl, hb, hg, hnc, hcm, hcs, hct⟩
      · omega
      · exact ⟨g, cap, rfl, hnc, (Array.getElem?_eq_some_iff.1 hg).1⟩
    obtain ⟨g, cap, rfl, hc, hg⟩ := hcap
    have hmap : (q.map fun p => (⟨p.toArray⟩ : ByteArray)).map (·.data.toList) = q := by rw [List.map_map]; exact List.map_id' q
    have hl : (q.map fun p => (⟨p.toArray⟩ : ByteArray)).length = q.length := List.length_map _
    have := Tryz.strings_Join g 0 cap (q.map fun p => (⟨p.toArray⟩ : ByteArray)) sep w (fun j x hx => by
      obtain ⟨p, hp, rfl⟩ := List.getElem?_map .. ▸ hx |> Option.map_eq_some_iff.1
      have hcl := h.cells (g := g) rfl
      have := hcl j (.string ⟨p.toArray⟩) (by simp [strV, hp])
      rwa [show (⟨g, 0, none⟩ : Addr).add j = ⟨g, 0 + j, none⟩ from by unfold Addr.add; split <;> simp_all] at this) hg (by rw [hl]; exact hN) (by rw [hl]; exact hc) (by rw [hmap]; exact hlen)
    rw [hmap, hl] at this
    exact this
end Go.Proofs.YtpdbejeiceodkaaGreatDoor
