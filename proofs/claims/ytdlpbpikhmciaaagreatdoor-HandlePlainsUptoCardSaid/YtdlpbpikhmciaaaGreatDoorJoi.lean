/- strings.Join of a row of the call's own. Conditions: what comes out is small. -/
import Derived.Test.YtdlpbpikhmciaaaGreatDoorShelf
import Derived.Test.YtdlpbpikhmciaaaGreatDoorParM
namespace Go.Proofs.YtdlpbpikhmciaaaGreatDoor
open Go.RowKit
set_option linter.unusedSimpArgs false
set_option linter.unusedVariables false
set_option maxRecDepth 1000000
/-- strings.Join of a row of the call's own. -/
theorem join_own {w : World} {base : Nat} {v : Value} (q : List (List UInt8)) (sep : ByteArray) (h : w.ownsRow base 9 1 v q.length (strV q)) (hN : q.length ≤ 140737488355328) (hlen : (Lib.join q sep.data.toList).length ≤ 140737488355328) :
    Calls Tryz.prog 109 #[v, .string sep] w fun e w' => e = .returned (.string ⟨(Lib.join q sep.data.toList).toArray⟩) ∧ Below w.heap.size w w' := by
  by_cases hq : q = []
  · subst hq
    have e : ∃ a c, v = .slice a 0 c := by
      rcases h.2 with ⟨rfl, _⟩ | ⟨g, cap, cur, rfl, _⟩
      · exact ⟨none, 0, rfl⟩
      · exact ⟨_, _, rfl⟩
    obtain ⟨a, c, rfl⟩ := e
    exact (Tryz.strings_Join_none a c sep w).mono fun e w' ⟨he, hw⟩ => ⟨he, hw ▸ Below.refl _ _⟩
  · have hcap : ∃ g cap, v = .slice (some ⟨g, 0, none⟩) q.length cap ∧ q.length ≤ cap ∧ g < w.heap.size := by
      have hl : 0 < q.length := List.length_pos_iff.2 hq
      rcases h.2 with ⟨_, h0⟩ | ⟨g, cap, cur, rfl, hb, hg, hnc, hcm, hcs, hct⟩
      · omega
      · exact ⟨g, cap, rfl, hnc, (Array.getElem?_eq_some_iff.1 hg).1⟩
    obtain ⟨g, cap, rfl, hc, hg⟩ := hcap
    have hmap : (q.map fun p => (⟨p.toArray⟩ : ByteArray)).map (·.data.toList) = q := by rw [List.map_map]; exact List.map_id' q
    have hl : (q.map fun p => (⟨p.toArray⟩ : ByteArray)).length = q.length := List.length_map _
    have := Tryz.strings_Join g 0 cap (q.map fun p => (⟨p.toArray⟩ : ByteArray)) sep w (fun j x hx => by
      obtain ⟨p, hp, rfl⟩ := List.getElem?_map .. ▸ hx |> Option.map_eq_some_iff.1
      have hcl := h.cells (g := g) rfl
      have := hcl j (.string ⟨p.toArray⟩) (by simp [strV, hp])
      rwa [show (⟨g, 0, none⟩ : Addr).add j = ⟨g, 0 + j, none⟩ from by unfold Addr.add; split <;> simp_all] at this) hg (by rw [hl]; exact hN) (by rw [hl]; exact hc) (by rw [hmap]; exact hlen)
    rw [hmap, hl] at this
    exact this
end Go.Proofs.YtdlpbpikhmciaaaGreatDoor
