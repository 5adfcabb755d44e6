/- The walk of turnpikelaw15.pairs on two rows that hold the same pairs: true. Conditions: none beyond what is read. -/
import Derived.Test.YtgkpiakapdgglaaDoorPairs
import Derived.BigQuiet
import Derived.Deep.QuietTactic
namespace Go.Proofs.YtgkpiakapdgglaaDoor
open Go.RowKit
set_option linter.unusedSimpArgs false
set_option linter.unusedVariables false
set_option maxRecDepth 1000000
/-- A row of pairs in memory. -/
def ParsAt (w : World) (v : Value) (l : List Par) : Prop := (v = .slice none 0 0 ∧ l = []) ∨ ∃ g cap, v = .slice (some ⟨g, 0, none⟩) l.length cap ∧ ∀ i p, l[i]? = some p →
  w.cell? ⟨g, i * 3, none⟩ = some (.string ⟨p.1.toArray⟩) ∧ w.cell? ⟨g, i * 3 + 1, none⟩ = some (.string ⟨p.2.1.toArray⟩) ∧ w.cell? ⟨g, i * 3 + 2, none⟩ = some (.bool p.2.2)
theorem parsAt_own {w : World} {base : Nat} {T : TypeId} {v : Value} {l : List Par} (h : w.ownsRow base T 3 v l.length (parsV l)) : ParsAt w v l := by
  rcases h.2 with ⟨rfl, h0⟩ | ⟨g, cap, cur, rfl, _⟩
  · exact Or.inl ⟨rfl, List.eq_nil_of_length_eq_zero h0⟩
  · have hc := h.cells (g := g) rfl
    refine Or.inr ⟨g, cap, rfl, fun i p hp => ?_⟩
    have hg := parsV_get l i p hp
    have e : ∀ j, (⟨g, 0, none⟩ : Addr).add j = ⟨g, j, none⟩ := fun j => by unfold Addr.add; split <;> simp_all
    refine ⟨?_, ?_, ?_⟩
    · have := hc _ _ hg.1; rwa [e] at this
    · have := hc _ _ hg.2.1; rwa [e] at this
    · have := hc _ _ hg.2.2; rwa [e] at this
set_option maxHeartbeats 4000000 in
theorem lawpairs_any (v1 v2 : Value) (l : List Par) (w : World) (hl : l.length ≤ 2199023255552) (h1 : ParsAt w v1 l) (h2 : ParsAt w v2 l) :
    Calls Tryd.prog 11 #[v1, v2] w fun e w' => e = .returned (.bool true) ∧ Below w.heap.size w w' := by
  rcases h1 with ⟨rfl, rfl⟩ | ⟨g1, cap1, rfl, c1⟩
  · rcases h2 with ⟨rfl, _⟩ | ⟨g2, cap2, rfl, _⟩
    · go_enter Tryd.func11, Tryd.ntmps11
      go_wp2
      go_loopw [5] (fun iv wr => iv = .int .i64 0 ∧ wr = w) (fun _ _ => 0)
      case atStart => exact ⟨rfl, rfl⟩
      case round =>
        obtain ⟨rfl, rfl⟩ := hrel
        go_wp2
        go_ret
        exact ⟨rfl, Below.refl _ _⟩
    · go_enter Tryd.func11, Tryd.ntmps11
      go_wp2
      go_loopw [5] (fun iv wr => iv = .int .i64 0 ∧ wr = w) (fun _ _ => 0)
      case atStart => exact ⟨rfl, rfl⟩
      case round =>
        obtain ⟨rfl, rfl⟩ := hrel
        go_wp2
        go_ret
        exact ⟨rfl, Below.refl _ _⟩
  · rcases h2 with ⟨rfl, rfl⟩ | ⟨g2, cap2, rfl, c2⟩
    · go_enter Tryd.func11, Tryd.ntmps11
      go_wp2
      go_loopw [5] (fun iv wr => iv = .int .i64 0 ∧ wr = w) (fun _ _ => 0)
      case atStart => exact ⟨rfl, rfl⟩
      case round =>
        obtain ⟨rfl, rfl⟩ := hrel
        go_wp2
        go_ret
        exact ⟨rfl, Below.refl _ _⟩
    · go_enter Tryd.func11, Tryd.ntmps11
      go_wp2
      go_loopw [5] (fun iv wr => ∃ i k : Nat, iv = .int .i64 i ∧ i ≤ l.length ∧ wr = w.drewN k) (fun i _ => l.length - (intOf i).toNat)
      case atStart => exact ⟨0, 0, rfl, Nat.zero_le _, rfl⟩
      case round =>
        obtain ⟨i, k, rfl, hi, rfl⟩ := hrel
        by_cases hlt : i < l.length
        · obtain ⟨p, hp⟩ : ∃ p, l[i]? = some p := ⟨_, List.getElem?_eq_getElem hlt⟩
          obtain ⟨a0, a1, a2⟩ := c1 i p hp
          obtain ⟨b0, b1, b2⟩ := c2 i p hp
          have bel := below_drewN (Below.refl w.heap.size w) k
          obtain ⟨W2, hW2⟩ : ∃ W2, w.drewN k = W2 := ⟨_, rfl⟩
          have a0' : W2.cell? ⟨g1, i * 3, none⟩ = some (.string ⟨p.1.toArray⟩) := by rw [← hW2]; exact a0
          have a1' : W2.cell? ⟨g1, i * 3 + 1, none⟩ = some (.string ⟨p.2.1.toArray⟩) := by rw [← hW2]; exact a1
          have a2' : W2.cell? ⟨g1, i * 3 + 2, none⟩ = some (.bool p.2.2) := by rw [← hW2]; exact a2
          have b0' : W2.cell? ⟨g2, i * 3, none⟩ = some (.string ⟨p.1.toArray⟩) := by rw [← hW2]; exact b0
          have b1' : W2.cell? ⟨g2, i * 3 + 1, none⟩ = some (.string ⟨p.2.1.toArray⟩) := by rw [← hW2]; exact b1
          have b2' : W2.cell? ⟨g2, i * 3 + 2, none⟩ = some (.bool p.2.2) := by rw [← hW2]; exact b2
          rw [hW2]
          have HW := Lib.hid hW2
          clear hW2 a0 a1 a2 b0 b1 b2
          have k0 : (0 : Int) ≤ (i : Int) := by omega
          have k1 : (i : Int) < (l.length : Int) := by omega
          have hwi := wrap64_small i (Nat.le_trans hi hl)
          go_wp2_with fail
          refine wp_region_still_lit (by kernel_rfl) (by kernel_rfl) ?_
          repeat still_step
          refine wpStill_nil ?_
          go_wp2
          go_roundw
          case rel =>
            try rw [hwi]
            clear hwi
            exact ⟨i + 1, k + 1, by go_num, by omega, by rw [← HW.out]; rfl⟩
          case measure => (try rw [hwi]); clear hwi; simp [intOf]; omega
        · have hd : decide (i < l.length) = false := decide_eq_false hlt
          have bel := below_drewN (Below.refl w.heap.size w) k
          go_wp2
          go_ret
          exact ⟨rfl, bel⟩
end Go.Proofs.YtgkpiakapdgglaaDoor
