/- The walk of turnpikelaw03.BaseTurns: it returns true; nothing that was there turns. Conditions: no text is longer than memory. -/
import Derived.Test.YtpehogkgiikjmaaLawEncodes
import Derived.Test.YtpehogkgiikjmaaFnv
import Derived.Deep.QuietTactic
import Derived.BigQuiet
import Derived.Lib.ConvBytes
namespace Go.Proofs.Ytpehogkgiikjmaa
open Go.RowKit
set_option linter.unusedSimpArgs false
set_option linter.unusedVariables false
theorem fnv_nil : ((fnv [] : Nat) : Int) = 14695981039346656037 := rfl
theorem turns_else (s : ByteArray) (i : Int) (b : Int) (w : World) (hs : s.size ≤ 140737488351232)
    (h : i < 0 ∨ (s.size : Int) ≤ i ∨ ∃ (k : Nat) (hk : k < s.size), i = k ∧ b = ((s[k]'hk).toNat : Int)) :
    Calls Try.prog 4 #[.string s, .int .i64 i, .int .u8 b] w fun e w' => e = .returned (.bool true) ∧ Below w.heap.size w w' := by
  have x0 := fnv_nil
  rcases h with h | h | ⟨k, hk, rfl, rfl⟩
  · go_enter Try.func4, Try.ntmps4
    go_wp2_with fail
    refine (awake_any _).mono ?_
    rintro e w1 ⟨rfl, hb1⟩
    go_wp2_with fail
    refine (fnv_any _ _ (by decide)).mono ?_
    rintro e w2 ⟨rfl, rfl⟩
    go_wp2
    go_ret
    exact ⟨rfl, hb1⟩
  · have h0 : ¬ i < 0 := by omega
    go_enter Try.func4, Try.ntmps4
    go_wp2_with fail
    refine (awake_any _).mono ?_
    rintro e w1 ⟨rfl, hb1⟩
    go_wp2_with fail
    refine (fnv_any _ _ (by decide)).mono ?_
    rintro e w2 ⟨rfl, rfl⟩
    go_wp2
    go_ret
    exact ⟨rfl, hb1⟩
  · have h0 : ¬ (k : Int) < 0 := by omega
    have h1 : ¬ (s.size : Int) ≤ (k : Int) := by omega
    go_enter Try.func4, Try.ntmps4
    go_wp2_with fail
    refine (awake_any _).mono ?_
    rintro e w1 ⟨rfl, hb1⟩
    go_wp2_with fail
    refine (fnv_any _ _ (by decide)).mono ?_
    rintro e w2 ⟨rfl, rfl⟩
    go_wp2
    go_ret
    exact ⟨rfl, hb1⟩
theorem bytesWorld_frozen (w : World) (e : TypeId) (s : ByteArray) (j : Nat) (hj : j < s.size) : (Lib.bytesWorld w e s).frozen? ⟨w.heap.size, j, none⟩ = false := by
  have hn : s.size ≤ (Lib.bytesCells w e s).size := by
    unfold Lib.bytesCells; rw [Array.size_append, Array.size_map]; exact Nat.le_add_right _ _
  unfold World.frozen?
  rw [Lib.bytesWorld_at_new]
  show (decide ((Lib.bytesCells w e s).size ≤ j) && decide (j < (Lib.bytesCells w e s).size + 1)) = false
  rw [decide_eq_false (by omega)]; rfl
theorem bytesWorld_below (w : World) (e : TypeId) (s : ByteArray) : Below w.heap.size w (Lib.bytesWorld w e s) :=
  ⟨rfl, rfl, rfl, by rw [Lib.bytesWorld_size]; omega, fun k hk => Lib.bytesWorld_at_old w e s k hk⟩
theorem set_cells (w : World) (s : ByteArray) (k : Nat) (hk : k < s.size) (b : UInt8) (e : TypeId) : ∀ j (h : j < (s.data.toList.set k b).length), ((Lib.bytesWorld w e s).setCell ⟨w.heap.size, k, none⟩ (.int .u8 (b.toNat : Int))).cell? ⟨w.heap.size, 0 + j, none⟩ = some (.int .u8 ((s.data.toList.set k b)[j]'h).toNat) := by
  intro j h
  have hj : j < s.size := by rw [List.length_set, size_list] at h; exact h
  have hc := Lib.bytesWorld_cell w e s k hk
  rw [Nat.zero_add, List.getElem_set]
  by_cases e1 : k = j
  · subst e1
    rw [if_pos rfl, World.cell?_setCell_same _ _ _ hc]
  · rw [if_neg e1, World.cell?_setCell_other _ _ _ _ (by intro e; injection e with _ e _; omega), Lib.bytesWorld_cell w e s j hj]
    have : s.data.toList.getD j 0 = s.data.toList[j]'(by rw [size_list]; exact hj) := by simp [List.getD, hj]
    rw [this]
theorem turns_main (s : ByteArray) (k : Nat) (hk : k < s.size) (b : UInt8) (hne : s[k]'hk ≠ b) (w : World) (hs : s.size ≤ 140737488351232) :
    Calls Try.prog 4 #[.string s, .int .i64 k, .int .u8 (b.toNat : Int)] w fun e w' => e = .returned (.bool true) ∧ Below w.heap.size w w' := by
  have h0 : ¬ (k : Int) < 0 := by omega
  have h1 : ¬ (s.size : Int) ≤ (k : Int) := by omega
  have h2 : (((s[k]'hk).toNat : Int) == (b.toNat : Int)) = false := by
    rw [beq_eq_false_iff_ne]; intro e; exact hne (UInt8.toNat_inj.1 (by omega))
  have hcv := fun w => Lib.run_convert_string_bytes (P := Try.prog) w 9 27 5 s Try.underlying9 Try.underlying27 Try.underlying5
  have hcell := Lib.bytesWorld_cell w 5 s k hk
  have hfz := bytesWorld_frozen w 5 s k hk
  have hset := set_cells w s k hk b 5
  have hbl := (bytesWorld_below w 5 s).setCell (p := ⟨w.heap.size, k, none⟩) (Nat.le_refl _) (.int .u8 (b.toNat : Int))
  have hkl : k < s.data.toList.length := by rw [size_list]; exact hk
  have hturn : (((fnv s.data.toList : Nat) : Int) != ((fnv (s.data.toList.set k b) : Nat) : Int)) = true := by
    rw [bne_iff_ne]
    intro e
    have hg : s.data.toList[k]'hkl = s[k]'hk := rfl
    exact fnv_turn s.data.toList k hkl b (by rw [hg]; exact hne) (by omega)
  have hlen : (⟨(s.data.toList.set k b).toArray⟩ : ByteArray).size ≤ 140737488351232 := by
    rw [← size_list]; simpa using hs
  go_enter Try.func4, Try.ntmps4
  go_wp2
  clear hcell hfz hcv
  generalize (Lib.bytesWorld w 5 s).setCell ⟨w.heap.size, k, none⟩ (.int .u8 (b.toNat : Int)) = W at hset hbl ⊢
  have hst := fun n => run_str_cells (P := Try.prog) (W.drewN n) 27 5 Try.underlying27 Try.underlying5 w.heap.size 0 (grownCap w s.size 0 5) s.size (s.data.toList.set k b) (by simp [size_list]) (fun j h => hset j h) 9 Try.underlying9
  clear hset
  go_quiet ((go_at_call 19; exact quiet_left (fnv_any _ _ (by assumption))))
  go_wp2
  go_ret
  exact ⟨rfl, below_drewN hbl nq⟩
theorem baseTurns_any (s : ByteArray) (i b : Int) (w : World) (hi : (Lit.int .i64 i).wf = true) (hb : (Lit.int .u8 b).wf = true) (hs : s.size ≤ 140737488351232) :
    Calls Try.prog 4 #[.string s, .int .i64 i, .int .u8 b] w fun e w' => e = .returned (.bool true) ∧ Below w.heap.size w w' := by
  have hb2 : 0 ≤ b ∧ b ≤ 255 := by simpa [Lit.wf, IntKind.min, IntKind.max, IntKind.signed, IntKind.bits] using hb
  by_cases h : i < 0 ∨ (s.size : Int) ≤ i ∨ ∃ (k : Nat) (hk : k < s.size), i = k ∧ b = ((s[k]'hk).toNat : Int)
  · exact turns_else s i b w hs h
  · obtain ⟨k, rfl⟩ : ∃ k : Nat, i = k := ⟨i.toNat, by omega⟩
    have hk : k < s.size := by omega
    obtain ⟨c, rfl⟩ : ∃ c : UInt8, b = (c.toNat : Int) := ⟨UInt8.ofNat b.toNat, by
      have : (UInt8.ofNat b.toNat).toNat = b.toNat % 256 := rfl
      rw [this]; omega⟩
    exact turns_main s k hk c (fun e => h (Or.inr (Or.inr ⟨k, hk, rfl, by rw [e]⟩))) w hs
end Go.Proofs.Ytpehogkgiikjmaa
