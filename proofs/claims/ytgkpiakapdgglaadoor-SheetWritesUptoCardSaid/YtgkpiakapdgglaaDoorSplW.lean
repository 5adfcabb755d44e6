/- The walk of the reference's split: the library's pieces. Conditions: fewer than 2^40 bytes. -/
import Derived.Test.YtgkpiakapdgglaaDoorSplR
import Derived.Test.YtgkpiakapdgglaaDoorParM
namespace Go.Proofs.YtgkpiakapdgglaaDoor
open Go.RowKit
set_option linter.unusedSimpArgs false
set_option linter.unusedVariables false
set_option maxRecDepth 1000000
theorem infoStr : (Tryd.prog.info? 9).map (fun i => (i.zero, i.size, i.bytes)) = some (some (.string ByteArray.empty), 1, 16) := by kernel_rfl
theorem info_partsS (h : (Tryd.prog.info? 9).map (fun i => (i.zero, i.size, i.bytes)) = some (some (.string ByteArray.empty), 1, 16)) : ∃ i, Tryd.prog.info? 9 = some i ∧ i.zero = some (.string ByteArray.empty) ∧ i.size = 1 ∧ i.bytes = 16 := by
  obtain ⟨i, hi, he⟩ := Option.map_eq_some_iff.1 h
  simp only [Prod.mk.injEq] at he
  exact ⟨i, hi, he.1, he.2.1, he.2.2⟩
theorem cut_rest (c : UInt8) (l : List UInt8) (h : (Lib.cut l [c]).2.2 = true) : (Lib.cut l [c]).1.length + 1 + (Lib.cut l [c]).2.1.length = l.length := by
  have hge : -1 ≤ Lib.index l [c] := by rw [Lib.index_one]; exact Lib.indexByte_ge _ _
  by_cases hi : Lib.index l [c] = -1
  · have e : Lib.cut l [c] = (l, [], false) := by unfold Lib.cut; rw [if_neg (by omega)]
    rw [e] at h; cases h
  · obtain ⟨i, hi2⟩ : ∃ i : Nat, Lib.index l [c] = i := ⟨(Lib.index l [c]).toNat, by omega⟩
    have e : Lib.cut l [c] = (l.take i, l.drop (i + 1), true) := by unfold Lib.cut; rw [hi2, if_pos (by omega)]; simp
    have hlt : i < l.length := by
      rcases Nat.lt_or_ge i l.length with h1 | h1
      · exact h1
      · exfalso
        have h3 : Lib.index l [c] < l.length := by
          rcases Nat.lt_or_ge (Lib.index l [c]).toNat l.length with h4 | h4
          · omega
          · have h5 := index_lt c l hi
            omega
        omega
    rw [e]
    simp only [List.length_take, List.length_drop]
    omega
set_option maxHeartbeats 4000000 in
theorem rsplit_any (s : ByteArray) (c : UInt8) (w : World) (hs : s.size ≤ 1099511627776) :
    Calls Tryd.prog 63 #[.string s, .int .u8 (c.toNat : Int)] w fun e w' => ∃ v, e = .returned v ∧ w'.ownsRow w.heap.size 9 1 v (Lib.split s.data.toList [c]).length (strV (Lib.split s.data.toList [c])) ∧ Below w.heap.size w w' := by
  obtain ⟨i0, hi, hz0, hz1, hz2⟩ := info_partsS infoStr
  go_enter Tryd.func63, Tryd.ntmps63
  go_wp2
  go_loopw [0, 5] (fun sv v wr => ∃ (t : ByteArray) (done : List (List UInt8)), sv = .string t ∧ done.length + t.size ≤ s.size ∧ done ++ Lib.split t.data.toList [c] = Lib.split s.data.toList [c] ∧ wr.ownsRow w.heap.size 9 1 v done.length (strV done) ∧ Below w.heap.size w wr)
    (fun sv _ _ => match sv with | .string t => t.size | _ => 0)
  case atStart => exact ⟨s, [], rfl, by simp, rfl, World.ownsRow_made w #[] 0 (Nat.le_refl _) (by simp) rfl, (Below.refl _ w).alloc (Nat.le_refl _) _⟩
  case round =>
    obtain ⟨t, done, rfl, hdl, hsp, hown, hbw⟩ := hrel
    have hts : t.size ≤ 140737488351232 := by omega
    obtain ⟨⟨a, r, more⟩, hct⟩ : ∃ q, Lib.cut t.data.toList [c] = q := ⟨_, rfl⟩
    have hstep := split_step c t.data.toList
    rw [hct] at hstep
    have hrest := cut_rest c t.data.toList
    rw [hct, size_list] at hrest
    have hr2 : more = true → a.length + 1 + r.length = t.size := hrest
    have hst2 : more = true → Lib.split t.data.toList [c] = a :: Lib.split r [c] := fun h => by rw [hstep]; exact if_pos h
    have hst3 : more = false → Lib.split t.data.toList [c] = [t.data.toList] := fun h => by rw [hstep]; exact if_neg (by rw [h]; simp)
    have HRE := Lib.hid (And.intro hr2 (And.intro hst2 hst3)); clear hrest hr2 hst2 hst3
    have hsm : done.length + 1 ≤ maxLen := by unfold maxLen; omega
    have hsm2 : (done.length + 1) * 16 ≤ 140737488355328 := by omega
    have HC := Lib.hid (And.intro hct (And.intro hstep (And.intro hsp hdl)))
    clear hct hstep hsp hdl
    go_wp2_with fail
    refine (cut_any t c _ hts).mono ?_
    rintro e w1 ⟨rfl, n1, rfl⟩
    rw [HC.out.1]
    have hown2 : (wr.drewN n1).ownsRow w.heap.size 9 1 _ done.length (strV done) := hown
    have hbw2 := below_drewN hbw n1
    have hbs2 := hbw2.size
    obtain ⟨W1, hW1⟩ : ∃ W1, wr.drewN n1 = W1 := ⟨_, rfl⟩
    rw [hW1] at hown2 hbw2 hbs2 ⊢
    clear hW1 hown hbw
    cases more with
    | true =>
      go_wp2_with (at_builtin; refine wpList_append_own _ rfl (.tmp 17) (.tmp 19) 55 rfl w.heap.size 9 i0 (.string ByteArray.empty) 1 16 Tryd.underlying55 hi hz0 hz1 hz2 rfl (by decide) _ _ _ rfl (hown2.alloc _) ⟨W1.heap.size, 0, none⟩ 1 1 [.string ⟨a.toArray⟩] rfl rfl (cells_new _ _ _) (by simp [Value.oneCell']) hsm hsm2 ?d0 ?_)
      case d0 => simp; omega
      intro v1 w7 hI1 hg7 _
      have hb8 := (hbw2.alloc (by omega) _).grown hg7 (by simp; omega) (fun j hj => (hown2.lt j hj).1)
      have HI1 := Lib.hid hI1; have HB8 := Lib.hid hb8
      clear hI1 hb8 hg7 hown2 hbw2
      go_wp2
      go_roundw
      case rel =>
        have h1 := HRE.out.1 (by first | rfl | trivial)
        refine ⟨⟨r.toArray⟩, done ++ [a], rfl, ?_, ?_, ?_, HB8.out⟩
        · have h2 := HC.out.2.2.2
          rw [← size_list (⟨r.toArray⟩ : ByteArray)]
          simp only [List.length_append, List.length_cons, List.length_nil, List.toList_toArray]
          omega
        · have h3 := HRE.out.2.1 (by first | rfl | trivial)
          rw [← HC.out.2.2.1, h3]
          simp
        · have := HI1.out
          simp only [strV, List.length_append, List.length_cons, List.length_nil, List.map_append, List.map_cons, List.map_nil]
          exact this
      case measure =>
        have h1 := HRE.out.1 (by first | rfl | trivial)
        show (⟨r.toArray⟩ : ByteArray).size < t.size
        rw [← size_list (⟨r.toArray⟩ : ByteArray)]
        simp only [List.toList_toArray]
        omega
    | false =>
      go_wp2_with (at_builtin; refine wpList_append_own _ rfl (.tmp 17) (.tmp 19) 55 rfl w.heap.size 9 i0 (.string ByteArray.empty) 1 16 Tryd.underlying55 hi hz0 hz1 hz2 rfl (by decide) _ _ _ rfl (hown2.alloc _) ⟨W1.heap.size, 0, none⟩ 1 1 [.string ⟨a.toArray⟩] rfl rfl (cells_new _ _ _) (by simp [Value.oneCell']) hsm hsm2 ?d1 ?_)
      case d1 => simp; omega
      intro v1 w7 hI1 hg7 _
      have hb8 := (hbw2.alloc (by omega) _).grown hg7 (by simp; omega) (fun j hj => (hown2.lt j hj).1)
      have HI1 := Lib.hid hI1; have HB8 := Lib.hid hb8
      clear hI1 hb8 hg7 hown2 hbw2
      go_wp2
      go_ret
      have h3 := HRE.out.2.2 (by first | rfl | trivial)
      have ha : a = t.data.toList := by
        have := HC.out.1
        unfold Lib.cut at this
        split at this
        · injection this with _ h; injection h with _ h; cases h
        · injection this with h _; exact h.symm
      refine ⟨v1, rfl, ?_, HB8.out⟩
      have := HI1.out
      rw [← HC.out.2.2.1, h3, ← ha]
      simp only [strV, List.length_append, List.length_cons, List.length_nil, List.map_append, List.map_cons, List.map_nil]
      exact this
end Go.Proofs.YtgkpiakapdgglaaDoor
