/- SplR, SplW, NmW, RegH, RNm: texts of the seat, one behind the other (a claim holds at most sixty). Conditions: each theorem names its own. -/
import Derived.Test.YtpdbejeiceodkaaGreatDoorPk05
import Derived.Test.YtpdbejeiceodkaaGreatDoorPk01
import Derived.Test.YtpdbejeiceodkaaGreatDoorPk00
import Derived.Test.YtpdbejeiceodkaaGreatDoorPk03
import Derived.Test.YtpdbejeiceodkaaGreatDoorPk04
import Derived.BigQuiet
import Derived.OrdersHeld
namespace Go.Proofs.YtpdbejeiceodkaaGreatDoor
open Go.RowKit
set_option linter.unusedSimpArgs false
set_option linter.unusedVariables false
set_option maxRecDepth 1000000
theorem extract_mk (s : ByteArray) (a b : Nat) : s.extract a b = ⟨((s.data.toList.drop a).take (b - a)).toArray⟩ := by
  apply ba_ext
  rw [ByteArray.data_extract, Array.toList_extract, List.extract_eq_take_drop]
theorem extract_front (s : ByteArray) (i : Nat) : s.extract 0 i = ⟨(s.data.toList.take i).toArray⟩ := by rw [extract_mk]; simp
theorem extract_back (s : ByteArray) (i : Nat) : s.extract i s.size = ⟨(s.data.toList.drop i).toArray⟩ := by
  rw [extract_mk, List.take_of_length_le (by rw [List.length_drop, size_list]; omega)]
set_option maxHeartbeats 2000000 in
theorem cut_any (s : ByteArray) (c : UInt8) (w : World) (hs : s.size ≤ 140737488351232) :
    Calls Tryz.prog 185 #[.string s, .int .u8 (c.toNat : Int)] w fun e w' => e = .returned (.tuple #[.string ⟨(Lib.cut s.data.toList [c]).1.toArray⟩, .string ⟨(Lib.cut s.data.toList [c]).2.1.toArray⟩, .bool (Lib.cut s.data.toList [c]).2.2]) ∧ ∃ k, w' = w.drewN k := by
  go_enter Tryz.func185, Tryz.ntmps185
  go_wp2
  go_loopw [7] (fun iv wr => ∃ i : Nat, iv = .int .i64 i ∧ i ≤ s.size ∧ (∀ j, j < i → s.data.toList[j]? ≠ some c) ∧ wr = w) (fun i _ => s.size - (intOf i).toNat)
  case atStart => exact ⟨0, rfl, Nat.zero_le _, fun j hj => absurd hj (by omega), rfl⟩
  case round =>
    obtain ⟨i, rfl, hi, hno, rfl⟩ := hrel
    by_cases hlt : i < s.size
    · obtain ⟨a, ha⟩ : ∃ a, s[i]'hlt = a := ⟨_, rfl⟩
      have hga := list_get s i hlt
      rw [ha] at hga
      have k0 : (0 : Int) ≤ (i : Int) := by omega
      have k1 : (i : Int) < (s.size : Int) := by omega
      by_cases hac : a = c
      · subst hac
        have hcut := cut_found a s.data.toList i (by rw [size_list]; exact hlt) hno hga
        obtain ⟨j1, e1⟩ : ∃ j, i + 1 = j := ⟨_, rfl⟩
        have f1 : (i : Int) + 1 = (j1 : Int) := by omega
        have g1 : IntKind.i64.wrap (j1 : Int) = (j1 : Int) := wrap_47b j1 s.size (by omega) hs
        have n1 : (0 : Int) ≤ (j1 : Int) := by omega
        have m1 : (j1 : Int) ≤ (s.size : Int) := by omega
        have m0 : (i : Int) ≤ (s.size : Int) := by omega
        have x0 := extract_front s i
        have x1 := extract_back s j1
        rw [e1] at hcut
        have HC := Lib.hid hcut; have HX := Lib.hid (And.intro x0 x1)
        clear hcut e1 hno hga x0 x1
        go_wp2_with fail
        go_still (by kernel_rfl)
        go_wp2
        go_ret3
        refine ⟨?_, 1, rfl⟩
        rw [HC.out]
        show Ending.returned (.tuple #[.string (s.extract 0 i), .string (s.extract j1 s.size), .bool true]) = _
        rw [HX.out.1, HX.out.2]
      · have hne : ((a.toNat : Int) == (c.toNat : Int)) = false := by
          have : a.toNat ≠ c.toNat := fun e => hac (UInt8.toNat_inj.1 e)
          simp; omega
        have hno2 : ∀ j, j < i + 1 → s.data.toList[j]? ≠ some c := by
          intro j hj
          by_cases e : j = i
          · subst e; rw [hga]; intro h; injection h with h; exact hac h
          · exact hno j (by omega)
        have HN := Lib.hid hno2; clear hno hno2 hga hac
        go_wp2
        go_roundw
        case rel => exact ⟨i + 1, by go_num, by omega, HN.out, by first | rfl | trivial⟩
        case measure => simp [intOf]; omega
    · have hcut := cut_none c s.data.toList (fun j hj => hno j (by rw [size_list] at hj; omega))
      have HC := Lib.hid hcut; clear hcut hno
      go_wp2
      go_ret3
      refine ⟨?_, 0, rfl⟩
      rw [HC.out, str_eq]
      rfl
theorem swap_split (s : List UInt8) (i : Nat) (c : UInt8) (h : s[i]? = some c) : swapL 43 32 (s.take (i + 1)) ++ s.drop (i + 1) = (swapL 43 32 (s.take i) ++ s.drop i).set i (if c = 43 then 32 else c) := by
  have hi : i < s.length := (List.getElem?_eq_some_iff.1 h).1
  have hl : (swapL 43 32 (s.take i)).length = i := by simp [swapL]; omega
  rw [List.set_append_right _ _ (by omega), hl, Nat.sub_self, List.take_add_one, h]
  have hd : s.drop i = c :: s.drop (i + 1) := by
    rw [List.drop_eq_getElem_cons hi]
    congr 1
    rw [List.getElem?_eq_getElem hi] at h; injection h
  rw [hd]
  simp [swapL]
theorem swap_mid (s : List UInt8) (i : Nat) (c : UInt8) (h : s[i]? = some c) : (swapL 43 32 (s.take i) ++ s.drop i)[i]? = some c := by
  have hi : i < s.length := (List.getElem?_eq_some_iff.1 h).1
  have hl : (swapL 43 32 (s.take i)).length = i := by simp [swapL]; omega
  rw [List.getElem?_append_right (by omega), hl, Nat.sub_self, List.getElem?_drop, Nat.add_zero, h]
def BytesAt (w : World) (g : Nat) (l : List UInt8) : Prop := ∀ j c, l[j]? = some c → w.cell? ⟨g, j, none⟩ = some (.int .u8 (c.toNat : Int)) ∧ w.frozen? ⟨g, j, none⟩ = false
theorem bytesAt_string (w : World) (e : TypeId) (s : ByteArray) : BytesAt (Lib.bytesWorld w e s) w.heap.size s.data.toList := by
  intro j c hj
  have hn := Lib.bytesWorld_at_new w e s
  have hlt : j < s.size := by rw [← size_list]; exact (List.getElem?_eq_some_iff.1 hj).1
  refine ⟨(rowB_of_string w e s).1.hcell j c hj, ?_⟩
  simp only [World.frozen?, hn]
  have hsz : (Lib.bytesCells w e s).size = grownCap w s.size 0 e := by
    have hge := grownCap_ge w s.size 0 e
    unfold Lib.bytesCells
    rw [Array.size_append, Array.size_map, Array.size_replicate]
    show s.size + _ = _
    omega
  have hge := grownCap_ge w s.size 0 e
  simp
  omega
theorem bytesAt_set {w : World} {g : Nat} {l : List UInt8} (h : BytesAt w g l) (i : Nat) (d : UInt8) (hi : i < l.length) : BytesAt (w.setCell ⟨g, i, none⟩ (.int .u8 (d.toNat : Int))) g (l.set i d) := by
  intro j c hj
  have hjl : j < l.length := by have := (List.getElem?_eq_some_iff.1 hj).1; simpa using this
  have hold := h j (l[j]'hjl) (List.getElem?_eq_getElem hjl)
  constructor
  · by_cases e : i = j
    · subst e
      have hc : c = d := by simpa [hi] using hj.symm
      rw [hc]
      exact World.cell?_setCell_same _ _ _ hold.1
    · rw [World.cell?_setCell_other _ _ _ _ (by intro h; injection h with h1 h2; exact e h2)]
      rw [List.getElem?_set_ne e] at hj
      exact (h j c hj).1
  · have := World.frozen?_setCells g [Value.int .u8 (d.toNat : Int)] i w ⟨g, j, none⟩
    exact this.trans hold.2
end Go.Proofs.YtpdbejeiceodkaaGreatDoor
namespace Go.Proofs.YtpdbejeiceodkaaGreatDoor
open Go.RowKit
set_option linter.unusedSimpArgs false
set_option linter.unusedVariables false
set_option maxRecDepth 1000000
theorem infoStr : (Tryz.prog.info? 9).map (fun i => (i.zero, i.size, i.bytes)) = some (some (.string ByteArray.empty), 1, 16) := by kernel_rfl
theorem info_partsS (h : (Tryz.prog.info? 9).map (fun i => (i.zero, i.size, i.bytes)) = some (some (.string ByteArray.empty), 1, 16)) : ∃ i, Tryz.prog.info? 9 = some i ∧ i.zero = some (.string ByteArray.empty) ∧ i.size = 1 ∧ i.bytes = 16 := by
  obtain ⟨i, hi, he⟩ := Option.map_eq_some_iff.1 h
  simp only [Prod.mk.injEq] at he
  exact ⟨i, hi, he.1, he.2.1, he.2.2⟩
theorem cut_rest (c : UInt8) (l : List UInt8) (h : (Lib.cut l [c]).2.2 = true) : (Lib.cut l [c]).1.length + 1 + (Lib.cut l [c]).2.1.length = l.length := by
  have hge : -1 ≤ Lib.index l [c] := by rw [Lib.index_one]; exact Lib.indexByte_ge _ _
  by_cases hi : Lib.index l [c] = -1
  · have e : Lib.cut l [c] = (l, [], false) := by unfold Lib.cut; rw [if_neg (by omega)]
    rw [e] at h; cases h
  · obtain ⟨i, hi2⟩ : ∃ i : Nat, Lib.index l [c] = i := ⟨(Lib.index l [c]).toNat, by omega⟩
    have e : Lib.cut l [c] = (l.take i, l.drop (i + 1), true) := by unfold Lib.cut; rw [hi2, if_pos (by omega)]; simp
    have hlt : i < l.length := by
      rcases Nat.lt_or_ge i l.length with h1 | h1
      · exact h1
      · exfalso
        have h3 : Lib.index l [c] < l.length := by
          rcases Nat.lt_or_ge (Lib.index l [c]).toNat l.length with h4 | h4
          · omega
          · have h5 := index_lt c l hi
            omega
        omega
    rw [e]
    simp only [List.length_take, List.length_drop]
    omega
set_option maxHeartbeats 4000000 in
theorem rsplit_any (s : ByteArray) (c : UInt8) (w : World) (hs : s.size ≤ 1099511627776) :
    Calls Tryz.prog 151 #[.string s, .int .u8 (c.toNat : Int)] w fun e w' => ∃ v, e = .returned v ∧ w'.ownsRow w.heap.size 9 1 v (Lib.split s.data.toList [c]).length (strV (Lib.split s.data.toList [c])) ∧ Below w.heap.size w w' := by
  obtain ⟨i0, hi, hz0, hz1, hz2⟩ := info_partsS infoStr
  go_enter Tryz.func151, Tryz.ntmps151
  go_wp2
  go_loopw [0, 5] (fun sv v wr => ∃ (t : ByteArray) (done : List (List UInt8)), sv = .string t ∧ done.length + t.size ≤ s.size ∧ done ++ Lib.split t.data.toList [c] = Lib.split s.data.toList [c] ∧ wr.ownsRow w.heap.size 9 1 v done.length (strV done) ∧ Below w.heap.size w wr)
    (fun sv _ _ => match sv with | .string t => t.size | _ => 0)
  case atStart => exact ⟨s, [], rfl, by simp, rfl, World.ownsRow_made w #[] 0 (Nat.le_refl _) (by simp) rfl, (Below.refl _ w).alloc (Nat.le_refl _) _⟩
  case round =>
    obtain ⟨t, done, rfl, hdl, hsp, hown, hbw⟩ := hrel
    have hts : t.size ≤ 140737488351232 := by omega
    obtain ⟨⟨a, r, more⟩, hct⟩ : ∃ q, Lib.cut t.data.toList [c] = q := ⟨_, rfl⟩
    have hstep := split_step c t.data.toList
    rw [hct] at hstep
    have hrest := cut_rest c t.data.toList
    rw [hct, size_list] at hrest
    have hr2 : more = true → a.length + 1 + r.length = t.size := hrest
    have hst2 : more = true → Lib.split t.data.toList [c] = a :: Lib.split r [c] := fun h => by rw [hstep]; exact if_pos h
    have hst3 : more = false → Lib.split t.data.toList [c] = [t.data.toList] := fun h => by rw [hstep]; exact if_neg (by rw [h]; simp)
    have HRE := Lib.hid (And.intro hr2 (And.intro hst2 hst3)); clear hrest hr2 hst2 hst3
    have hsm : done.length + 1 ≤ maxLen := by unfold maxLen; omega
    have hsm2 : (done.length + 1) * 16 ≤ 140737488355328 := by omega
    have HC := Lib.hid (And.intro hct (And.intro hstep (And.intro hsp hdl)))
    clear hct hstep hsp hdl
    go_wp2_with fail
    refine (cut_any t c _ hts).mono ?_
    rintro e w1 ⟨rfl, n1, rfl⟩
    rw [HC.out.1]
    have hown2 : (wr.drewN n1).ownsRow w.heap.size 9 1 _ done.length (strV done) := hown
    have hbw2 := below_drewN hbw n1
    have hbs2 := hbw2.size
    obtain ⟨W1, hW1⟩ : ∃ W1, wr.drewN n1 = W1 := ⟨_, rfl⟩
    rw [hW1] at hown2 hbw2 hbs2 ⊢
    clear hW1 hown hbw
    cases more with
    | true =>
      go_wp2_with (at_builtin; refine wpList_append_own _ rfl (.tmp 17) (.tmp 19) 34 rfl w.heap.size 9 i0 (.string ByteArray.empty) 1 16 Tryz.underlying34 hi hz0 hz1 hz2 rfl (by decide) _ _ _ rfl (hown2.alloc _) ⟨W1.heap.size, 0, none⟩ 1 1 [.string ⟨a.toArray⟩] rfl rfl (cells_new _ _ _) (by simp [Value.oneCell']) hsm hsm2 ?d0 ?_)
      case d0 => simp; omega
      intro v1 w7 hI1 hg7 _
      have hb8 := (hbw2.alloc (by omega) _).grown hg7 (by simp; omega) (fun j hj => (hown2.lt j hj).1)
      have HI1 := Lib.hid hI1; have HB8 := Lib.hid hb8
      clear hI1 hb8 hg7 hown2 hbw2
      go_wp2
      go_roundw
      case rel =>
        have h1 := HRE.out.1 (by first | rfl | trivial)
        refine ⟨⟨r.toArray⟩, done ++ [a], rfl, ?_, ?_, ?_, HB8.out⟩
        · have h2 := HC.out.2.2.2
          rw [← size_list (⟨r.toArray⟩ : ByteArray)]
          simp only [List.length_append, List.length_cons, List.length_nil, List.toList_toArray]
          omega
        · have h3 := HRE.out.2.1 (by first | rfl | trivial)
          rw [← HC.out.2.2.1, h3]
          simp
        · have := HI1.out
          simp only [strV, List.length_append, List.length_cons, List.length_nil, List.map_append, List.map_cons, List.map_nil]
          exact this
      case measure =>
        have h1 := HRE.out.1 (by first | rfl | trivial)
        show (⟨r.toArray⟩ : ByteArray).size < t.size
        rw [← size_list (⟨r.toArray⟩ : ByteArray)]
        simp only [List.toList_toArray]
        omega
    | false =>
      go_wp2_with (at_builtin; refine wpList_append_own _ rfl (.tmp 17) (.tmp 19) 34 rfl w.heap.size 9 i0 (.string ByteArray.empty) 1 16 Tryz.underlying34 hi hz0 hz1 hz2 rfl (by decide) _ _ _ rfl (hown2.alloc _) ⟨W1.heap.size, 0, none⟩ 1 1 [.string ⟨a.toArray⟩] rfl rfl (cells_new _ _ _) (by simp [Value.oneCell']) hsm hsm2 ?d1 ?_)
      case d1 => simp; omega
      intro v1 w7 hI1 hg7 _
      have hb8 := (hbw2.alloc (by omega) _).grown hg7 (by simp; omega) (fun j hj => (hown2.lt j hj).1)
      have HI1 := Lib.hid hI1; have HB8 := Lib.hid hb8
      clear hI1 hb8 hg7 hown2 hbw2
      go_wp2
      go_ret
      have h3 := HRE.out.2.2 (by first | rfl | trivial)
      have ha : a = t.data.toList := by
        have := HC.out.1
        unfold Lib.cut at this
        split at this
        · injection this with _ h; injection h with _ h; cases h
        · injection this with h _; exact h.symm
      refine ⟨v1, rfl, ?_, HB8.out⟩
      have := HI1.out
      rw [← HC.out.2.2.1, h3, ← ha]
      simp only [strV, List.length_append, List.length_cons, List.length_nil, List.map_append, List.map_cons, List.map_nil]
      exact this
end Go.Proofs.YtpdbejeiceodkaaGreatDoor
namespace Go.Proofs.YtpdbejeiceodkaaGreatDoor
open Go.RowKit
set_option linter.unusedSimpArgs false
set_option linter.unusedVariables false
set_option maxRecDepth 1000000
theorem drewN2 (w : World) (a b : Nat) : (w.drewN a).drewN b = w.drewN (a + b) := by simp [World.drewN, Nat.add_comm, Nat.add_left_comm, Nat.add_assoc]
theorem triple_yes (s : ByteArray) (i n : Nat) (w : World) (hi : i < s.size) (hs : s.size ≤ 140737488351232) (h : trip (s.data.toList.drop i) = some n) :
    Calls Tryz.prog 140 #[.string s, .int .i64 i] w fun e w' => e = .returned (.tuple #[.int .u8 (n : Int), .bool true]) ∧ ∃ k, w' = w.drewN k :=
  (triple_any s i w hi hs).mono fun e w' hp => by
    obtain ⟨v, rfl, hv, hk⟩ := hp
    rw [hv n h, h]
    exact ⟨rfl, hk⟩
theorem triple_no (s : ByteArray) (i : Nat) (w : World) (hi : i < s.size) (hs : s.size ≤ 140737488351232) (h : trip (s.data.toList.drop i) = none) :
    Calls Tryz.prog 140 #[.string s, .int .i64 i] w fun e w' => ∃ v : Int, e = .returned (.tuple #[.int .u8 v, .bool false]) ∧ ∃ k, w' = w.drewN k :=
  (triple_any s i w hi hs).mono fun e w' hp => by
    obtain ⟨v, rfl, hv, hk⟩ := hp
    rw [h]
    exact ⟨v, rfl, hk⟩
theorem w64p3 (i n : Nat) (h : i + 3 ≤ n) (hn : n ≤ 1099511627776) : wrap64 ((i : Int) + 3) = (i : Int) + 3 := by unfold wrap64; omega
theorem trip_fit (s : ByteArray) (i n : Nat) (hi : i < s.size) (h : trip (s.data.toList.drop i) = some n) : i + 3 ≤ s.size := by
  have := trip_len _ _ h
  rw [List.length_drop, size_list] at this
  omega
set_option maxHeartbeats 4000000 in
theorem signs_any (s : ByteArray) (w : World) (hs : s.size ≤ 1099511627776) : Calls Tryz.prog 176 #[.string s, .int .i64 15] w fun e w' => e = .returned (.int .i64 (sgn s.data.toList : Int)) ∧ ∃ k, w' = w.drewN k := by
  go_enter Tryz.func176, Tryz.ntmps176
  go_wp2
  go_loopw [5] (fun iv wr => ∃ i : Nat, iv = .int .i64 i ∧ i ≤ s.size ∧ i + sgn (s.data.toList.drop i) = sgn s.data.toList ∧ ∃ k, wr = w.drewN k) (fun iv _ => s.size - (intOf iv).toNat)
  case atStart => exact ⟨0, rfl, Nat.zero_le _, Nat.zero_add _, 0, rfl⟩
  case round =>
    obtain ⟨i, rfl, hi, hr, k, hwk⟩ := hrel
    by_cases hlt : i < s.size
    · have k0 : (0 : Int) ≤ (i : Int) := Int.natCast_nonneg _
      have k1 : (i : Int) < (s.size : Int) := by omega
      have hd := drop_get s i hlt
      cases ht : trip (s.data.toList.drop i) with
      | some n =>
        have H := Lib.hid (fun w => triple_yes s i n w hlt (by omega) ht)
        have h3 := trip_fit s i n hlt ht
        have hw3 := w64p3 i s.size h3 hs
        rw [sgn_trip _ _ ht, List.drop_drop] at hr
        have HR := Lib.hid (And.intro hr (And.intro h3 hwk)); have HW := Lib.hid hw3
        clear hr h3 hw3 ht hd hwk
        go_wp2_with fail
        refine (H.out _).mono ?_
        rintro e w1 ⟨rfl, k2, hk2⟩
        go_wp2
        have hw3 := HW.out
        go_roundw
        case rel => (try rw [hw3]); clear hw3; exact ⟨i + 3, by go_num, HR.out.2.1, by rw [← HR.out.1]; omega, k + k2, by rw [HR.out.2.2]; exact drewN2 _ _ _⟩
        case measure => (try rw [hw3]); clear hw3; have := HR.out.2.1; simp [intOf]; omega
      | none =>
        obtain ⟨c, hc⟩ : ∃ c, s[i]'hlt = c := ⟨_, rfl⟩
        rw [hc] at hd
        have H := Lib.hid (fun w => triple_no s i w hlt (by omega) ht)
        rw [hd] at ht hr
        have HC := Lib.hid (fun w => class_any c w)
        have hq := psg_cls c.toNat
        cases hp : psg c.toNat with
        | true =>
          rw [hp] at hq
          rw [sgn_one c _ ht hp] at hr
          have hwi := wrap64_small i (by omega)
          have HR := Lib.hid (And.intro hr hwk); have HW := Lib.hid hwi
          have hq : (bits BinOp.and IntKind.i64 (cls c.toNat) 15 == 0) = false := hq
          clear hr hwi ht hd hwk hp
          go_wp2_with fail
          refine (H.out _).mono ?_
          rintro e w1 ⟨v, rfl, k2, hk2⟩
          go_wp2_with fail
          refine (HC.out _).mono ?_
          rintro e w2 ⟨rfl, hw2⟩
          subst hw2
          go_wp2
          have hwi := HW.out
          go_roundw
          case rel => (try rw [hwi]); clear hwi; exact ⟨i + 1, by go_num, hlt, by rw [← HR.out.1]; omega, k + k2, by rw [HR.out.2]; exact drewN2 _ _ _⟩
          case measure => (try rw [hwi]); clear hwi; simp [intOf]; omega
        | false =>
          rw [hp] at hq
          rw [sgn_bad c _ ht hp] at hr
          have HR := Lib.hid (And.intro hr hwk)
          have hq : (bits BinOp.and IntKind.i64 (cls c.toNat) 15 == 0) = true := hq
          clear hr ht hd hwk hp
          go_wp2_with fail
          refine (H.out _).mono ?_
          rintro e w1 ⟨v, rfl, k2, hk2⟩
          go_wp2_with fail
          refine (HC.out _).mono ?_
          rintro e w2 ⟨rfl, hw2⟩
          subst hw2
          go_wp2
          go_ret
          exact ⟨by rw [← HR.out.1]; rfl, k + k2, by rw [HR.out.2]; exact drewN2 _ _ _⟩
    · obtain rfl : i = s.size := by omega
      have hd : decide (s.size < s.size) = false := decide_eq_false (Nat.lt_irrefl _)
      rw [List.drop_eq_nil_of_le (by rw [size_list]; exact Nat.le_refl _), sgn_nil] at hr
      have HR := Lib.hid (And.intro hr hwk)
      clear hr hwk
      go_wp2
      go_ret
      exact ⟨by rw [← HR.out.1]; rfl, k, HR.out.2⟩
theorem pre_head (l : List UInt8) : ([47] : List UInt8).isPrefixOf l = (l.head? == some 47) := by
  cases l with
  | nil => rfl
  | cons c r => rw [Bool.eq_iff_iff]; simp [List.isPrefixOf]; exact eq_comm
set_option maxHeartbeats 4000000 in
theorem isPath_any (s : ByteArray) (w : World) (hs : s.size ≤ 1099511627776) : Calls Tryz.prog 139 #[.string s] w fun e w' => e = .returned (.bool (isP s.data.toList)) ∧ ∃ k, w' = w.drewN k := by
  have h1 := Tryz.strings_HasPrefix s ⟨#[47]⟩ w
  have H2 := Lib.hid (fun w => signs_any s w hs)
  cases hp : (s.data.toList.head? == some 47) with
  | false =>
    have H1 := Lib.hid (show Calls Tryz.prog 96 #[.string s, .string ⟨#[47]⟩] w fun e w' => e = .returned (.bool false) ∧ w' = w by rw [← hp, ← pre_head]; exact h1)
    have HR := Lib.hid (show isP s.data.toList = false by unfold isP; rw [hp]; rfl)
    clear h1 hp
    go_enter Tryz.func139, Tryz.ntmps139
    go_wp2_with fail
    refine (H1.out).mono ?_
    rintro e w1 ⟨rfl, hw1⟩
    subst hw1
    go_wp2
    go_ret
    exact ⟨by rw [HR.out]; rfl, 0, rfl⟩
  | true =>
    have H1 := Lib.hid (show Calls Tryz.prog 96 #[.string s, .string ⟨#[47]⟩] w fun e w' => e = .returned (.bool true) ∧ w' = w by rw [← hp, ← pre_head]; exact h1)
    have HR := Lib.hid (show isP s.data.toList = (sgn s.data.toList == s.size) by unfold isP; rw [hp, Bool.true_and, size_list])
    clear h1 hp
    go_enter Tryz.func139, Tryz.ntmps139
    go_wp2_with fail
    refine (H1.out).mono ?_
    rintro e w1 ⟨rfl, hw1⟩
    subst hw1
    go_wp2_with fail
    refine (H2.out _).mono ?_
    rintro e w1 ⟨rfl, k, hk⟩
    obtain ⟨N, hN⟩ : ∃ N, sgn s.data.toList = N := ⟨_, rfl⟩
    rw [hN] at HR ⊢
    have hb : ((N : Int) == (s.size : Int)) = (N == s.size) := by rw [Bool.eq_iff_iff]; simp only [beq_iff_eq]; omega
    go_wp2
    go_ret
    exact ⟨by rw [HR.out]; rfl, k, rfl⟩
end Go.Proofs.YtpdbejeiceodkaaGreatDoor
namespace Go.Proofs.YtpdbejeiceodkaaGreatDoor
open Go.RowKit
set_option linter.unusedSimpArgs false
set_option linter.unusedVariables false
def wpTxH (P : Program) (ops : Array Oper) (S : World → Prop) (Q : Exit → Act → World → Prop) : List (Nat × Bool) → Act → World → Prop
  | [], a, w => Q .normal a w
  | (i, true) :: r, a, w => ∃ o v, ops[i]? = some o ∧ YieldsIf P ops S o v a ∧ wpTxH P ops S Q r (a.put o.dst v) w
  | (i, false) :: r, a, w => ∃ o, ops[i]? = some o ∧ ∀ K : Act → World → Prop, (∀ a w, S w → wpTxH P ops S Q r a w → K a w) → if Region.wanted o (yielded ops a.tmps) = true then Oper.wp P o a w K Q else K (a.put o.dst undef) w
theorem wpTxH_sound {P : Program} {ops : Array Oper} {S : World → Prop} {Q : Exit → Act → World → Prop} (hs : Region.noSelect ops = true)
    (hQ : ∀ c d v a w, Q (.panic c) (Act.put a d v) w → Q (.panic c) a w) :
    ∀ (l : List (Nat × Bool)) (L : Array Bool) (a : Act) (w : World), S w → txCheck ops l L = true → wpTxH P ops S Q l a w → wpAnyH P .any ops Q S l.length L a w := by
  intro l
  induction l with
  | nil =>
    intro L a w _ hc h
    exact wpAnyH_done (by simpa [txCheck] using hc) h 0
  | cons x r ih =>
    intro L a w hS hc h
    obtain ⟨i, b⟩ := x
    cases b with
    | true =>
      obtain ⟨o, v, ho, hy, h⟩ := h
      simp only [txCheck, Bool.and_eq_true] at hc
      exact wpAnyH_take ho hs hc.1.1 hc.1.2 (fun c a w => hQ c _ _ a w) hy hS (ih _ _ _ hS hc.2 h)
    | false =>
      obtain ⟨o, ho, h⟩ := h
      simp only [txCheck, Bool.and_eq_true, beq_iff_eq] at hc
      refine wpAnyH_all hc.1 (by simp) (fun j hj => ?_)
      obtain rfl : j = i := by simpa using hj
      exact wpOp_step ho (fun K hK => h K (fun a w hS' h' => hK a w ⟨hS', ih _ _ _ hS' hc.2 h'⟩))
theorem wp_region_textH {P : Program} {id : Nat} {ops : Array Oper} {Q : Exit → Act → World → Prop} {a : Act} {w : World} (S : World → Prop) (l : List (Nat × Bool)) (hm : P.follows .mixedOrders = true) (hs : Region.noSelect ops = true) (hl : l.length = ops.size) (hc : txCheck ops l (Array.replicate ops.size false) = true)
    (hS : S w.drew) (h : wpTxH P ops S (offPanic Q) l a w.drew) : (Code.region id ops true).wp P Q a w := by
  refine Code.wp_mono (Q := offPanic Q) (fun e a w h => ?_) (wp_region_held (S := S) hm ?_)
  · cases e <;> first | exact h | exact (h : False).elim
  · have := wpTxH_sound (P := P) (Q := offPanic Q) hs (fun _ _ _ _ _ h => h) l _ a w.drew hS hc h
    rw [hl] at this
    exact this
theorem wpTxH_take {P : Program} {ops : Array Oper} {S : World → Prop} {Q : Exit → Act → World → Prop} {i : Nat} {o : Oper} {r : List (Nat × Bool)} {a : Act} {w : World} {v : Value} (ho : ops[i]? = some o) (hw : Region.wanted o (yielded ops a.tmps) = true)
    (hv : ∀ w, S w → (execOp a.eval o).run P w = .ok (.value v) w) (h : wpTxH P ops S Q r (a.put o.dst v) w) : wpTxH P ops S Q ((i, true) :: r) a w := ⟨o, v, ho, .inl ⟨hw, hv⟩, h⟩
theorem wpTxH_step {P : Program} {ops : Array Oper} {S : World → Prop} {Q : Exit → Act → World → Prop} {i : Nat} {o : Oper} {r : List (Nat × Bool)} {a : Act} {w : World} (ho : ops[i]? = some o)
    (h : ∀ K : Act → World → Prop, (∀ a w, S w → wpTxH P ops S Q r a w → K a w) → if Region.wanted o (yielded ops a.tmps) = true then Oper.wp P o a w K Q else K (a.put o.dst undef) w) : wpTxH P ops S Q ((i, false) :: r) a w := ⟨o, ho, h⟩
theorem wpTxH_nil {P : Program} {ops : Array Oper} {S : World → Prop} {Q : Exit → Act → World → Prop} {a : Act} {w : World} (h : Q .normal a w) : wpTxH P ops S (offPanic Q) [] a w := h
end Go.Proofs.YtpdbejeiceodkaaGreatDoor
namespace Go.Proofs.YtpdbejeiceodkaaGreatDoor
open Go.RowKit
set_option linter.unusedSimpArgs false
set_option linter.unusedVariables false
set_option maxRecDepth 1000000
theorem in2 (c : UInt8) : (⟨#[58, 64]⟩ : ByteArray).data.toList.contains c = (c.toNat == 58 || c.toNat == 64) := by
  rw [show (⟨#[58, 64]⟩ : ByteArray).data.toList = [58, 64] from rfl, cont_nat]
  rw [Bool.eq_iff_iff]
  simp
theorem in1 (c : UInt8) : (⟨#[47]⟩ : ByteArray).data.toList.contains c = (c.toNat == 47) := by
  rw [show (⟨#[47]⟩ : ByteArray).data.toList = [47] from rfl, cont_nat]
  rw [Bool.eq_iff_iff]
  simp
theorem trip_not (c : UInt8) (r : List UInt8) (h : (c == 37) = false) : trip (c :: r) = none := trip_first c r (by simpa using h)
def ScPost (s : ByteArray) (w : World) (e : Ending) (w' : World) : Prop := ∃ a b : Int, e = .returned (.tuple #[.int .i64 a, .int .i64 b]) ∧ (b == 0) = (sgn s.data.toList == s.size) ∧ w' = w
theorem sc_ne (i : Nat) (s : ByteArray) (h : i < s.size) (hr : i + 0 = sgn s.data.toList) : (sgn s.data.toList == s.size) = false := by rw [← hr]; simp; omega
set_option maxHeartbeats 8000000 in
theorem scan_any (s : ByteArray) (w : World) (hs : s.size ≤ 1099511627776) : Calls Tryz.prog 184 #[.string s, .int .i64 0, .string ⟨#[47]⟩, .int .i64 53] w (ScPost s w) := by
  go_enter Tryz.func184, Tryz.ntmps184
  go_wp2
  go_loopw [10] (fun iv wr => ∃ i : Nat, iv = .int .i64 i ∧ i ≤ s.size ∧ i + sgn (s.data.toList.drop i) = sgn s.data.toList ∧ w = wr) (fun iv _ => s.size - (intOf iv).toNat)
  case atStart => exact ⟨0, rfl, Nat.zero_le _, Nat.zero_add _, rfl⟩
  case round =>
    obtain ⟨i, rfl, hi, hr, rfl⟩ := hrel
    by_cases hlt : i < s.size
    · have k0 : (0 : Int) ≤ (i : Int) := Int.natCast_nonneg _
      have k1 : (i : Int) < (s.size : Int) := by omega
      have hd := drop_get s i hlt
      have H := Lib.hid (fun w => rtriple_any s i w hlt (by omega))
      obtain ⟨c, hc⟩ : ∃ c, s[i]'hlt = c := ⟨_, rfl⟩
      rw [hc] at hd
      obtain ⟨a, ea⟩ : ∃ a, c.toNat = a := ⟨_, rfl⟩
      have hb := u8_beq c 37 a 37 ea rfl
      have hwi := wrap64_small i (by omega)
      cases hq : (c == 37) with
      | true =>
        rw [hq] at hb
        cases ht : trip (s.data.toList.drop i) with
        | some n =>
          rw [ht] at H
          have h3 := trip_fit s i n hlt ht
          have hw3 := w64p3 i s.size h3 hs
          rw [sgn_trip _ _ ht, List.drop_drop] at hr
          have HR := Lib.hid (And.intro hr h3); have HW := Lib.hid hw3
          clear hr h3 hw3 ht hd hwi hq
          go_wp2_with fail
          refine (H.out _).mono ?_
          rintro e w1 ⟨rfl, hw1⟩
          subst hw1
          go_wp2
          have hw3 := HW.out
          go_roundw
          case rel => (try rw [hw3]); clear hw3; exact ⟨i + 3, by go_num, HR.out.2, by rw [← HR.out.1]; omega, by first | rfl | trivial⟩
          case measure => (try rw [hw3]); clear hw3; have := HR.out.2; simp [intOf]; omega
        | none =>
          rw [ht] at H
          rw [hd] at ht hr
          rw [sgn_bad c _ ht (by rw [beq_iff_eq.1 hq]; exact psg37)] at hr
          have HR := Lib.hid (sc_ne i s hlt hr)
          clear hr ht hd hwi hq
          go_wp2_with fail
          refine (H.out _).mono ?_
          rintro e w1 ⟨rfl, hw1⟩
          subst hw1
          go_wp2
          go_ret2
          exact ⟨_, _, rfl, by rw [HR.out]; rfl, by first | rfl | trivial⟩
      | false =>
        rw [hq] at hb
        have ht := trip_not c (s.data.toList.drop (i + 1)) hq
        rw [hd] at hr
        have HU := Lib.hid (fun w => runr_any c w); have HS := Lib.hid (fun w => rsub_any c w)
        have HI2 := Lib.hid (fun w => rin_any c ⟨#[58, 64]⟩ w (by decide)); have HI1 := Lib.hid (fun w => rin_any c ⟨#[47]⟩ w (by decide))
        rw [in2] at HI2
        rw [in1] at HI1
        rw [ea] at HU HS HI1 HI2
        have HW := Lib.hid hwi
        have hpe : psg a = (unr a || dlm a || (a == 58 || a == 64) || a == 47) := rfl
        cases hp : psg a with
        | true =>
          rw [sgn_one c _ ht (by rw [ea]; exact hp)] at hr
          have HR := Lib.hid hr
          rw [hp] at hpe
          have HPE := Lib.hid hpe
          clear hr hwi ht hd hq hp hpe
          cases q1 : unr a with
          | true =>
            rw [q1] at HU
            clear q1
            go_wp2_with fail
            refine (HU.out _).mono ?_
            rintro e w1 ⟨rfl, hw1⟩
            subst hw1
            go_wp2
            have hwi := HW.out
            go_roundw
            case rel => (try rw [hwi]); clear hwi; exact ⟨i + 1, by go_num, hlt, by rw [← HR.out]; omega, by first | rfl | trivial⟩
            case measure => (try rw [hwi]); clear hwi; simp [intOf]; omega
          | false =>
            rw [q1] at HU
            cases q2 : dlm a with
            | true =>
              rw [q2] at HS
              clear q1 q2
              go_wp2_with fail
              refine (HU.out _).mono ?_
              rintro e w1 ⟨rfl, hw1⟩
              subst hw1
              go_wp2_with fail
              refine (HS.out _).mono ?_
              rintro e w1 ⟨rfl, hw1⟩
              subst hw1
              go_wp2
              have hwi := HW.out
              go_roundw
              case rel => (try rw [hwi]); clear hwi; exact ⟨i + 1, by go_num, hlt, by rw [← HR.out]; omega, by first | rfl | trivial⟩
              case measure => (try rw [hwi]); clear hwi; simp [intOf]; omega
            | false =>
              rw [q2] at HS
              cases q3 : (a == 58 || a == 64) with
              | true =>
                rw [q3] at HI2
                clear q1 q2 q3
                go_wp2_with fail
                refine (HU.out _).mono ?_
                rintro e w1 ⟨rfl, hw1⟩
                subst hw1
                go_wp2_with fail
                refine (HS.out _).mono ?_
                rintro e w1 ⟨rfl, hw1⟩
                subst hw1
                go_wp2_with fail
                refine (HI2.out _).mono ?_
                rintro e w1 ⟨rfl, hw1⟩
                subst hw1
                go_wp2
                have hwi := HW.out
                go_roundw
                case rel => (try rw [hwi]); clear hwi; exact ⟨i + 1, by go_num, hlt, by rw [← HR.out]; omega, by first | rfl | trivial⟩
                case measure => (try rw [hwi]); clear hwi; simp [intOf]; omega
              | false =>
                rw [q3] at HI2
                have q4 : (a == 47) = true := by have := HPE.out; rw [q1, q2, q3] at this; simpa using this.symm
                rw [q4] at HI1
                clear q1 q2 q3 q4
                go_wp2_with fail
                refine (HU.out _).mono ?_
                rintro e w1 ⟨rfl, hw1⟩
                subst hw1
                go_wp2_with fail
                refine (HS.out _).mono ?_
                rintro e w1 ⟨rfl, hw1⟩
                subst hw1
                go_wp2_with fail
                refine (HI2.out _).mono ?_
                rintro e w1 ⟨rfl, hw1⟩
                subst hw1
                go_wp2_with fail
                refine (HI1.out _).mono ?_
                rintro e w1 ⟨rfl, hw1⟩
                subst hw1
                go_wp2
                have hwi := HW.out
                go_roundw
                case rel => (try rw [hwi]); clear hwi; exact ⟨i + 1, by go_num, hlt, by rw [← HR.out]; omega, by first | rfl | trivial⟩
                case measure => (try rw [hwi]); clear hwi; simp [intOf]; omega
        | false =>
          rw [sgn_bad c _ ht (by rw [ea]; exact hp)] at hr
          have HR := Lib.hid (sc_ne i s hlt hr)
          rw [hp] at hpe
          have hpe2 := hpe.symm
          simp only [Bool.or_eq_false_iff] at hpe2
          obtain ⟨⟨⟨q1, q2⟩, q3, q3b⟩, q4⟩ := hpe2
          rw [q1] at HU
          rw [q2] at HS
          rw [q3, q3b] at HI2
          rw [q4] at HI1
          clear hr hwi ht hd hq hp hpe q1 q2 q3 q3b q4
          go_wp2_with fail
          refine (HU.out _).mono ?_
          rintro e w1 ⟨rfl, hw1⟩
          subst hw1
          go_wp2_with fail
          refine (HS.out _).mono ?_
          rintro e w1 ⟨rfl, hw1⟩
          subst hw1
          go_wp2_with fail
          refine (HI2.out _).mono ?_
          rintro e w1 ⟨rfl, hw1⟩
          subst hw1
          go_wp2_with fail
          refine (HI1.out _).mono ?_
          rintro e w1 ⟨rfl, hw1⟩
          subst hw1
          go_wp2
          go_ret2
          exact ⟨_, _, rfl, by rw [HR.out]; rfl, by first | rfl | trivial⟩
    · obtain rfl : i = s.size := by omega
      have hd : decide (s.size < s.size) = false := decide_eq_false (Nat.lt_irrefl _)
      rw [List.drop_eq_nil_of_le (by rw [size_list]; exact Nat.le_refl _), sgn_nil] at hr
      have HR := Lib.hid (show (sgn s.data.toList == s.size) = true by rw [← hr]; simp)
      clear hr
      go_wp2
      go_ret2
      exact ⟨_, _, rfl, by rw [HR.out]; rfl, by first | rfl | trivial⟩
end Go.Proofs.YtpdbejeiceodkaaGreatDoor
