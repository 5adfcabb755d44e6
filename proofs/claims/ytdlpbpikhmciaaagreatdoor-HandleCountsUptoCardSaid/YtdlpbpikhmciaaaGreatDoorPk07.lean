/- WrK, Oct8, HdR: texts of the seat, one behind the other (a claim holds at most sixty). Conditions: each theorem names its own. -/
import Derived.Test.YtdlpbpikhmciaaaGreatDoorPk03
import Derived.Test.YtdlpbpikhmciaaaGreatDoorPk00
import Derived.Lib.AppendStr
import Derived.Lib.OthersKept
import Derived.Test.YtdlpbpikhmciaaaGreatDoorPk04
import Derived.Test.YtdlpbpikhmciaaaGreatDoorPk06
import Derived.Test.YtdlpbpikhmciaaaGreatDoorPk05
import Derived.Shelf.Strings.BuilderK
namespace Go.Proofs.YtdlpbpikhmciaaaGreatDoor
open Go.RowKit
set_option linter.unusedSimpArgs false
set_option linter.unusedVariables false
set_option maxRecDepth 1000000
theorem own_kind {w : World} {B : Nat} {v : Value} {n : Nat} {xs : List Value} (h : w.ownsRow B 5 1 v n xs) : ∀ g, v.ownBlock = some g → ∃ c fz, w.heap[g]? = some (.cells c 5 fz) := by
  intro g hg
  rcases h.2 with ⟨rfl, _⟩ | ⟨g', cap, cur, rfl, _, hgg, _⟩
  · simp [Value.ownBlock] at hg
  · simp [Value.ownBlock] at hg
    subst hg
    exact ⟨cur, _, hgg⟩
theorem copyCheck_k (B b : Nat) (bs : List Value) (w : World) (h : Lib.IsBuilder 83 5 B b bs w) :
    Calls Tryz.prog 70 #[.pointer (some ⟨b, 0, none⟩)] w fun e w' => e = .returned (.tuple #[]) ∧ Lib.BuilderAt 83 5 B b (.pointer (some ⟨b, 0, none⟩)) bs w' ∧ Below B w w' ∧ Lib.OthersKept 5 (some b) w w' := by
  rcases h with h | h
  · refine (copyCheck_fresh b w h.cell0 h.shape h.frozen0).mono ?_
    rintro e w' ⟨rfl, rfl⟩
    exact ⟨rfl, h.used _, (Below.refl B w).setCell (p := ⟨b, 0, none⟩) h.1 _, (Lib.OthersKept.refl _ _ w).setCell ⟨b, 0, none⟩ rfl _⟩
  · refine (copyCheck_used b w h.cell0).mono ?_
    rintro e w' ⟨rfl, rfl⟩
    exact ⟨rfl, h, Below.refl B _, Lib.OthersKept.refl _ _ _⟩
/-- A builder stays while an iterator moves on. -/
theorem bld_iterAt {B b : Nat} {bs : List Value} {w : World} (h : Lib.IsBuilder 83 5 B b bs w) {k : Nat} {s : ByteArray} {pos : Nat} (hk : w.heap[k]? = some (.stringIter s pos)) (pos' : Nat) : Lib.IsBuilder 83 5 B b bs (w.iterAt k s pos') := by
  have key : ∀ p, Lib.BuilderAt 83 5 B b p bs w → Lib.BuilderAt 83 5 B b p bs (w.iterAt k s pos') := fun p ⟨hB, v, hb, hown, hne⟩ => by
    have hkb : b ≠ k := by
      intro e1
      rw [e1, hk] at hb
      cases hb
    refine ⟨hB, v, (Lib.iterAt_other w k b s pos' hkb).trans hb, ⟨hown.1, ?_⟩, hne⟩
    rcases hown.2 with hn | ⟨g, cap, cur, hv, hbg, hg, rest⟩
    · exact .inl hn
    · have hkg : g ≠ k := by
        intro e1
        rw [e1, hk] at hg
        cases hg
      exact .inr ⟨g, cap, cur, hv, hbg, (Lib.iterAt_other w k g s pos' hkg).trans hg, rest⟩
  rcases h with h | h
  · exact .inl (key _ h)
  · exact .inr (key _ h)
theorem bld_laterK {B b : Nat} {T e : TypeId} {bs : List Value} {w w' : World} (h : Lib.IsBuilder T e B b bs w) (hb : Below w.heap.size w w') : Lib.IsBuilder T e B b bs w' := by
  have key : ∀ p, Lib.BuilderAt T e B b p bs w → Lib.BuilderAt T e B b p bs w' := fun p ⟨h1, v, h2, h3, h4⟩ =>
    ⟨h1, v, by rw [hb.block b (Array.getElem?_eq_some_iff.1 h2).1]; exact h2, own_later h3 hb, h4⟩
  rcases h with h | h
  · exact Or.inl (key _ h)
  · exact Or.inr (key _ h)
theorem heap_laterK {w w' : World} {k : Nat} {o : Obj} (h : w.heap[k]? = some o) (hb : Below w.heap.size w w') : w'.heap[k]? = some o := by
  rw [hb.block k (Array.getElem?_eq_some_iff.1 h).1]; exact h
theorem strCells_k (s : ByteArray) : Lib.strCells s = Lib.byteCells s.data.toList := by
  unfold Lib.strCells Lib.byteCells
  rfl
theorem writeString_k (B b : Nat) (acc : List UInt8) (s : ByteArray) (w : World) (h : Lib.IsBuilder 83 5 B b (Lib.byteCells acc) w) (hlen : acc.length + s.size ≤ 140737488355328) (hBw : B ≤ w.heap.size) :
    Calls Tryz.prog 32 #[.pointer (some ⟨b, 0, none⟩), .string s] w fun e w' => e = .returned (.tuple #[.int .i64 (s.size : Int), .nilIface]) ∧ (Lib.IsBuilder 83 5 B b (Lib.byteCells (acc ++ s.data.toList)) w' ∧ Below B w w' ∧ Lib.OthersKept 5 (some b) w w') := by
  obtain ⟨i0, hi, hz0, hz1, hz2⟩ := info_parts infoByte
  have hbl : (Lib.byteCells acc).length + s.size ≤ 140737488355328 := by rw [Lib.byteCells_length]; exact hlen
  rw [Lib.byteCells_append, ← strCells_k]
  generalize Lib.byteCells acc = bs at h hbl ⊢
  clear hlen
  go_enter Tryz.func32, Tryz.ntmps32
  go_wp2_with (go_at_call 70; refine (copyCheck_k B b bs _ h).mono ?_)
  rintro e w1 ⟨rfl, h1, hb1, hk1⟩
  obtain ⟨hB, v, hbk, hown, hne⟩ := h1
  have c0 : w1.cell? ⟨b, 0, none⟩ = some (.pointer (some ⟨b, 0, none⟩)) := by rw [Lib.cell_of_heap hbk]; rfl
  have c1 : w1.cell? ⟨b, 1, none⟩ = some v := by rw [Lib.cell_of_heap hbk]; rfl
  have hbs := hb1.size
  go_wp2_with (at_builtin; refine Lib.wpList_append_own_string _ rfl (.tmp 12) (.tmp 13) 81 9 rfl B 5 i0 Tryz.underlying81 Tryz.underlying9 hi hz0 hz1 hz2 _ _ _ rfl hown _ rfl ?c3 ?c4 ?c5 ?_)
  case c3 => unfold maxLen; omega
  case c4 => exact hbl
  case c5 => omega
  intro v' w2 hown' hgrow _
  have hlt : b < w1.heap.size := (Array.getElem?_eq_some_iff.1 hbk).1
  have hb2 : w2.heap[b]? = some (.cells #[.pointer (some ⟨b, 0, none⟩), v] 83 (0, 0)) := by
    rw [hgrow.block b hlt (fun e => hne e.symm)]
    exact hbk
  have d0 : w2.cell? ⟨b, 0, none⟩ = some (.pointer (some ⟨b, 0, none⟩)) := by rw [Lib.cell_of_heap hb2]; rfl
  have d1 : w2.cell? ⟨b, 1, none⟩ = some v := by rw [Lib.cell_of_heap hb2]; rfl
  have f1 : w2.frozen? ⟨b, 1, none⟩ = false := Lib.frozen_of_heap hb2 1
  have hsl : ∃ a n c, v' = .slice a n c := by
    rcases hown'.2 with ⟨rfl, _⟩ | ⟨g, cap, cur, hv, _⟩
    · exact ⟨_, _, _, rfl⟩
    · exact ⟨_, _, _, hv⟩
  obtain ⟨a, n, cp, rfl⟩ := hsl
  have hput := Lib.BuilderAt.put (T := 83) (e := 5) (p := .pointer (some ⟨b, 0, none⟩)) hB hb2 (bs' := bs ++ Lib.strCells s) (by rw [List.length_append, Lib.strCells_length]; exact hown') (by decide)
  have hbw := ((hb1.grown hgrow (by omega) (fun k hk => (hown.lt k hk).1))).setCell (p := ⟨b, 1, none⟩) hB (.slice a n cp)
  have hkp := (hk1.grown hgrow (own_kind hown)).setCell ⟨b, 1, none⟩ rfl (.slice a n cp)
  have HP := Lib.hid (And.intro hput (And.intro hbw hkp))
  clear hput hbw hkp hk1 hown hown' hgrow hb1 hb2 hbk
  go_wp2
  go_ret2
  exact ⟨rfl, Or.inr HP.out.1, HP.out.2.1, HP.out.2.2⟩
end Go.Proofs.YtdlpbpikhmciaaaGreatDoor
namespace Go.Proofs.YtdlpbpikhmciaaaGreatDoor
open Go.RowKit
set_option linter.unusedSimpArgs false
set_option linter.unusedVariables false
set_option maxRecDepth 1000000
theorem last_list (t : ByteArray) (j : Nat) (h : j + 1 = t.size) (c : UInt8) (hc : t.data.toList[j]? = some c) : t.data.toList = t.data.toList.take j ++ [c] := by
  have hl : t.data.toList.length = j + 1 := by rw [size_list, h]
  have := List.take_append_drop j t.data.toList
  obtain ⟨hlt, he⟩ := List.getElem?_eq_some_iff.1 hc
  rw [List.drop_eq_getElem_cons hlt, he, List.drop_eq_nil_of_le (by omega)] at this
  exact this.symm
theorem list_nil_o (t : ByteArray) (h : t.size = 0) : t.data.toList = [] := List.eq_nil_of_length_eq_zero (by rw [size_list]; exact h)
set_option maxHeartbeats 4000000 in
theorem rtrim_any (s : ByteArray) (w : World) (hs : s.size ≤ 1099511627776) :
    Calls Tryz.prog 37 #[.string s] w fun e w' => e = .returned (.string ⟨(trimL s.data.toList).toArray⟩) ∧ w' = w := by
  go_enter Tryz.func37, Tryz.ntmps37
  go_wp2
  go_loopw [0] (fun v wr => ∃ t : ByteArray, v = .string t ∧ t.size ≤ s.size ∧ t.data.toList.dropWhile isBl = s.data.toList.dropWhile isBl ∧ wr = w) (fun v _ => match v with | .string t => t.size | _ => 0)
  case atStart => exact ⟨s, rfl, Nat.le_refl _, rfl, rfl⟩
  case round =>
    obtain ⟨t, rfl, hts, hdw, rfl⟩ := hrel
    by_cases h0 : t.size = 0
    · have hd1 : trimL s.data.toList = trimR t.data.toList := by rw [trimL_eq, ← hdw, list_nil_o t h0]; rfl
      have e0 : t.toList.isEmpty = true := by rw [ByteArray.toList_eq, list_nil_o t h0]; rfl
      have e1 : t.toList = [] := by rw [ByteArray.toList_eq, list_nil_o t h0]
      have HD := Lib.hid (And.intro hd1 hts)
      clear hd1 hdw h0 hts
      go_wp2
      go_loopw [0] (fun v wq => ∃ u : ByteArray, v = .string u ∧ u.size ≤ s.size ∧ trimR u.data.toList = trimR t.data.toList ∧ wq = wr) (fun v _ => match v with | .string t => t.size | _ => 0)
      case atStart => exact ⟨t, rfl, HD.out.2, rfl, rfl⟩
      case round =>
        clear e0 e1
        obtain ⟨u, rfl, hus, htr, rfl⟩ := hrel
        by_cases h0 : u.size = 0
        · have hres : trimL s.data.toList = [] := by rw [HD.out.1, ← htr, list_nil_o u h0]; rfl
          obtain rfl := emp_o u h0
          have HRS := Lib.hid hres
          clear hres htr h0
          go_wp2
          go_ret
          exact ⟨by rw [HRS.out]; rfl, rfl⟩
        · have hpos : 0 < u.size := by omega
          obtain ⟨j, hj⟩ : ∃ j, j + 1 = u.size := ⟨u.size - 1, by omega⟩
          have hlt : j < u.size := by omega
          obtain ⟨c, hc⟩ : ∃ c, u[j]'hlt = c := ⟨_, rfl⟩
          have hget := list_get u j hlt
          rw [hc] at hget
          have hlast := last_list u j hj c hget
          have e0 := full_o u hpos
          have e1 := full_o2 u hpos
          have f1 : (u.size : Int) - 1 = (j : Int) := by omega
          have p0 : (0 : Int) ≤ (j : Int) := by omega
          have p1 : (j : Int) < (u.size : Int) := by omega
          have p2 : (j : Int) ≤ (u.size : Int) := by omega
          have HJ := Lib.hid hj
          clear h0 hget hj
          cases hb : isBl c with
          | true =>
            have hx : trimR (u.data.toList.take j) = trimR t.data.toList := by rw [← htr, hlast, trimR_snoc_bl _ _ hb, List.take_append_of_le_length (by rw [List.length_take, size_list]; omega), List.take_take, Nat.min_self]
            have hsz : (u.extract 0 j).size < u.size ∧ (u.extract 0 j).size ≤ s.size := by rw [ext_front, size_mk, List.length_take, size_list]; omega
            have HX := Lib.hid (And.intro hx (And.intro hb hsz))
            clear hx hb hsz htr hlast
            go_wp2_with fail
            refine (rblank_any c _).mono ?_
            rintro e w ⟨rfl, rfl⟩
            rw [HX.out.2.1]
            go_wp2
            go_roundw
            case rel => exact ⟨_, rfl, HX.out.2.2.2, by rw [ext_front]; exact HX.out.1, by first | rfl | trivial⟩
            case measure => exact HX.out.2.2.1
          | false =>
            have hres : trimL s.data.toList = u.data.toList := by rw [HD.out.1, ← htr, hlast, trimR_snoc_other _ _ hb]
            have HX := Lib.hid (And.intro hres hb)
            clear hres hb htr hlast
            go_wp2_with fail
            refine (rblank_any c _).mono ?_
            rintro e w ⟨rfl, rfl⟩
            rw [HX.out.2]
            go_wp2
            go_ret
            refine ⟨?_, rfl⟩
            rw [HX.out.1, str_eq]; rfl
    · have hpos : 0 < t.size := by omega
      obtain ⟨c, hc⟩ : ∃ c, t[0]'hpos = c := ⟨_, rfl⟩
      have hget := drop_get t 0 hpos
      rw [hc, List.drop_zero] at hget
      have e0 := full_o t hpos
      have e1 := full_o2 t hpos
      have p0 : (0 : Int) < (t.size : Int) := by omega
      clear h0
      cases hb : isBl c with
      | true =>
        have hx : (t.data.toList.drop 1).dropWhile isBl = s.data.toList.dropWhile isBl := by rw [← hdw, hget, List.dropWhile_cons_of_pos hb]; rfl
        have hsz : (t.extract 1 t.size).size < t.size ∧ (t.extract 1 t.size).size ≤ s.size := by rw [ext_back, size_mk, List.length_drop, size_list]; omega
        have hp1 : (1 : Int) ≤ (t.size : Int) := by omega
        have HX := Lib.hid (And.intro hx (And.intro hb hsz))
        clear hx hb hsz hdw hget
        go_wp2_with fail
        refine (rblank_any c _).mono ?_
        rintro e w ⟨rfl, rfl⟩
        rw [HX.out.2.1]
        go_wp2
        go_roundw
        case rel => exact ⟨_, rfl, HX.out.2.2.2, by rw [ext_back]; exact HX.out.1, by first | rfl | trivial⟩
        case measure => exact HX.out.2.2.1
      | false =>
        have hd1 : trimL s.data.toList = trimR t.data.toList := by rw [trimL_eq, ← hdw, hget, List.dropWhile_cons_of_neg (by rw [hb]; simp)]
        have HB := Lib.hid hb
        have HD := Lib.hid (And.intro hd1 hts)
        clear hd1 hdw hb hts hget
        go_wp2_with fail
        refine (rblank_any c _).mono ?_
        rintro e w ⟨rfl, rfl⟩
        rw [HB.out]
        clear e0 e1 p0 hc HB hpos
        go_wp2
        go_loopw [0] (fun v wq => ∃ u : ByteArray, v = .string u ∧ u.size ≤ s.size ∧ trimR u.data.toList = trimR t.data.toList ∧ wq = w) (fun v _ => match v with | .string t => t.size | _ => 0)
        case atStart => exact ⟨t, rfl, HD.out.2, rfl, rfl⟩
        case round =>
          obtain ⟨u, rfl, hus, htr, rfl⟩ := hrel
          by_cases h0 : u.size = 0
          · have hres : trimL s.data.toList = [] := by rw [HD.out.1, ← htr, list_nil_o u h0]; rfl
            obtain rfl := emp_o u h0
            have HRS := Lib.hid hres
            clear hres htr h0
            go_wp2
            go_ret
            exact ⟨by rw [HRS.out]; rfl, rfl⟩
          · have hpos : 0 < u.size := by omega
            obtain ⟨j, hj⟩ : ∃ j, j + 1 = u.size := ⟨u.size - 1, by omega⟩
            have hlt : j < u.size := by omega
            obtain ⟨c, hc⟩ : ∃ c, u[j]'hlt = c := ⟨_, rfl⟩
            have hget := list_get u j hlt
            rw [hc] at hget
            have hlast := last_list u j hj c hget
            have e0 := full_o u hpos
            have e1 := full_o2 u hpos
            have f1 : (u.size : Int) - 1 = (j : Int) := by omega
            have p0 : (0 : Int) ≤ (j : Int) := by omega
            have p1 : (j : Int) < (u.size : Int) := by omega
            have p2 : (j : Int) ≤ (u.size : Int) := by omega
            have HJ := Lib.hid hj
            clear h0 hget hj
            cases hb : isBl c with
            | true =>
              have hx : trimR (u.data.toList.take j) = trimR t.data.toList := by rw [← htr, hlast, trimR_snoc_bl _ _ hb, List.take_append_of_le_length (by rw [List.length_take, size_list]; omega), List.take_take, Nat.min_self]
              have hsz : (u.extract 0 j).size < u.size ∧ (u.extract 0 j).size ≤ s.size := by rw [ext_front, size_mk, List.length_take, size_list]; omega
              have HX := Lib.hid (And.intro hx (And.intro hb hsz))
              clear hx hb hsz htr hlast
              go_wp2_with fail
              refine (rblank_any c _).mono ?_
              rintro e w ⟨rfl, rfl⟩
              rw [HX.out.2.1]
              go_wp2
              go_roundw
              case rel => exact ⟨_, rfl, HX.out.2.2.2, by rw [ext_front]; exact HX.out.1, by first | rfl | trivial⟩
              case measure => exact HX.out.2.2.1
            | false =>
              have hres : trimL s.data.toList = u.data.toList := by rw [HD.out.1, ← htr, hlast, trimR_snoc_other _ _ hb]
              have HX := Lib.hid (And.intro hres hb)
              clear hres hb htr hlast
              go_wp2_with fail
              refine (rblank_any c _).mono ?_
              rintro e w ⟨rfl, rfl⟩
              rw [HX.out.2]
              go_wp2
              go_ret
              refine ⟨?_, rfl⟩
              rw [HX.out.1, str_eq]; rfl
end Go.Proofs.YtdlpbpikhmciaaaGreatDoor
namespace Go.Proofs.YtdlpbpikhmciaaaGreatDoor
open Go.RowKit Go.Shelf
set_option linter.unusedSimpArgs false
set_option linter.unusedVariables false
set_option maxRecDepth 1000000
theorem ext_list (s : ByteArray) (a b : Nat) : (s.extract a b).data.toList = seg s.data.toList a b := by
  rw [ext_mk]; simp [seg]
theorem ext_seg (s : ByteArray) (a b : Nat) : s.extract a b = ⟨(seg s.data.toList a b).toArray⟩ := ext_mk s a b
theorem ext_size (s : ByteArray) (a b : Nat) (h : b ≤ s.size) : (s.extract a b).size ≤ s.size := by
  rw [← size_list, ext_list]
  unfold seg
  rw [List.length_take, List.length_drop, size_list]
  omega
theorem toL (s : ByteArray) : s.toList = s.data.toList := ByteArray.toList_eq s
theorem bldStr (B b : Nat) (l : List UInt8) (w : World) (h : Lib.IsBuilder 83 5 B b (Lib.byteCells l) w) (hB : B ≤ w.heap.size) :
    Calls Tryz.prog 35 #[.pointer (some ⟨b, 0, none⟩)] w fun e w' => e = .returned (.string ⟨l.toArray⟩) ∧ Below B w w' ∧ Lib.OthersKept 5 (some b) w w' :=
  (Any.Builder_String_any_k Tryz.lays169 Tryz.Builder_Extra_169 B b l w (Lib.IsBuilderF.of h) hB).mono fun e w' ⟨he, _, h1, h2⟩ => ⟨he, h1, h2⟩
theorem pos20 (pos n : Nat) (h : pos ≤ n) (hn : n ≤ 1048576) : pos * 1048577 ≤ 1099512676352 := by
  have := Nat.mul_le_mul_right 1048577 (Nat.le_trans h hn)
  omega
theorem bd_open (a k pos n : Nat) (h : a + k ≤ pos * 1048577) (hp : pos ≤ n) (hn : n ≤ 1048576) : a + k ≤ 140737488355328 := by have := pos20 pos n hp hn; omega
theorem bd_shut (a k pos n : Nat) (h : a ≤ pos * 1048577) (hk : k ≤ 1048576) (hp : pos ≤ n) (hn : n ≤ 1048576) : a + k ≤ 140737488355328 := by have := pos20 pos n hp hn; omega
/-- What stands at a round's head. -/
def RfW (w : World) (b it : Nat) (s : ByteArray) (ps : List Par) (fv av : Int) (pos : Nat) (wr : World) : Prop :=
  ∃ acc, RfR ps s.data.toList fv av pos acc ∧ Lib.IsBuilder 83 5 b b (Lib.byteCells acc) wr ∧ wr.heap[it]? = some (.stringIter s pos) ∧ Below w.heap.size w wr
set_option maxHeartbeats 8000000 in
theorem orefer_any (s : ByteArray) (v : Value) (ps : List Par) (w : World) (hs : s.size ≤ 1048576) (hN : totP ps + ps.length ≤ 1048576) (h : ParsIn w v ps) :
    Calls Tryz.prog 12 #[.string s, v] w fun e w' => e = .returned (.tuple #[.string ⟨(rfT ps s.data.toList).1.toArray⟩, .int .i64 ((rfT ps s.data.toList).2 : Nat)]) ∧ Below w.heap.size w w' := by
  by_cases h0 : s.size = 0
  · have hT := rfT_bad ps s.data.toList (refR_empty ps _ (by rw [list_nil_o s h0]; rfl))
    have HT := Lib.hid hT
    obtain rfl := emp_o s h0
    clear hT h0
    go_enter Tryz.func12, Tryz.ntmps12
    go_wp2
    go_ret2
    rw [HT.out]
    exact ⟨rfl, Below.refl _ _⟩
  · have hemp : s.data.toList.isEmpty = false := by rw [← toL]; exact full_o s (by omega)
    have f1 : s.toList.isEmpty = false := full_o s (by omega)
    have f2 : ¬ s.toList = [] := full_o2 s (by omega)
    have htr := otrim_any s w (by omega)
    obtain ⟨t, ht⟩ : ∃ t : ByteArray, ⟨(trimL s.data.toList).toArray⟩ = t := ⟨_, rfl⟩
    rw [ht] at htr
    have hTL : t.toList = trimL s.data.toList := by rw [← ht, toL]
    have HTR := Lib.hid htr
    clear htr
    by_cases hT : (trimL s.data.toList == s.data.toList) = true
    case neg =>
      have hTf : (trimL s.data.toList == s.data.toList) = false := by simpa using hT
      have HR := Lib.hid (rfT_bad ps _ (refR_notrim ps _ hTf))
      have e1 : (t.toList == s.toList) = false := by rw [hTL, toL]; exact hTf
      clear hT hTf hTL ht
      go_enter Tryz.func12, Tryz.ntmps12
      go_wp2_with fail
      refine (HTR.out).mono ?_
      rintro e w1 ⟨rfl, hb1⟩
      have HB := Lib.hid hb1
      clear hb1
      go_wp2
      go_ret2
      rw [HR.out]
      exact ⟨rfl, HB.out⟩
    have e1 : (t.toList == s.toList) = true := by rw [hTL, toL]; exact hT
    cases hF : isFld s.data.toList with
    | false =>
      have HR := Lib.hid (rfT_bad ps _ (refR_nofld ps _ hF))
      have HF := Lib.hid hF
      clear hT hTL ht hF
      go_enter Tryz.func12, Tryz.ntmps12
      go_wp2_with fail
      refine (HTR.out).mono ?_
      rintro e w1 ⟨rfl, hb1⟩
      have HB := Lib.hid hb1
      clear hb1
      go_wp2_with fail
      refine (oisfield_any s _ (by omega)).mono ?_
      rintro e w2 ⟨rfl, rfl⟩
      rw [HF.out]
      go_wp2
      go_ret2
      rw [HR.out]
      exact ⟨rfl, HB.out⟩
    | true =>
    have HGO := Lib.hid (refR_go ps _ hemp hF hT)
    have HF := Lib.hid hF
    have HP := Lib.hid h
    have HVL := Lib.hid (show ∀ n, (valL ps n).length ≤ 1048576 from fun n => by have := valL_len n ps; omega)
    clear hT hTL ht hF hemp h
    go_enter Tryz.func12, Tryz.ntmps12
    go_wp2_with fail
    refine (HTR.out).mono ?_
    rintro e w1 ⟨rfl, hb1⟩
    have HB := Lib.hid hb1
    clear hb1 HTR
    go_wp2_with fail
    refine (oisfield_any s _ (by omega)).mono ?_
    rintro e w2 ⟨rfl, rfl⟩
    rw [HF.out]
    clear HF
    obtain ⟨b, hb⟩ : ∃ b, w2.heap.size = b := ⟨_, rfl⟩
    obtain ⟨it, hit⟩ : ∃ it, b + 1 = it := ⟨_, rfl⟩
    obtain ⟨W0, hW0⟩ : ∃ W0, (w2.alloc (.cells #[.pointer none, .slice none 0 0] 83)).iter s 0 = W0 := ⟨_, rfl⟩
    have hst : RfW w b it s ps (-1) 0 0 W0 := by
      have hb2 : Below w.heap.size w ((w2.alloc (.cells #[.pointer none, .slice none 0 0] 83)).iter s 0) := (HB.out.alloc HB.out.size _).alloc (by have := HB.out.size; simp; omega) _
      have hI := World.iter_heap (w2.alloc (.cells #[.pointer none, .slice none 0 0] 83)) s 0
      rw [World.size_alloc, hb, hit] at hI
      have hB := Lib.fresh_isBuilder 83 5 w2
      rw [hb] at hB
      rw [← hW0]
      exact ⟨[], rfr_start ps _, bld_laterK hB ((Below.refl _ _).alloc (Nat.le_refl _) _), hI, hb2⟩
    have HST := Lib.hid hst; have HW0 := Lib.hid hW0; have HBI := Lib.hid (And.intro hb hit)
    clear hst hW0
    go_wp2
    rw [HW0.out]
    go_loopw [7, 8] (fun fv av wr => ∃ (f a : Int) (pos : Nat), fv = .int .i64 f ∧ av = .int .i64 a ∧ pos ≤ s.size ∧ RfW w b it s ps f a pos wr) (fun _ _ wr => s.size - wr.iterPos it)
    case atStart => exact ⟨-1, 0, 0, rfl, rfl, Nat.zero_le _, HST.out⟩
    case round =>
      obtain ⟨f, a, pos, rfl, rfl, hpos, acc, hR, hB, hI, hbw⟩ := hrel
      clear HST HW0
      have hbs : b ≤ wr.heap.size := by
        rcases hB with h | h
        · exact Nat.le_of_lt h.lt
        · exact Nat.le_of_lt h.lt
      have hbit : w.heap.size ≤ b := by rw [← HBI.out.1]; exact HB.out.size
      by_cases hp : pos < s.size
      case neg =>
        obtain rfl : pos = s.size := by omega
        have hnx : ∀ ty, (Instr.next (.pointer (some ⟨it, 0, none⟩)) true ty).run Tryz.prog wr = .ok (.tuple #[.bool false]) wr := fun ty => Lib.run_next_end_at wr it s s.size ty hI (Nat.lt_irrefl _)
        rcases rfr_cases _ _ _ _ _ _ hR with rfl | ⟨fN, rfl⟩
        · obtain ⟨aN, rfl, ha1, ha2, ha3⟩ := rfr_end ps _ _ _ _ hR (size_list s).symm
          have HX := Lib.hid (rfT_good ps _ _ (HGO.out.trans ha3))
          have HBW := Lib.hid hbw; have HBB := Lib.hid (And.intro hB hbs)
          have q0 : (0 : Int) ≤ (aN : Int) := Int.natCast_nonneg _
          have q1 : (aN : Int) ≤ (s.size : Int) := by omega
          have bd := bd_open _ _ _ _ ha2 (Nat.le_refl _) hs
          have nof : ¬ 9223372036854775807 < acc.length + (s.size - aN) := by omega
          have hts : List.take (s.size - aN) (List.drop aN s.data.toList) = List.drop aN s.data.toList := List.take_of_length_le (by rw [List.length_drop, size_list]; exact Nat.le_refl _)
          have HC := Lib.hid (show (⟨acc.toArray⟩ : ByteArray) ++ s.extract aN s.size = ⟨(acc ++ s.data.toList.drop aN).toArray⟩ by rw [ext_back]; exact ba_ext (by simp))
          clear hR hB hI hbw ha3 ha2
          go_upto_region 19 with fail
          refine wp_region_text [(1, true), (2, true), (3, true), (0, false), (4, true), (5, true), (6, true)] (by kernel_rfl) (by kernel_rfl) (by kernel_rfl) (by kernel_rfl) ?_
          iterate 3 (refine wpTx_take rfl (by rfl) (v := ?_) ?_ ?_; rotate_left; · (intro w; go_simp; with_reducible rfl))
          refine wpTx_step rfl (fun K hK => ?_)
          go_simp
          refine (bldStr b b acc _ (bld_laterK HBB.out.1 ((Below.refl _ wr).drew)) HBB.out.2).mono ?_
          rintro e w5 ⟨rfl, hb5, _⟩
          refine hK _ _ ?_
          clear hK K
          have HB5 := Lib.hid (HBW.out.trans (((Below.refl _ wr).drew.trans hb5).mono hbit))
          clear hb5
          iterate 3 (refine wpTx_take rfl (by rfl) (v := ?_) ?_ ?_; rotate_left; · (intro w; go_simp; with_reducible rfl))
          refine wpTx_nil ?_
          go_simp
          go_wp2
          go_ret2
          rw [HX.out]
          refine ⟨?_, HB5.out⟩
          show Ending.returned (.tuple #[.string (⟨acc.toArray⟩ ++ s.extract aN s.size), .int .i64 0]) = _
          rw [HC.out]
          rfl
        · have HX := Lib.hid (rfT_bad ps _ (HGO.out.trans (rfr_endbad ps _ _ _ _ _ hR (size_list s).symm)))
          have HBW := Lib.hid hbw
          have q0 : (0 : Int) ≤ (fN : Int) := Int.natCast_nonneg _
          clear hR hB hI hbw
          go_wp2
          go_ret2
          rw [HX.out]
          exact ⟨rfl, HBW.out⟩
      obtain ⟨c, hc⟩ : ∃ c, s[pos]'hp = c := ⟨_, rfl⟩
      have hget := list_get s pos hp
      rw [hc] at hget
      obtain ⟨x, hx⟩ : ∃ x, c.toNat = x := ⟨_, rfl⟩
      by_cases hlow : x < 128
      case neg =>
        obtain ⟨r, hr⟩ : ∃ r, (Utf8.decode s pos).1 = r := ⟨_, rfl⟩
        obtain ⟨n, hn⟩ : ∃ n, (Utf8.decode s pos).2 = n := ⟨_, rfl⟩
        obtain ⟨ra, ra1, ra2, ra3, ra4, ra5, ra6, ra7⟩ := rune_high s pos hp (by rw [hc, hx]; omega)
        rw [hn] at ra1 ra3 ra4 ra5 ra7
        rw [hr] at ra6
        have hR4 := rfr_high ps _ _ _ _ _ _ _ hR ra1 ra7 ra3 ra2
        obtain ⟨W4, hW4⟩ : ∃ W, wr.iterAt it s (pos + n) = W := ⟨_, rfl⟩
        have hnx : ∀ ty, (Instr.next (.pointer (some ⟨it, 0, none⟩)) true ty).run Tryz.prog wr = .ok (.tuple #[.bool true, .int .i64 pos, .int .i32 r]) W4 := fun ty => by
          rw [Lib.run_next_any_at wr it s pos ty hI hp, hr, hn, hW4]
        have hB4 : Lib.IsBuilder 83 5 b b (Lib.byteCells acc) W4 := by rw [← hW4]; exact bld_iterAt hB hI _
        have hI4 : W4.heap[it]? = some (.stringIter s (pos + n)) := by rw [← hW4]; exact Lib.iterAt_heap _ _ _ _ _ hI
        have hb4 : Below w.heap.size w W4 := by rw [← hW4]; exact Lib.below_iterAt hbw (by have := HBI.out.2; omega) _ _
        have hm0 : wr.iterPos it = pos := by simp [World.iterPos, hI]
        have hm4 : W4.iterPos it = pos + n := by simp [World.iterPos, hI4]
        have H4 := Lib.hid (show RfW w b it s ps f a (pos + n) W4 from ⟨acc, hR4, hB4, hI4, hb4⟩)
        have HM := Lib.hid (And.intro hm0 (And.intro hm4 (And.intro ra4 ra5)))
        have i1 : ((r : Int) == 123) = false := by simp; omega
        have i2 : ((r : Int) == 125) = false := by simp; omega
        clear hW4 hB4 hI4 hb4 hm0 hm4 hx hget hc hB hI hbw hbs hR hR4 ra1 ra2 ra3 ra4 ra5 ra6 ra7 hr hn hlow hpos
        go_wp2
        go_roundw
        case rel => exact ⟨f, a, pos + n, rfl, rfl, HM.out.2.2.1, H4.out⟩
        case measure => rw [HM.out.1, HM.out.2.1]; have := HM.out.2.2; omega
      obtain ⟨W4, hW4⟩ : ∃ W, wr.iterAt it s (pos + 1) = W := ⟨_, rfl⟩
      have hnx : ∀ ty, (Instr.next (.pointer (some ⟨it, 0, none⟩)) true ty).run Tryz.prog wr = .ok (.tuple #[.bool true, .int .i64 pos, .int .i32 x]) W4 := fun ty => by
        rw [Lib.run_next_ascii_at wr it s pos ty hI hp (by rw [hc, hx]; exact hlow), hc, hx, hW4]
      have hB4 : Lib.IsBuilder 83 5 b b (Lib.byteCells acc) W4 := by rw [← hW4]; exact bld_iterAt hB hI _
      have hI4 : W4.heap[it]? = some (.stringIter s (pos + 1)) := by rw [← hW4]; exact Lib.iterAt_heap _ _ _ _ _ hI
      have hb4 : Below w.heap.size w W4 := by rw [← hW4]; exact Lib.below_iterAt hbw (by have := HBI.out.2; omega) _ _
      have hs4 : b ≤ W4.heap.size := by rw [← hW4, Lib.iterAt_size]; exact hbs
      have hm0 : wr.iterPos it = pos := by simp [World.iterPos, hI]
      have H4 := Lib.hid (And.intro hB4 (And.intro hI4 (And.intro hb4 hs4)))
      have HM0 := Lib.hid hm0; have HXC := Lib.hid (And.intro hx hget)
      clear hW4 hB4 hI4 hb4 hs4 hm0 hx hget hc hB hI hbw hbs
      by_cases h123 : x = 123
      · have i1 : ((x : Int) == 123) = true := by subst h123; rfl
        have i2 : ((x : Int) == 125) = false := by subst h123; rfl
        rcases rfr_cases _ _ _ _ _ _ hR with rfl | ⟨fN, rfl⟩
        · obtain ⟨aN, rfl, ha1, ha2, hR5⟩ := rfr_open ps _ _ _ _ c hR HXC.out.2 (by rw [HXC.out.1]; exact h123) (by rw [size_list]; exact hpos)
          have q0 : (0 : Int) ≤ (aN : Int) := Int.natCast_nonneg _
          have q1 : (aN : Int) ≤ (pos : Int) := by omega
          have q2 : (pos : Int) ≤ (s.size : Int) := by omega
          have bd := bd_open _ _ _ _ ha2 hpos hs
          have hwi := w64o pos (by omega)
          have HR5 := Lib.hid (And.intro hR5 (And.intro hwi bd))
          clear hR hR5 hwi bd ha2 h123
          go_wp2_with fail
          refine (writeString_k b b acc (s.extract aN pos) W4 H4.out.1 (by rw [← size_list, ext_list, seg_len _ _ _ (by rw [size_list]; exact hpos) ha1]; exact HR5.out.2.2) H4.out.2.2.2).mono ?_
          rintro e w5 ⟨rfl, hB5, hb5, hk5⟩
          rw [ext_list] at hB5
          have hI5 := hk5.iter H4.out.2.1 (by have := HBI.out.2; omega)
          have hm5 : w5.iterPos it = pos + 1 := by simp [World.iterPos, hI5]
          have HX := Lib.hid (show RfW w b it s ps ((pos + 1 : Nat) : Int) (aN : Int) (pos + 1) w5 from ⟨_, HR5.out.1, hB5, hI5, H4.out.2.2.1.trans (hb5.mono hbit)⟩)
          have HM5 := Lib.hid hm5
          clear hB5 hb5 hk5 hI5 hm5
          go_wp2
          have hwi := HR5.out.2.1
          go_roundw
          case rel => (try rw [hwi]); clear hwi; exact ⟨_, _, pos + 1, by go_num, rfl, hp, HX.out⟩
          case measure => (try rw [hwi]); clear hwi; rw [HM0.out, HM5.out]; omega
        · have HX := Lib.hid (rfT_bad ps _ (HGO.out.trans (rfr_openbad ps _ _ _ _ _ c hR HXC.out.2 (by rw [HXC.out.1]; exact h123))))
          have q0 : (0 : Int) ≤ (fN : Int) := Int.natCast_nonneg _
          clear hR h123
          go_wp2
          go_ret2
          rw [HX.out]
          exact ⟨rfl, H4.out.2.2.1⟩
      have i1 : ((x : Int) == 123) = false := by simp; omega
      by_cases h125 : x = 125
      · have i2 : ((x : Int) == 125) = true := by subst h125; rfl
        rcases rfr_cases _ _ _ _ _ _ hR with rfl | ⟨fN, rfl⟩
        · have HX := Lib.hid (rfT_bad ps _ (HGO.out.trans (rfr_stray ps _ _ _ _ c hR HXC.out.2 (by rw [HXC.out.1]; exact h125))))
          clear hR h125 h123
          go_wp2
          go_ret2
          rw [HX.out]
          exact ⟨rfl, H4.out.2.2.1⟩
        · have hfp := rfr_le ps _ _ _ _ _ hR
          have q0 : (0 : Int) ≤ (fN : Int) := Int.natCast_nonneg _
          have q1 : (fN : Int) ≤ (pos : Int) := by omega
          have q2 : (pos : Int) ≤ (s.size : Int) := by omega
          have hnm := fun W => oisname_any (s.extract fN pos) W (by have := ext_size s fN pos hpos; omega)
          rw [ext_list] at hnm
          cases hN2 : isNm (seg s.data.toList fN pos) with
          | false =>
            have HX := Lib.hid (rfT_bad ps _ (HGO.out.trans (rfr_badname ps _ _ _ _ _ c hR HXC.out.2 (by rw [HXC.out.1]; exact h125) hN2)))
            rw [hN2] at hnm
            have HNM := Lib.hid hnm
            clear hR h125 h123 hnm hN2 hfp
            go_wp2_with fail
            refine (HNM.out _).mono ?_
            rintro e w5 ⟨rfl, hb5⟩
            have HB5 := Lib.hid (H4.out.2.2.1.trans (hb5.mono H4.out.2.2.1.size))
            clear hb5
            go_wp2
            go_ret2
            rw [HX.out]
            exact ⟨rfl, HB5.out⟩
          | true =>
            obtain ⟨hal, hR5⟩ := rfr_shut ps _ _ _ _ _ c hR HXC.out.2 (by rw [HXC.out.1]; exact h125) hN2 (HVL.out _)
            rw [hN2] at hnm
            have hwi := w64o pos (by omega)
            have bd := bd_shut _ _ _ _ hal (HVL.out (seg s.data.toList fN pos)) hpos hs
            have HNM := Lib.hid hnm; have HR5 := Lib.hid (And.intro hR5 (And.intro hwi bd))
            clear hR h125 h123 hnm hN2 hfp hal hR5 hwi bd
            go_wp2_with fail
            refine (HNM.out _).mono ?_
            rintro e w5 ⟨rfl, hb5⟩
            have H5 := Lib.hid (show Lib.IsBuilder 83 5 b b (Lib.byteCells acc) w5 ∧ w5.heap[it]? = some (.stringIter s (pos + 1)) ∧ Below w.heap.size w w5 ∧ b ≤ w5.heap.size from ⟨bld_laterK H4.out.1 hb5, heap_laterK H4.out.2.1 hb5, H4.out.2.2.1.trans (hb5.mono H4.out.2.2.1.size), Nat.le_trans H4.out.2.2.2 hb5.size⟩)
            clear hb5
            have hpv := oparam_any v ps (seg s.data.toList fN pos) w5 (by omega) (HP.out.below H5.out.2.2.1)
            rw [← ext_seg] at hpv
            have HPV := Lib.hid hpv
            clear hpv
            go_wp2_with fail
            refine (HPV.out).mono ?_
            rintro e w6 ⟨rfl, hb6⟩
            have H6 := Lib.hid (show Lib.IsBuilder 83 5 b b (Lib.byteCells acc) w6 ∧ w6.heap[it]? = some (.stringIter s (pos + 1)) ∧ Below w.heap.size w w6 ∧ b ≤ w6.heap.size from ⟨bld_laterK H5.out.1 hb6, heap_laterK H5.out.2.1 hb6, H5.out.2.2.1.trans (hb6.mono H5.out.2.2.1.size), Nat.le_trans H5.out.2.2.2 hb6.size⟩)
            clear hb6
            go_wp2_with fail
            refine (writeString_k b b acc (⟨(valL ps (seg s.data.toList fN pos)).toArray⟩ : ByteArray) w6 H6.out.1 (by rw [size_mk]; exact HR5.out.2.2) H6.out.2.2.2).mono ?_
            rintro e w7 ⟨rfl, hB7, hb7, hk7⟩
            rw [show (⟨(valL ps (seg s.data.toList fN pos)).toArray⟩ : ByteArray).data.toList = valL ps (seg s.data.toList fN pos) by simp] at hB7
            have hI7 := hk7.iter H6.out.2.1 (by have := HBI.out.2; omega)
            have hm7 : w7.iterPos it = pos + 1 := by simp [World.iterPos, hI7]
            have HX := Lib.hid (show RfW w b it s ps (-1) ((pos + 1 : Nat) : Int) (pos + 1) w7 from ⟨_, HR5.out.1, hB7, hI7, H6.out.2.2.1.trans (hb7.mono hbit)⟩)
            have HM7 := Lib.hid hm7
            clear hB7 hb7 hk7 hI7 hm7
            go_wp2
            have hwi := HR5.out.2.1
            go_roundw
            case rel => (try rw [hwi]); clear hwi; exact ⟨_, _, pos + 1, rfl, by go_num, hp, HX.out⟩
            case measure => (try rw [hwi]); clear hwi; rw [HM0.out, HM7.out]; omega
      · have i2 : ((x : Int) == 125) = false := by simp; omega
        have hR5 := rfr_text ps _ _ _ _ _ c hR HXC.out.2 (by rw [HXC.out.1]; exact h125) (by rw [HXC.out.1]; exact h123)
        have hm4 : W4.iterPos it = pos + 1 := by have := H4.out.2.1; simp [World.iterPos, this]
        have HX := Lib.hid (show RfW w b it s ps f a (pos + 1) W4 from ⟨acc, hR5, H4.out.1, H4.out.2.1, H4.out.2.2.1⟩)
        have HM4 := Lib.hid hm4
        clear hR hR5 h125 h123 hm4
        go_wp2
        go_roundw
        case rel => exact ⟨f, a, pos + 1, rfl, rfl, hp, HX.out⟩
        case measure => rw [HM0.out, HM4.out]; omega
end Go.Proofs.YtdlpbpikhmciaaaGreatDoor
