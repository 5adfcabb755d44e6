/- Qt, Oct6, Oct7: texts of the seat, one behind the other (a claim holds at most sixty). Conditions: each theorem names its own. -/
import Derived.Test.YtlfdeenekjklgaaGreatDoorPk04
import Derived.Test.YtlfdeenekjklgaaGreatDoorPk00
import Derived.Shelf.Strings.SlTrimAscii
namespace Go.Proofs.YtlfdeenekjklgaaGreatDoor
open Go.RowKit
set_option linter.unusedSimpArgs false
set_option linter.unusedVariables false
set_option maxRecDepth 1000000
/-- A byte of a quoted text. -/
def esc (c : UInt8) : List UInt8 := if c = 34 ∨ c = 92 then [92, c] else [c]
def escL (l : List UInt8) : List UInt8 := l.flatMap esc
def qtL (l : List UInt8) : List UInt8 := 34 :: (escL l ++ [34])
def qtR (l : List UInt8) : List UInt8 × Nat := if isFld l then (qtL l, 0) else ([], 13)
theorem escL_take (l : List UInt8) (i : Nat) (c : UInt8) (h : l[i]? = some c) : escL (l.take (i + 1)) = escL (l.take i) ++ esc c := by
  unfold escL
  rw [List.take_add_one, h, Option.toList_some, List.flatMap_append]
  simp
theorem escL_len (l : List UInt8) : (escL l).length ≤ 2 * l.length := by
  induction l with
  | nil => simp [escL]
  | cons c r ih =>
    have e : escL (c :: r) = esc c ++ escL r := rfl
    have h1 : (esc c).length ≤ 2 := by unfold esc; split <;> simp
    rw [e, List.length_append, List.length_cons]
    omega
theorem qtL_len (l : List UInt8) : (qtL l).length ≤ 2 * l.length + 2 := by
  have := escL_len l
  unfold qtL
  rw [List.length_cons, List.length_append, List.length_singleton]
  omega
theorem esc_take_len (l : List UInt8) (i : Nat) (n : Nat) (hi : i ≤ n) (hn : n ≤ 1099511627776) : (34 :: escL (l.take i)).length + 2 ≤ 140737488355328 := by
  have h1 := escL_len (l.take i)
  have h2 : (l.take i).length ≤ i := by rw [List.length_take]; omega
  rw [List.length_cons]
  omega
theorem writeByte_34 (B b : Nat) (acc : List UInt8) (w : World) (h : Lib.IsBuilder 98 5 B b (Lib.byteCells acc) w) (hlen : acc.length + 1 ≤ 140737488355328) (hBw : B ≤ w.heap.size) :
    Calls Tryz.prog 90 #[.pointer (some ⟨b, 0, none⟩), .int .u8 34] w fun e w' => e = .returned .nilIface ∧ Lib.IsBuilder 98 5 B b (Lib.byteCells (acc ++ [34])) w' ∧ Below B w w' :=
  writeByte_u8 B b acc 34 w h hlen hBw
theorem writeByte_92 (B b : Nat) (acc : List UInt8) (w : World) (h : Lib.IsBuilder 98 5 B b (Lib.byteCells acc) w) (hlen : acc.length + 1 ≤ 140737488355328) (hBw : B ≤ w.heap.size) :
    Calls Tryz.prog 90 #[.pointer (some ⟨b, 0, none⟩), .int .u8 92] w fun e w' => e = .returned .nilIface ∧ Lib.IsBuilder 98 5 B b (Lib.byteCells (acc ++ [92])) w' ∧ Below B w w' :=
  writeByte_u8 B b acc 92 w h hlen hBw
set_option maxHeartbeats 32000000 in
theorem oquote_any (s : ByteArray) (w : World) (hs : s.size ≤ 1099511627776) :
    Calls Tryz.prog 48 #[.string s] w fun e w' => e = .returned (.tuple #[.string ⟨(qtR s.data.toList).1.toArray⟩, .int .i64 ((qtR s.data.toList).2 : Nat)]) ∧ Below w.heap.size w w' := by
  have hf := oisfield_any s w hs
  cases hfld : isFld s.data.toList with
  | false =>
    rw [hfld] at hf
    have hq : qtR s.data.toList = ([], 13) := by unfold qtR; rw [hfld]; rfl
    have HQ := Lib.hid hq
    have HF := Lib.hid hf
    clear hq hfld hf
    go_enter Tryz.func48, Tryz.ntmps48
    go_wp2_with fail
    refine (HF.out).mono ?_
    rintro e w1 ⟨rfl, rfl⟩
    go_wp2
    go_ret2
    rw [HQ.out]
    exact ⟨rfl, Below.refl _ _⟩
  | true =>
    rw [hfld] at hf
    have hq : qtR s.data.toList = (qtL s.data.toList, 0) := by unfold qtR; rw [hfld]; rfl
    have HQ := Lib.hid hq
    have HF := Lib.hid hf
    clear hq hfld hf
    go_enter Tryz.func48, Tryz.ntmps48
    go_wp2_with fail
    refine (HF.out).mono ?_
    rintro e w1 ⟨rfl, rfl⟩
    go_wp2_with fail
    refine (writeByte_34 w1.heap.size w1.heap.size [] _ (Lib.fresh_isBuilder _ _ w1) (by decide) (by simp)).mono ?_
    rintro e w2 ⟨rfl, hO2, hb2⟩
    have hb0 : Below w1.heap.size w1 w2 := ((Below.refl _ w1).alloc (Nat.le_refl _) _).trans hb2
    have HS := Lib.hid (And.intro hO2 hb0)
    clear hO2 hb2 hb0
    go_wp2
    go_loopw [12] (fun iv wr => ∃ i : Nat, iv = .int .i64 i ∧ i ≤ s.size ∧ Lib.IsBuilder 98 5 w1.heap.size w1.heap.size (Lib.byteCells (34 :: escL (s.data.toList.take i))) wr ∧ Below w1.heap.size w1 wr) (fun iv _ => s.size - (intOf iv).toNat)
    case atStart => exact ⟨0, rfl, Nat.zero_le _, HS.out.1, HS.out.2⟩
    case round =>
      clear HS
      obtain ⟨i, rfl, hi, hO, hb⟩ := hrel
      have hbd := esc_take_len s.data.toList i s.size hi hs
      have hBw := hb.size
      by_cases hlt : i < s.size
      · obtain ⟨c, hc⟩ : ∃ c, s[i]'hlt = c := ⟨_, rfl⟩
        have hget := list_get s i hlt
        rw [hc] at hget
        have k0 : (0 : Int) ≤ (i : Int) := Int.natCast_nonneg _
        have k1 : (i : Int) < (s.size : Int) := by omega
        have hwi := w64o i (le_oo i s.size hi hs)
        have htk := escL_take s.data.toList i c hget
        have HW := Lib.hid (And.intro hwi htk)
        clear hwi htk hget
        by_cases h34 : c = 34
        · have b34 : ((c.toNat : Int) == 34) = true := by rw [h34]; rfl
          have he : ∀ wx, Lib.IsBuilder 98 5 w1.heap.size w1.heap.size (Lib.byteCells (34 :: escL (s.data.toList.take i) ++ [92] ++ [c])) wx → Lib.IsBuilder 98 5 w1.heap.size w1.heap.size (Lib.byteCells (34 :: escL (s.data.toList.take (i + 1)))) wx := fun wx h => by
            rw [HW.out.2, show esc c = [92, c] from by unfold esc; rw [if_pos (Or.inl h34)]]
            simpa using h
          have HE := Lib.hid he
          clear he h34
          go_wp2_with fail
          refine (writeByte_92 _ _ _ _ hO (by omega) hBw).mono ?_
          rintro e w3 ⟨rfl, hO3, hb3⟩
          have hb5 := hb.trans hb3
          have hl5 : (34 :: escL (s.data.toList.take i) ++ [92]).length + 1 ≤ 140737488355328 := by rw [List.length_append, List.length_singleton]; omega
          go_wp2_with fail
          refine (writeByte_u8 _ _ _ c _ hO3 hl5 hb5.size).mono ?_
          rintro e w4 ⟨rfl, hO4, hb4⟩
          have hn := HE.out _ hO4
          have HN := Lib.hid (And.intro hn (hb5.trans (hb4.mono (Nat.le_refl _))))
          clear hn hO4 hb4
          go_wp2
          have hwi := HW.out.1
          go_roundw
          case rel => (try rw [hwi]); clear hwi; exact ⟨i + 1, by go_num, by omega, HN.out.1, HN.out.2⟩
          case measure => (try rw [hwi]); clear hwi; simp [intOf]; omega
        · have b34 : ((c.toNat : Int) == 34) = false := (ne_u8o c 34 (by decide) h34).1
          by_cases h92 : c = 92
          · have b92 : ((c.toNat : Int) == 92) = true := by rw [h92]; rfl
            have he : ∀ wx, Lib.IsBuilder 98 5 w1.heap.size w1.heap.size (Lib.byteCells (34 :: escL (s.data.toList.take i) ++ [92] ++ [c])) wx → Lib.IsBuilder 98 5 w1.heap.size w1.heap.size (Lib.byteCells (34 :: escL (s.data.toList.take (i + 1)))) wx := fun wx h => by
              rw [HW.out.2, show esc c = [92, c] from by unfold esc; rw [if_pos (Or.inr h92)]]
              simpa using h
            have HE := Lib.hid he
            clear he h92 h34
            go_wp2_with fail
            refine (writeByte_92 _ _ _ _ hO (by omega) hBw).mono ?_
            rintro e w3 ⟨rfl, hO3, hb3⟩
            have hb5 := hb.trans hb3
            have hl5 : (34 :: escL (s.data.toList.take i) ++ [92]).length + 1 ≤ 140737488355328 := by rw [List.length_append, List.length_singleton]; omega
            go_wp2_with fail
            refine (writeByte_u8 _ _ _ c _ hO3 hl5 hb5.size).mono ?_
            rintro e w4 ⟨rfl, hO4, hb4⟩
            have hn := HE.out _ hO4
            have HN := Lib.hid (And.intro hn (hb5.trans (hb4.mono (Nat.le_refl _))))
            clear hn hO4 hb4
            go_wp2
            have hwi := HW.out.1
            go_roundw
            case rel => (try rw [hwi]); clear hwi; exact ⟨i + 1, by go_num, by omega, HN.out.1, HN.out.2⟩
            case measure => (try rw [hwi]); clear hwi; simp [intOf]; omega
          · have b92 : ((c.toNat : Int) == 92) = false := (ne_u8o c 92 (by decide) h92).1
            have he : ∀ wx, Lib.IsBuilder 98 5 w1.heap.size w1.heap.size (Lib.byteCells (34 :: escL (s.data.toList.take i) ++ [c])) wx → Lib.IsBuilder 98 5 w1.heap.size w1.heap.size (Lib.byteCells (34 :: escL (s.data.toList.take (i + 1)))) wx := fun wx h => by
              rw [HW.out.2, show esc c = [c] from by unfold esc; rw [if_neg (by intro e; rcases e with e | e; exact h34 e; exact h92 e)]]
              exact h
            have HE := Lib.hid he
            clear he h92 h34
            go_wp2_with fail
            refine (writeByte_u8 _ _ _ c _ hO (by omega) hBw).mono ?_
            rintro e w4 ⟨rfl, hO4, hb4⟩
            have hn := HE.out _ hO4
            have HN := Lib.hid (And.intro hn (hb.trans (hb4.mono (Nat.le_refl _))))
            clear hn hO4 hb4
            go_wp2
            have hwi := HW.out.1
            go_roundw
            case rel => (try rw [hwi]); clear hwi; exact ⟨i + 1, by go_num, by omega, HN.out.1, HN.out.2⟩
            case measure => (try rw [hwi]); clear hwi; simp [intOf]; omega
      · obtain rfl : i = s.size := by omega
        have hd : decide (s.size < s.size) = false := decide_eq_false (Nat.lt_irrefl _)
        rw [List.take_of_length_le (by rw [size_list]; exact Nat.le_refl _)] at hO hbd
        go_wp2_with fail
        refine (writeByte_34 _ _ _ _ hO (by omega) hBw).mono ?_
        rintro e w3 ⟨rfl, hO3, hb3⟩
        have hb5 := hb.trans hb3
        go_wp2_with (go_at_call 52; refine (Tryz.Builder_String_any _ _ (34 :: escL s.data.toList ++ [34]) _ hO3 hb5.size).mono ?_)
        rintro e w4 ⟨rfl, hb4⟩
        go_wp2
        go_ret2
        rw [HQ.out]
        exact ⟨rfl, hb5.trans hb4⟩
end Go.Proofs.YtlfdeenekjklgaaGreatDoor
namespace Go.Proofs.YtlfdeenekjklgaaGreatDoor
open Go.RowKit
set_option linter.unusedSimpArgs false
set_option linter.unusedVariables false
set_option maxRecDepth 1000000
/-- Bytes in a block of the call's own: cell j holds f j. -/
structure LowAt (w : World) (g n : Nat) (f : Nat → UInt8) : Prop where
  lt : g < w.heap.size
  cell : ∀ j, j < n → w.cell? ⟨g, j, none⟩ = some (.int .u8 ((f j).toNat : Int))
  free : ∀ j, j < n → w.frozen? ⟨g, j, none⟩ = false
def lowF (l : List UInt8) (i j : Nat) : UInt8 := if j < i then low (l.getD j 0) else l.getD j 0
theorem lowAt_string (w : World) (e : TypeId) (s : ByteArray) : LowAt (Lib.bytesWorld w e s) w.heap.size s.size (lowF s.data.toList 0) := by
  refine ⟨by rw [Lib.bytesWorld_size]; omega, fun j hj => ?_, fun j hj => ?_⟩
  · rw [Lib.bytesWorld_cell w e s j hj]; rfl
  · have hn : s.size ≤ (Lib.bytesCells w e s).size := by
      unfold Lib.bytesCells; rw [Array.size_append, Array.size_map]; exact Nat.le_add_right _ _
    unfold World.frozen?
    rw [Lib.bytesWorld_at_new]
    show (decide ((Lib.bytesCells w e s).size ≤ j) && decide (j < (Lib.bytesCells w e s).size + 1)) = false
    rw [decide_eq_false (by omega)]; rfl
theorem bytesBelow (w : World) (e : TypeId) (s : ByteArray) : Below w.heap.size w (Lib.bytesWorld w e s) :=
  ⟨rfl, rfl, rfl, by rw [Lib.bytesWorld_size]; omega, fun k hk => Lib.bytesWorld_at_old w e s k hk⟩
theorem LowAt.keep {w : World} {g n : Nat} {l : List UInt8} {i : Nat} {c : UInt8} (h : LowAt w g n (lowF l i)) (hc : l[i]? = some c) (hl : low c = c) : LowAt w g n (lowF l (i + 1)) := by
  have e : lowF l (i + 1) = lowF l i := by
    funext j
    unfold lowF
    by_cases h1 : j < i
    · rw [if_pos h1, if_pos (by omega)]
    · rw [if_neg h1]
      by_cases h2 : j = i
      · subst h2; rw [if_pos (by omega), List.getD_eq_getElem?_getD, hc]; exact hl
      · rw [if_neg (by omega)]
  rw [e]; exact h
theorem LowAt.set {w : World} {g n : Nat} {l : List UInt8} {i : Nat} {c : UInt8} (h : LowAt w g n (lowF l i)) (hc : l[i]? = some c) (hi : i < n) : LowAt (w.setCell ⟨g, i, none⟩ (.int .u8 ((low c).toNat : Int))) g n (lowF l (i + 1)) := by
  refine ⟨by simpa [World.setCell] using h.lt, fun j hj => ?_, fun j hj => by rw [World.frozen?_setCell]; exact h.free j hj⟩
  by_cases h2 : j = i
  · subst h2
    rw [World.cell?_setCell_same _ _ _ (h.cell j hj)]
    unfold lowF
    rw [if_pos (by omega), List.getD_eq_getElem?_getD, hc]; rfl
  · rw [World.cell?_setCell_other _ _ _ _ (by intro e; injection e with _ e _; omega), h.cell j hj]
    unfold lowF
    by_cases h1 : j < i
    · rw [if_pos h1, if_pos (by omega)]
    · rw [if_neg h1, if_neg (by omega)]
theorem LowAt.cellAt {w : World} {g n : Nat} {l : List UInt8} {i : Nat} {c : UInt8} (h : LowAt w g n (lowF l i)) (hc : l[i]? = some c) (hi : i < n) : w.cell? ⟨g, i, none⟩ = some (.int .u8 (c.toNat : Int)) := by
  rw [h.cell i hi]
  unfold lowF
  rw [if_neg (by omega), List.getD_eq_getElem?_getD, hc]; rfl
theorem LowAt.done {w : World} {g : Nat} {s : ByteArray} (h : LowAt w g s.size (lowF s.data.toList s.size)) : ∀ j (hj : j < (lowL s.data.toList).length), w.cell? ⟨g, 0 + j, none⟩ = some (.int .u8 ((lowL s.data.toList)[j]'hj).toNat) := by
  intro j hj
  have hj2 : j < s.size := by rw [lowL_len, size_list] at hj; exact hj
  rw [Nat.zero_add, h.cell j hj2]
  unfold lowF
  rw [if_pos hj2]
  have h2 : j < s.data.toList.length := by rw [size_list]; exact hj2
  simp only [lowL, List.getElem_map, List.getD_eq_getElem?_getD, List.getElem?_eq_getElem h2, Option.getD_some]
theorem low_up (c : UInt8) (n : Nat) (h : c.toNat = n) (h1 : 65 ≤ n) (h2 : n ≤ 90) : ((low c).toNat : Int) = (n : Int) + 32 := by
  subst h
  unfold low
  rw [if_pos ⟨h1, h2⟩]
  simp; omega
theorem low_same (c : UInt8) (n : Nat) (h : c.toNat = n) (h1 : ¬ (65 ≤ n ∧ n ≤ 90)) : low c = c := by
  subst h
  unfold low
  rw [if_neg h1]
theorem u8w (n : Nat) (h : n < 256) : IntKind.u8.wrap (n : Int) = (n : Int) := IntWalk.u8_in _ (by omega)
set_option maxHeartbeats 2000000 in
theorem olower_any (s : ByteArray) (w : World) (hs : s.size ≤ 1099511627776) :
    Calls Tryz.prog 45 #[.string s] w fun e w' => e = .returned (.string ⟨(lowL s.data.toList).toArray⟩) ∧ Below w.heap.size w w' := by
  have hr0 := lowAt_string w 5 s
  have hb0 := bytesBelow w 5 s
  have hcv := Lib.run_convert_string_bytes (P := Tryz.prog) w 9 94 5 s Tryz.underlying9 Tryz.underlying94 Tryz.underlying5
  obtain ⟨L, hL⟩ : ∃ L, w.heap.size = L := ⟨_, rfl⟩
  rw [hL] at hr0 hb0 hcv
  obtain ⟨W0, hW0⟩ : ∃ W0, Lib.bytesWorld w 5 s = W0 := ⟨_, rfl⟩
  rw [hW0] at hr0 hb0 hcv
  have HR0 := Lib.hid hr0; have HB0 := Lib.hid hb0
  clear hr0 hb0 hW0
  have HL := Lib.hid hL; clear hL
  go_enter Tryz.func45, Tryz.ntmps45
  go_wp2
  go_loopw [10] (fun iv wr => ∃ i : Nat, iv = .int .i64 i ∧ i ≤ s.size ∧ LowAt wr L s.size (lowF s.data.toList i) ∧ Below L w wr) (fun iv _ => s.size - (intOf iv).toNat)
  case atStart => exact ⟨0, rfl, Nat.zero_le _, HR0.out, HB0.out⟩
  case round =>
    clear HR0 HB0 hcv
    obtain ⟨i, rfl, hi, hr, hb⟩ := hrel
    by_cases hlt : i < s.size
    · obtain ⟨c, hc⟩ : ∃ c, s[i]'hlt = c := ⟨_, rfl⟩
      have hget := list_get s i hlt
      rw [hc] at hget
      clear hc
      have cell := hr.cellAt hget hlt
      have free := hr.free i hlt
      obtain ⟨n, hn⟩ : ∃ n, c.toNat = n := ⟨_, rfl⟩
      have ln : n < 256 := by rw [← hn]; exact c.toBitVec.isLt
      rw [hn] at cell
      have k0 : (0 : Int) ≤ (i : Int) := Int.natCast_nonneg _
      have k1 : (i : Int) < (s.size : Int) := by omega
      have hwi := w64o i (le_oo i s.size hi hs)
      have HW := Lib.hid hwi; clear hwi
      by_cases hup : 65 ≤ n ∧ n ≤ 90
      · have hr2 := hr.set hget hlt
        rw [low_up c n hn hup.1 hup.2] at hr2
        have hb2 : Below L w (wr.setCell ⟨L, i, none⟩ (.int .u8 ((n : Int) + 32))) := hb.setCell (p := ⟨L, i, none⟩) (Nat.le_refl _) _
        have i1 : (65 : Int) ≤ (n : Int) := by omega
        have i2 : (n : Int) ≤ 90 := by omega
        have HX := Lib.hid (And.intro hr2 hb2)
        clear hr2 hb2 hr hb hget hn
        go_wp2
        rw [show (n : Int) + 97 - 65 = (n : Int) + 32 from by omega]
        have hwi := HW.out
        go_roundw
        case rel => (try rw [hwi]); clear hwi; exact ⟨i + 1, by go_num, by omega, HX.out.1, HX.out.2⟩
        case measure => (try rw [hwi]); clear hwi; simp [intOf]; omega
      · have hr2 := hr.keep hget (low_same c n hn hup)
        have HX := Lib.hid (And.intro hr2 hb)
        clear hr2 hb hr hget hn
        have hcase : n < 65 ∨ (65 ≤ n ∧ 90 < n) := by omega
        rcases hcase with h1 | ⟨h1, h2⟩
        · have i1 : ¬ (65 : Int) ≤ (n : Int) := by omega
          go_wp2
          have hwi := HW.out
          go_roundw
          case rel => (try rw [hwi]); clear hwi; exact ⟨i + 1, by go_num, by omega, HX.out.1, HX.out.2⟩
          case measure => (try rw [hwi]); clear hwi; simp [intOf]; omega
        · have i1 : (65 : Int) ≤ (n : Int) := by omega
          have i2 : ¬ (n : Int) ≤ 90 := by omega
          go_wp2
          have hwi := HW.out
          go_roundw
          case rel => (try rw [hwi]); clear hwi; exact ⟨i + 1, by go_num, by omega, HX.out.1, HX.out.2⟩
          case measure => (try rw [hwi]); clear hwi; simp [intOf]; omega
    · obtain rfl : i = s.size := by omega
      have hd : decide (s.size < s.size) = false := decide_eq_false (Nat.lt_irrefl _)
      have hlen : (lowL s.data.toList).length = s.size := by rw [lowL_len, size_list]
      have hcv := run_str_cells wr 94 5 Tryz.underlying94 Tryz.underlying5 L 0 (grownCap w s.size 0 5) s.size (lowL s.data.toList) hlen hr.done 9 Tryz.underlying9
      have HB := Lib.hid hb
      clear hr hb hlen
      go_wp2
      go_ret
      rw [HL.out]
      exact ⟨rfl, HB.out⟩
set_option maxHeartbeats 2000000 in
theorem rlower_any (s : ByteArray) (w : World) (hs : s.size ≤ 1099511627776) :
    Calls Tryz.prog 36 #[.string s] w fun e w' => e = .returned (.string ⟨(lowL s.data.toList).toArray⟩) ∧ Below w.heap.size w w' := by
  have hr0 := lowAt_string w 5 s
  have hb0 := bytesBelow w 5 s
  have hcv := Lib.run_convert_string_bytes (P := Tryz.prog) w 9 94 5 s Tryz.underlying9 Tryz.underlying94 Tryz.underlying5
  obtain ⟨L, hL⟩ : ∃ L, w.heap.size = L := ⟨_, rfl⟩
  rw [hL] at hr0 hb0 hcv
  obtain ⟨W0, hW0⟩ : ∃ W0, Lib.bytesWorld w 5 s = W0 := ⟨_, rfl⟩
  rw [hW0] at hr0 hb0 hcv
  have HR0 := Lib.hid hr0; have HB0 := Lib.hid hb0
  clear hr0 hb0 hW0
  have HL := Lib.hid hL; clear hL
  go_enter Tryz.func36, Tryz.ntmps36
  go_wp2
  go_loopw [4] (fun iv wr => ∃ i : Nat, iv = .int .i64 i ∧ i ≤ s.size ∧ LowAt wr L s.size (lowF s.data.toList i) ∧ Below L w wr) (fun iv _ => s.size - (intOf iv).toNat)
  case atStart => exact ⟨0, rfl, Nat.zero_le _, HR0.out, HB0.out⟩
  case round =>
    clear HR0 HB0 hcv
    obtain ⟨i, rfl, hi, hr, hb⟩ := hrel
    by_cases hlt : i < s.size
    · obtain ⟨c, hc⟩ : ∃ c, s[i]'hlt = c := ⟨_, rfl⟩
      have hget := list_get s i hlt
      rw [hc] at hget
      clear hc
      have cell := hr.cellAt hget hlt
      have free := hr.free i hlt
      obtain ⟨n, hn⟩ : ∃ n, c.toNat = n := ⟨_, rfl⟩
      have ln : n < 256 := by rw [← hn]; exact c.toBitVec.isLt
      rw [hn] at cell
      have k0 : (0 : Int) ≤ (i : Int) := Int.natCast_nonneg _
      have k1 : (i : Int) < (s.size : Int) := by omega
      have hwi := w64o i (le_oo i s.size hi hs)
      have HW := Lib.hid hwi; clear hwi
      by_cases hup : 65 ≤ n ∧ n ≤ 90
      · have hr2 := hr.set hget hlt
        rw [low_up c n hn hup.1 hup.2] at hr2
        have hb2 : Below L w (wr.setCell ⟨L, i, none⟩ (.int .u8 ((n : Int) + 32))) := hb.setCell (p := ⟨L, i, none⟩) (Nat.le_refl _) _
        have i1 : (65 : Int) ≤ (n : Int) := by omega
        have i2 : (n : Int) ≤ 90 := by omega
        have HX := Lib.hid (And.intro hr2 hb2)
        clear hr2 hb2 hr hb hget hn
        go_wp2
        have hwi := HW.out
        go_roundw
        case rel => (try rw [hwi]); clear hwi; exact ⟨i + 1, by go_num, by omega, HX.out.1, HX.out.2⟩
        case measure => (try rw [hwi]); clear hwi; simp [intOf]; omega
      · have hr2 := hr.keep hget (low_same c n hn hup)
        have HX := Lib.hid (And.intro hr2 hb)
        clear hr2 hb hr hget hn
        have hcase : n < 65 ∨ (65 ≤ n ∧ 90 < n) := by omega
        rcases hcase with h1 | ⟨h1, h2⟩
        · have i1 : ¬ (65 : Int) ≤ (n : Int) := by omega
          go_wp2
          have hwi := HW.out
          go_roundw
          case rel => (try rw [hwi]); clear hwi; exact ⟨i + 1, by go_num, by omega, HX.out.1, HX.out.2⟩
          case measure => (try rw [hwi]); clear hwi; simp [intOf]; omega
        · have i1 : (65 : Int) ≤ (n : Int) := by omega
          have i2 : ¬ (n : Int) ≤ 90 := by omega
          go_wp2
          have hwi := HW.out
          go_roundw
          case rel => (try rw [hwi]); clear hwi; exact ⟨i + 1, by go_num, by omega, HX.out.1, HX.out.2⟩
          case measure => (try rw [hwi]); clear hwi; simp [intOf]; omega
    · obtain rfl : i = s.size := by omega
      have hd : decide (s.size < s.size) = false := decide_eq_false (Nat.lt_irrefl _)
      have hlen : (lowL s.data.toList).length = s.size := by rw [lowL_len, size_list]
      have hcv := run_str_cells wr 94 5 Tryz.underlying94 Tryz.underlying5 L 0 (grownCap w s.size 0 5) s.size (lowL s.data.toList) hlen hr.done 9 Tryz.underlying9
      have HB := Lib.hid hb
      clear hr hb hlen
      go_wp2
      go_ret
      rw [HL.out]
      exact ⟨rfl, HB.out⟩
end Go.Proofs.YtlfdeenekjklgaaGreatDoor
namespace Go.Proofs.YtlfdeenekjklgaaGreatDoor
open Go.RowKit
set_option linter.unusedSimpArgs false
set_option linter.unusedVariables false
set_option maxRecDepth 1000000
theorem ext_mk (s : ByteArray) (a b : Nat) : s.extract a b = ⟨((s.data.toList.drop a).take (b - a)).toArray⟩ := by
  apply ba_ext
  rw [ByteArray.data_extract, Array.toList_extract, List.extract_eq_take_drop]
theorem ext_front (s : ByteArray) (i : Nat) : s.extract 0 i = ⟨(s.data.toList.take i).toArray⟩ := by rw [ext_mk]; simp
theorem ext_back (s : ByteArray) (i : Nat) : s.extract i s.size = ⟨(s.data.toList.drop i).toArray⟩ := by
  rw [ext_mk, List.take_of_length_le (by rw [List.length_drop, size_list]; omega)]
theorem size_mk (l : List UInt8) : (⟨l.toArray⟩ : ByteArray).size = l.length := by rw [← size_list]
def valRet (o : Option (List UInt8 × Nat)) : Value := match o with
  | some (x, k) => .tuple #[.string ⟨x.toArray⟩, .int .i64 (k : Int), .bool true]
  | none => .tuple #[.string ⟨#[]⟩, .int .i64 0, .bool false]
set_option maxHeartbeats 2000000 in
theorem ovalue_any (s : ByteArray) (w : World) (hs : s.size ≤ 1099511627776) (hg : SgAt w) :
    Calls Tryz.prog 87 #[.string s] w fun e w' => e = .returned (valRet (valP s.data.toList)) ∧ Below w.heap.size w w' := by
  have hr := oruns_any s 0 w hs (Nat.zero_le _) hg
  rw [List.drop_zero] at hr
  have hle := runL_le isSg s.data.toList
  rw [size_list] at hle
  obtain ⟨n, hn⟩ : ∃ n, runL isSg s.data.toList = n := ⟨_, rfl⟩
  rw [hn] at hr hle
  have hu := ounq_any s w hs
  by_cases h0 : n = 0
  · have hv : valP s.data.toList = unq s.data.toList := by unfold valP; rw [hn, if_pos h0]
    subst h0
    obtain ⟨o, ho⟩ : ∃ o, unq s.data.toList = o := ⟨_, rfl⟩
    rw [ho] at hv hu
    have HV := Lib.hid (And.intro hv (And.intro hr hu)); clear hv hn ho hr hu
    go_enter Tryz.func87, Tryz.ntmps87
    go_wp2_with fail
    refine (HV.out.2.1).mono ?_
    rintro e w ⟨rfl, rfl⟩
    go_wp2_with fail
    refine (HV.out.2.2).mono ?_
    rintro e w1 ⟨rfl, hb⟩
    cases o with
    | none =>
      rw [show unqRet none = .tuple #[.string ⟨#[]⟩, .int .i64 0, .int .i64 13] from rfl]
      go_wp2
      go_ret3
      refine ⟨?_, hb⟩
      rw [HV.out.1]; rfl
    | some x =>
      obtain ⟨x, k⟩ := x
      rw [show unqRet (some (x, k)) = .tuple #[.string ⟨x.toArray⟩, .int .i64 (k : Int), .int .i64 0] from rfl]
      go_wp2
      go_ret3
      refine ⟨?_, hb⟩
      rw [HV.out.1]; rfl
  · have hv : valP s.data.toList = some (s.data.toList.take n, n) := by unfold valP; rw [hn, if_neg h0]
    have hx := ext_front s n
    have k0 : (0 : Int) < (n : Int) := by omega
    have k2 : (0 : Int) ≤ (n : Int) := by omega
    have k1 : (n : Int) ≤ (s.size : Int) := by omega
    have HV := Lib.hid (And.intro hv (And.intro hx hr)); clear hv hx hn hr hu h0
    go_enter Tryz.func87, Tryz.ntmps87
    go_wp2_with fail
    refine (HV.out.2.2).mono ?_
    rintro e w ⟨rfl, rfl⟩
    go_wp2
    go_ret3
    refine ⟨?_, Below.refl _ _⟩
    rw [HV.out.1, show valRet (some (s.data.toList.take n, n)) = .tuple #[.string ⟨(s.data.toList.take n).toArray⟩, .int .i64 (n : Int), .bool true] from rfl, ← HV.out.2.1]
    rfl
theorem isBl_set (c : UInt8) : isBl c = [32, 9].contains c := by
  have : ∀ n : Fin 256, isBl (UInt8.ofNat n.val) = [32, 9].contains (UInt8.ofNat n.val) := by decide +kernel
  have h := this ⟨c.toNat, c.toBitVec.isLt⟩
  simpa using h
theorem trimR_cons (c : UInt8) (r : List UInt8) : trimR (c :: r) = if trimR r = [] then (if isBl c then [] else [c]) else c :: trimR r := by
  unfold trimR
  rw [List.reverse_cons, List.dropWhile_append]
  by_cases h : r.reverse.dropWhile isBl = []
  · rw [h]
    by_cases hc : isBl c = true <;> simp [hc]
  · have h2 : (r.reverse.dropWhile isBl).isEmpty = false := by simpa using h
    rw [h2]
    simp [h]
theorem trim_swap (l : List UInt8) : (trimR l).dropWhile isBl = trimR (l.dropWhile isBl) := by
  induction l with
  | nil => rfl
  | cons c r ih =>
    by_cases hc : isBl c = true
    · rw [List.dropWhile_cons_of_pos hc, ← ih, trimR_cons, if_pos hc]
      by_cases h : trimR r = []
      · rw [if_pos h, h]
      · rw [if_neg h, List.dropWhile_cons_of_pos hc]
    · rw [List.dropWhile_cons_of_neg hc, trimR_cons, if_neg hc]
      by_cases h : trimR r = []
      · rw [if_pos h, List.dropWhile_cons_of_neg hc]
      · rw [if_neg h, List.dropWhile_cons_of_neg hc]
theorem trimS_eq (l : List UInt8) : Lib.trimS l [32, 9] = trimL l := by
  have e : (fun c : UInt8 => List.contains [32, 9] c) = isBl := by funext c; rw [isBl_set]
  unfold Lib.trimS Lib.trimRightS Lib.trimLeftS trimL
  rw [show (List.contains [32, 9] ·) = isBl from e]
  exact trim_swap l
theorem otrim_any (s : ByteArray) (w : World) (hs : s.size ≤ 1099511627776) :
    Calls Tryz.prog 42 #[.string s] w fun e w' => e = .returned (.string ⟨(trimL s.data.toList).toArray⟩) ∧ Below w.heap.size w w' := by
  have ht := Any.strings_Trim_laid Tryz.lays160 (by kernel_rfl) s ⟨#[32, 9]⟩ w (by omega) (by decide) (by
    intro j b hj
    have : ∀ j : Fin 2, ([32, 9] : List UInt8)[j.val].toNat < 128 := by decide
    obtain ⟨hl, he⟩ := List.getElem?_eq_some_iff.1 hj
    have := this ⟨j, hl⟩
    rw [← he]; exact this)
  rw [show (⟨#[32, 9]⟩ : ByteArray).data.toList = [32, 9] from rfl, trimS_eq] at ht
  have HT := Lib.hid ht; clear ht
  go_enter Tryz.func42, Tryz.ntmps42
  go_wp2_with fail
  refine (HT.out).mono ?_
  rintro e w1 ⟨rfl, hb⟩
  go_wp2
  go_ret
  exact ⟨rfl, hb⟩
end Go.Proofs.YtlfdeenekjklgaaGreatDoor
