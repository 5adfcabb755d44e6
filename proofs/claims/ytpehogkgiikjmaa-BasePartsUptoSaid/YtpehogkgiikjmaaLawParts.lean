/- The walk of turnpikelaw03.BaseParts: it returns true; nothing that was there turns. Conditions: at most 2^21 bytes of text in all. -/
import Derived.Test.YtpehogkgiikjmaaAcc
namespace Go.Proofs.Ytpehogkgiikjmaa
open Go.RowKit
set_option linter.unusedSimpArgs false
set_option linter.unusedVariables false
abbrev Piece3 := Bool × Bool × ByteArray
def Pieces (w : World) (ao : Option Addr) (L : List Piece3) : Prop := ∀ i p, L[i]? = some p → ∃ b o, ao = some ⟨b, o, none⟩ ∧ b < w.heap.size ∧
  w.cell? ⟨b, o + i * 3, none⟩ = some (.bool p.1) ∧ w.cell? ⟨b, o + i * 3 + 1, none⟩ = some (.bool p.2.1) ∧ w.cell? ⟨b, o + i * 3 + 2, none⟩ = some (.string p.2.2)
def tot : List Piece3 → Nat
  | [] => 0
  | p :: r => p.2.2.size + tot r
theorem tot_append (a b : List Piece3) : tot (a ++ b) = tot a + tot b := by
  induction a with
  | nil => simp [tot]
  | cons p r ih => simp [tot, ih]; omega
theorem tot_take (L : List Piece3) (i : Nat) (p : Piece3) (h : L[i]? = some p) : tot (L.take (i + 1)) = tot (L.take i) + p.2.2.size ∧ tot (L.take (i + 1)) ≤ tot L := by
  have e : L.take (i + 1) = L.take i ++ [p] := by rw [List.take_add_one, h]; rfl
  have e2 : tot L = tot (L.take (i + 1)) + tot (L.drop (i + 1)) := by rw [← tot_append, List.take_append_drop]
  constructor
  · rw [e, tot_append]; simp [tot]
  · omega
theorem str_fits (a b t : Nat) (h : a + b ≤ t) (ht : t ≤ 2097152) : ¬ 9223372036854775807 < a + b := by omega
theorem len_sha (x : Nat) (a : ByteArray) (w : World) (hx : w.rowIs x 63 70 (stCell (feed st0 a.data.toList))) :
    Calls Try.prog 28 #[.pointer (some ⟨x, 0, none⟩)] w fun e w' => e = .returned (.int .i64 (a.size : Int)) ∧ w' = w := by
  have := len_any x _ w hx
  rw [feed_st0_n, size_list] at this
  exact this
theorem done_shaB (x : Nat) (a : ByteArray) (w : World) (ha : a.size ≤ 2097152) (hx : w.rowIs x 63 70 (stCell (feed st0 a.data.toList))) :
    Calls Try.prog 26 #[.pointer (some ⟨x, 0, none⟩)] w fun e w' => e = .returned (.string ⟨(shaR a.data.toList).toArray⟩) ∧ Below w.heap.size w w' :=
  done_sha x a.data.toList w (le_60 _ (by rw [size_list]; omega)) hx
theorem rsha21 (a : ByteArray) (w : World) (ha : a.size ≤ 2097152) :
    Calls Try.prog 27 #[.string a] w fun e w' => e = .returned (.string ⟨(shaR a.data.toList).toArray⟩) ∧ Below w.heap.size w w' := rsha_any a w (by omega)
theorem write_sha (x : Nat) (a t u : ByteArray) (w : World) (hs : a.size + t.size ≤ 2097152) (hu : a ++ t = u) (hx : w.rowIs x 63 70 (stCell (feed st0 a.data.toList))) :
    Calls Try.prog 25 #[.pointer (some ⟨x, 0, none⟩), .string t] w fun e w' => e = .returned (.tuple #[]) ∧ w'.rowIs x 63 70 (stCell (feed st0 u.data.toList)) ∧ w.grownBy w' (some x) := by
  have := write_any x t (feed st0 a.data.toList) w (feed_st0_m _) (by rw [feed_st0_n, size_list]; omega) hx
  rw [← feed_append] at this
  rw [← hu, show (a ++ t).data.toList = a.data.toList ++ t.data.toList from by simp]
  exact this
def pieceCell (two done : Bool) (text : ByteArray) (j : Nat) : Value := match j with | 0 => .bool two | 1 => .bool done | _ => .string text
theorem piece_row (w : World) (two done : Bool) (text : ByteArray) (T : TypeId) : (w.alloc (.cells #[.bool two, .bool done, .string text] T)).rowIs w.heap.size T 3 (pieceCell two done text) :=
  World.rowIs_alloc w #[.bool two, .bool done, .string text] T _ (fun i hi => by
    have h3 : i < 3 := hi
    match i, h3 with
    | 0, _ => rfl
    | 1, _ => rfl
    | 2, _ => rfl)
set_option maxRecDepth 1000000 in
set_option maxHeartbeats 4000000 in
theorem baseParts_any (ao : Option Addr) (cap : Nat) (L : List Piece3) (w : World) (hp : Pieces w ao L) (ht : tot L ≤ 2097152) (hl : L.length ≤ 2097152) :
    Calls Try.prog 10 #[.slice ao L.length cap] w fun e w' => e = .returned (.bool true) ∧ Below w.heap.size w w' := by
  obtain ⟨x, hx⟩ : ∃ x, w.heap.size = x := ⟨_, rfl⟩
  go_enter Try.func10, Try.ntmps10
  go_wp2_with fail
  refine (new_any _).mono ?_
  rintro e w1 ⟨rfl, hr1, hb1⟩
  obtain ⟨y, hy⟩ : ∃ y, w1.heap.size = y := ⟨_, rfl⟩
  go_wp2_with fail
  refine (new_any _).mono ?_
  rintro e w2 ⟨rfl, hr2, hb2⟩
  rw [hx] at hr1 hb1
  rw [hy] at hr2 hb2
  have hxy : x < y := by have := hr1.lt; omega
  have hrx : w2.rowIs x 63 70 (stCell st0) := hr1.of_block (hb2.block x (by omega))
  have hb : Below x w w2 := hb1.trans (hb2.mono (by omega))
  have HRX := Lib.hid hrx; have HRY := Lib.hid hr2; have HB := Lib.hid hb; have HP := Lib.hid hp
  clear hr1 hb1 hrx hr2 hb hb2 hp
  go_wp2
  go_loopw [7, 5, 6] (fun iv av bv wq => ∃ (i : Nat) (a b : ByteArray), iv = .int .i64 i ∧ av = .string a ∧ bv = .string b ∧ i ≤ L.length ∧ wq.rowIs x 63 70 (stCell (feed st0 a.data.toList)) ∧ wq.rowIs y 63 70 (stCell (feed st0 b.data.toList)) ∧ Below x w wq ∧ a.size + b.size = tot (L.take i))
    (fun i _ _ _ => L.length - (intOf i).toNat)
  case atStart => exact ⟨0, ByteArray.empty, ByteArray.empty, rfl, rfl, rfl, Nat.zero_le _, HRX.out, HRY.out, HB.out, rfl⟩
  case round =>
    clear HRX HRY HB
    obtain ⟨i, a, b, rfl, rfl, rfl, hi, hrx, hry, hbw, hab⟩ := hrel
    by_cases hlt : i < L.length
    · obtain ⟨⟨two, done, text⟩, hpi⟩ : ∃ p, L[i]? = some p := ⟨_, List.getElem?_eq_getElem hlt⟩
      obtain ⟨bk, o, rfl, hbk, c0, c1, c2⟩ := HP.out i _ hpi
      have htk := tot_take L i _ hpi
      rw [hx] at hbk
      have d0 : wr.cell? ⟨bk, o + i * 3, none⟩ = some (.bool two) := by rw [hbw.cell hbk]; exact c0
      have d1 : wr.cell? ⟨bk, o + i * 3 + 1, none⟩ = some (.bool done) := by rw [hbw.cell hbk]; exact c1
      have d2 : wr.cell? ⟨bk, o + i * 3 + 2, none⟩ = some (.string text) := by rw [hbw.cell hbk]; exact c2
      have HRX := Lib.hid hrx; have HRY := Lib.hid hry; have HB := Lib.hid hbw; have HAB := Lib.hid hab; have HTK := Lib.hid htk
      clear hrx hry hbw hab htk c0 c1 c2
      cases two with
      | true =>
        cases done with
        | true =>
          obtain ⟨Z, hZ⟩ : ∃ Z, wr.heap.size = Z := ⟨_, rfl⟩
          obtain ⟨u, hu⟩ : ∃ u, b ++ text = u := ⟨_, rfl⟩
          have hus : u.size = b.size + text.size := by rw [← hu, ByteArray.size_append]
          have hsum := HAB.out
          have htk := HTK.out
          have hfit : ¬ 9223372036854775807 < b.size + text.size := str_fits _ _ (tot L) (by simp only at htk; omega) ht
          have hbnd : b.size + text.size ≤ 2097152 := by simp only at htk; omega
          have hbr : a.size ≤ 2097152 := by simp only at htk; omega
          have hbu : u.size ≤ 2097152 := by omega
          have hzr := piece_row wr true true text 40
          rw [hZ] at hzr
          have hxZ : x < Z := by have := HRX.out.lt; omega
          have hyZ : y < Z := by have := HRY.out.lt; omega
          have HZR := Lib.hid hzr; have HU := Lib.hid (And.intro hus (And.intro hsum htk))
          clear hzr hus hsum htk
          go_wp2_with fail
          refine (write_sha y b text u _ hbnd hu (HRY.out.alloc _)).mono ?_
          rintro e w3 ⟨rfl, hw3, hg3⟩
          have ho3 : w3.rowIs x 63 70 (stCell (feed st0 a.data.toList)) := (HRX.out.alloc _).of_block (hg3.block x (by simp; omega) (by simp; omega))
          have hz3 : w3.rowIs Z 40 3 (pieceCell true true text) := HZR.out.of_block (hg3.block Z (by simp; omega) (by simp; omega))
          have hb3 : Below x w w3 := (HB.out.alloc (by omega) _).grown hg3 (by simp; omega) (fun k hk => by cases hk; omega)
          have k1 : w3.cell? ⟨Z, 1, none⟩ = some (.bool true) := hz3.cell (by decide)
          have k2 : w3.cell? ⟨Z, 2, none⟩ = some (.string text) := hz3.cell (by decide)
          have HW3 := Lib.hid hw3; have HO3 := Lib.hid ho3; have HB3 := Lib.hid hb3
          clear hw3 hg3 ho3 hz3 hb3
          go_wp2_with fail
          refine (done_shaB x a _ hbr HO3.out).mono ?_
          rintro e w4 ⟨rfl, hw4⟩
          go_wp2_with fail
          refine (rsha21 a _ hbr).mono ?_
          rintro e w5 ⟨rfl, hw5⟩
          have hh0 := hw4.trans (hw5.mono hw4.size)
          have hw0' : w5.rowIs y 63 70 (stCell (feed st0 u.data.toList)) := HW3.out.of_block (hh0.block y HW3.out.lt)
          have ho0' : w5.rowIs x 63 70 (stCell (feed st0 a.data.toList)) := HO3.out.of_block (hh0.block x HO3.out.lt)
          have hb0' : Below x w w5 := HB3.out.trans (hh0.mono (by have := HW3.out.lt; have := HO3.out.lt; omega))
          have HW10 := Lib.hid hw0'; have HO10 := Lib.hid ho0'; have HB10 := Lib.hid hb0'
          clear hw4 hw5 hh0 hw0' ho0' hb0'
          go_wp2_with fail
          refine (done_shaB y u _ hbu HW10.out).mono ?_
          rintro e w6 ⟨rfl, hw6⟩
          go_wp2_with fail
          refine (rsha21 u _ hbu).mono ?_
          rintro e w7 ⟨rfl, hw7⟩
          have hh1 := hw6.trans (hw7.mono hw6.size)
          have hw1' : w7.rowIs y 63 70 (stCell (feed st0 u.data.toList)) := HW10.out.of_block (hh1.block y HW10.out.lt)
          have ho1' : w7.rowIs x 63 70 (stCell (feed st0 a.data.toList)) := HO10.out.of_block (hh1.block x HO10.out.lt)
          have hb1' : Below x w w7 := HB10.out.trans (hh1.mono (by have := HW10.out.lt; have := HO10.out.lt; omega))
          have HW11 := Lib.hid hw1'; have HO11 := Lib.hid ho1'; have HB11 := Lib.hid hb1'
          clear hw6 hw7 hh1 hw1' ho1' hb1'
          go_wp2_with fail
          refine (len_sha x a _ HO11.out).mono ?_
          rintro e w' ⟨rfl, rfl⟩
          go_wp2_with fail
          refine (len_sha y u _ HW11.out).mono ?_
          rintro e w' ⟨rfl, rfl⟩
          go_wp2
          go_roundw
          case rel =>
            have h1 := HU.out.2.1
            have h2 := HU.out.2.2.1
            have h3 := HU.out.1
            exact ⟨i + 1, a, u, by go_num, rfl, rfl, by omega, HO11.out, HW11.out, HB11.out, by omega⟩
          case measure => simp [intOf]; omega
        | false =>
          obtain ⟨Z, hZ⟩ : ∃ Z, wr.heap.size = Z := ⟨_, rfl⟩
          obtain ⟨u, hu⟩ : ∃ u, b ++ text = u := ⟨_, rfl⟩
          have hus : u.size = b.size + text.size := by rw [← hu, ByteArray.size_append]
          have hsum := HAB.out
          have htk := HTK.out
          have hfit : ¬ 9223372036854775807 < b.size + text.size := str_fits _ _ (tot L) (by simp only at htk; omega) ht
          have hbnd : b.size + text.size ≤ 2097152 := by simp only at htk; omega
          have hbr : a.size ≤ 2097152 := by simp only at htk; omega
          have hbu : u.size ≤ 2097152 := by omega
          have hzr := piece_row wr true false text 40
          rw [hZ] at hzr
          have hxZ : x < Z := by have := HRX.out.lt; omega
          have hyZ : y < Z := by have := HRY.out.lt; omega
          have HZR := Lib.hid hzr; have HU := Lib.hid (And.intro hus (And.intro hsum htk))
          clear hzr hus hsum htk
          go_wp2_with fail
          refine (write_sha y b text u _ hbnd hu (HRY.out.alloc _)).mono ?_
          rintro e w3 ⟨rfl, hw3, hg3⟩
          have ho3 : w3.rowIs x 63 70 (stCell (feed st0 a.data.toList)) := (HRX.out.alloc _).of_block (hg3.block x (by simp; omega) (by simp; omega))
          have hz3 : w3.rowIs Z 40 3 (pieceCell true false text) := HZR.out.of_block (hg3.block Z (by simp; omega) (by simp; omega))
          have hb3 : Below x w w3 := (HB.out.alloc (by omega) _).grown hg3 (by simp; omega) (fun k hk => by cases hk; omega)
          have k1 : w3.cell? ⟨Z, 1, none⟩ = some (.bool false) := hz3.cell (by decide)
          have k2 : w3.cell? ⟨Z, 2, none⟩ = some (.string text) := hz3.cell (by decide)
          have HW3 := Lib.hid hw3; have HO3 := Lib.hid ho3; have HB3 := Lib.hid hb3
          clear hw3 hg3 ho3 hz3 hb3
          go_wp2_with fail
          refine (len_sha x a _ HO3.out).mono ?_
          rintro e w' ⟨rfl, rfl⟩
          go_wp2_with fail
          refine (len_sha y u _ HW3.out).mono ?_
          rintro e w' ⟨rfl, rfl⟩
          go_wp2
          go_roundw
          case rel =>
            have h1 := HU.out.2.1
            have h2 := HU.out.2.2.1
            have h3 := HU.out.1
            exact ⟨i + 1, a, u, by go_num, rfl, rfl, by omega, HO3.out, HW3.out, HB3.out, by omega⟩
          case measure => simp [intOf]; omega
      | false =>
        cases done with
        | true =>
          obtain ⟨Z, hZ⟩ : ∃ Z, wr.heap.size = Z := ⟨_, rfl⟩
          obtain ⟨u, hu⟩ : ∃ u, a ++ text = u := ⟨_, rfl⟩
          have hus : u.size = a.size + text.size := by rw [← hu, ByteArray.size_append]
          have hsum := HAB.out
          have htk := HTK.out
          have hfit : ¬ 9223372036854775807 < a.size + text.size := str_fits _ _ (tot L) (by simp only at htk; omega) ht
          have hbnd : a.size + text.size ≤ 2097152 := by simp only at htk; omega
          have hbr : b.size ≤ 2097152 := by simp only at htk; omega
          have hbu : u.size ≤ 2097152 := by omega
          have hzr := piece_row wr false true text 40
          rw [hZ] at hzr
          have hxZ : x < Z := by have := HRX.out.lt; omega
          have hyZ : y < Z := by have := HRY.out.lt; omega
          have HZR := Lib.hid hzr; have HU := Lib.hid (And.intro hus (And.intro hsum htk))
          clear hzr hus hsum htk
          go_wp2_with fail
          refine (write_sha x a text u _ hbnd hu (HRX.out.alloc _)).mono ?_
          rintro e w3 ⟨rfl, hw3, hg3⟩
          have ho3 : w3.rowIs y 63 70 (stCell (feed st0 b.data.toList)) := (HRY.out.alloc _).of_block (hg3.block y (by simp; omega) (by simp; omega))
          have hz3 : w3.rowIs Z 40 3 (pieceCell false true text) := HZR.out.of_block (hg3.block Z (by simp; omega) (by simp; omega))
          have hb3 : Below x w w3 := (HB.out.alloc (by omega) _).grown hg3 (by simp; omega) (fun k hk => by cases hk; omega)
          have k1 : w3.cell? ⟨Z, 1, none⟩ = some (.bool true) := hz3.cell (by decide)
          have k2 : w3.cell? ⟨Z, 2, none⟩ = some (.string text) := hz3.cell (by decide)
          have HW3 := Lib.hid hw3; have HO3 := Lib.hid ho3; have HB3 := Lib.hid hb3
          clear hw3 hg3 ho3 hz3 hb3
          go_wp2_with fail
          refine (done_shaB x u _ hbu HW3.out).mono ?_
          rintro e w4 ⟨rfl, hw4⟩
          go_wp2_with fail
          refine (rsha21 u _ hbu).mono ?_
          rintro e w5 ⟨rfl, hw5⟩
          have hh0 := hw4.trans (hw5.mono hw4.size)
          have hw0' : w5.rowIs x 63 70 (stCell (feed st0 u.data.toList)) := HW3.out.of_block (hh0.block x HW3.out.lt)
          have ho0' : w5.rowIs y 63 70 (stCell (feed st0 b.data.toList)) := HO3.out.of_block (hh0.block y HO3.out.lt)
          have hb0' : Below x w w5 := HB3.out.trans (hh0.mono (by have := HW3.out.lt; have := HO3.out.lt; omega))
          have HW10 := Lib.hid hw0'; have HO10 := Lib.hid ho0'; have HB10 := Lib.hid hb0'
          clear hw4 hw5 hh0 hw0' ho0' hb0'
          go_wp2_with fail
          refine (done_shaB y b _ hbr HO10.out).mono ?_
          rintro e w6 ⟨rfl, hw6⟩
          go_wp2_with fail
          refine (rsha21 b _ hbr).mono ?_
          rintro e w7 ⟨rfl, hw7⟩
          have hh1 := hw6.trans (hw7.mono hw6.size)
          have hw1' : w7.rowIs x 63 70 (stCell (feed st0 u.data.toList)) := HW10.out.of_block (hh1.block x HW10.out.lt)
          have ho1' : w7.rowIs y 63 70 (stCell (feed st0 b.data.toList)) := HO10.out.of_block (hh1.block y HO10.out.lt)
          have hb1' : Below x w w7 := HB10.out.trans (hh1.mono (by have := HW10.out.lt; have := HO10.out.lt; omega))
          have HW11 := Lib.hid hw1'; have HO11 := Lib.hid ho1'; have HB11 := Lib.hid hb1'
          clear hw6 hw7 hh1 hw1' ho1' hb1'
          go_wp2_with fail
          refine (len_sha x u _ HW11.out).mono ?_
          rintro e w' ⟨rfl, rfl⟩
          go_wp2_with fail
          refine (len_sha y b _ HO11.out).mono ?_
          rintro e w' ⟨rfl, rfl⟩
          go_wp2
          go_roundw
          case rel =>
            have h1 := HU.out.2.1
            have h2 := HU.out.2.2.1
            have h3 := HU.out.1
            exact ⟨i + 1, u, b, by go_num, rfl, rfl, by omega, HW11.out, HO11.out, HB11.out, by omega⟩
          case measure => simp [intOf]; omega
        | false =>
          obtain ⟨Z, hZ⟩ : ∃ Z, wr.heap.size = Z := ⟨_, rfl⟩
          obtain ⟨u, hu⟩ : ∃ u, a ++ text = u := ⟨_, rfl⟩
          have hus : u.size = a.size + text.size := by rw [← hu, ByteArray.size_append]
          have hsum := HAB.out
          have htk := HTK.out
          have hfit : ¬ 9223372036854775807 < a.size + text.size := str_fits _ _ (tot L) (by simp only at htk; omega) ht
          have hbnd : a.size + text.size ≤ 2097152 := by simp only at htk; omega
          have hbr : b.size ≤ 2097152 := by simp only at htk; omega
          have hbu : u.size ≤ 2097152 := by omega
          have hzr := piece_row wr false false text 40
          rw [hZ] at hzr
          have hxZ : x < Z := by have := HRX.out.lt; omega
          have hyZ : y < Z := by have := HRY.out.lt; omega
          have HZR := Lib.hid hzr; have HU := Lib.hid (And.intro hus (And.intro hsum htk))
          clear hzr hus hsum htk
          go_wp2_with fail
          refine (write_sha x a text u _ hbnd hu (HRX.out.alloc _)).mono ?_
          rintro e w3 ⟨rfl, hw3, hg3⟩
          have ho3 : w3.rowIs y 63 70 (stCell (feed st0 b.data.toList)) := (HRY.out.alloc _).of_block (hg3.block y (by simp; omega) (by simp; omega))
          have hz3 : w3.rowIs Z 40 3 (pieceCell false false text) := HZR.out.of_block (hg3.block Z (by simp; omega) (by simp; omega))
          have hb3 : Below x w w3 := (HB.out.alloc (by omega) _).grown hg3 (by simp; omega) (fun k hk => by cases hk; omega)
          have k1 : w3.cell? ⟨Z, 1, none⟩ = some (.bool false) := hz3.cell (by decide)
          have k2 : w3.cell? ⟨Z, 2, none⟩ = some (.string text) := hz3.cell (by decide)
          have HW3 := Lib.hid hw3; have HO3 := Lib.hid ho3; have HB3 := Lib.hid hb3
          clear hw3 hg3 ho3 hz3 hb3
          go_wp2_with fail
          refine (len_sha x u _ HW3.out).mono ?_
          rintro e w' ⟨rfl, rfl⟩
          go_wp2_with fail
          refine (len_sha y b _ HO3.out).mono ?_
          rintro e w' ⟨rfl, rfl⟩
          go_wp2
          go_roundw
          case rel =>
            have h1 := HU.out.2.1
            have h2 := HU.out.2.2.1
            have h3 := HU.out.1
            exact ⟨i + 1, u, b, by go_num, rfl, rfl, by omega, HW3.out, HO3.out, HB3.out, by omega⟩
          case measure => simp [intOf]; omega
    · have hil : i = L.length := by omega
      have ha : a.size ≤ 2097152 := by rw [hil, List.take_length] at hab; omega
      have hb0 : b.size ≤ 2097152 := by rw [hil, List.take_length] at hab; omega
      have hdl : decide (i < L.length) = false := decide_eq_false hlt
      have HRX := Lib.hid hrx; have HRY := Lib.hid hry; have HB := Lib.hid hbw
      clear hrx hry hbw hab hil hlt
      go_wp2_with fail
      refine (awake_any _).mono ?_
      rintro e w3 ⟨rfl, h3⟩
      have B3 := HB.out.trans (h3.mono (by have := HRX.out.lt; omega))
      have X3 := HRX.out.of_block (h3.block x HRX.out.lt)
      have Y3 := HRY.out.of_block (h3.block y HRY.out.lt)
      have HX3 := Lib.hid X3; have HY3 := Lib.hid Y3; have HB3 := Lib.hid B3
      clear X3 Y3 B3 h3
      go_wp2_with fail
      refine (done_shaB x a _ ha HX3.out).mono ?_
      rintro e v3 ⟨rfl, g1⟩
      go_wp2_with fail
      refine (rsha21 a _ ha).mono ?_
      rintro e w4 ⟨rfl, g2⟩
      have g3 := g1.trans (g2.mono g1.size)
      have B3 := HB3.out.trans (g3.mono (by have := HX3.out.lt; omega))
      have X3 := HX3.out.of_block (g3.block x HX3.out.lt)
      have Y3 := HY3.out.of_block (g3.block y HY3.out.lt)
      have HX4 := Lib.hid X3; have HY4 := Lib.hid Y3; have HB4 := Lib.hid B3
      clear X3 Y3 B3 g1 g2 g3
      go_wp2_with fail
      refine (done_shaB x a _ ha HX4.out).mono ?_
      rintro e v4 ⟨rfl, g1⟩
      go_wp2_with fail
      refine (rsha21 a _ ha).mono ?_
      rintro e w5 ⟨rfl, g2⟩
      have g3 := g1.trans (g2.mono g1.size)
      have B3 := HB4.out.trans (g3.mono (by have := HX4.out.lt; omega))
      have X3 := HX4.out.of_block (g3.block x HX4.out.lt)
      have Y3 := HY4.out.of_block (g3.block y HY4.out.lt)
      have HX5 := Lib.hid X3; have HY5 := Lib.hid Y3; have HB5 := Lib.hid B3
      clear X3 Y3 B3 g1 g2 g3
      go_wp2_with fail
      refine (done_shaB y b _ hb0 HY5.out).mono ?_
      rintro e v5 ⟨rfl, g1⟩
      go_wp2_with fail
      refine (rsha21 b _ hb0).mono ?_
      rintro e w6 ⟨rfl, g2⟩
      have g3 := g1.trans (g2.mono g1.size)
      have B3 := HB5.out.trans (g3.mono (by have := HX5.out.lt; omega))
      have X3 := HX5.out.of_block (g3.block x HX5.out.lt)
      have Y3 := HY5.out.of_block (g3.block y HY5.out.lt)
      have HX6 := Lib.hid X3; have HY6 := Lib.hid Y3; have HB6 := Lib.hid B3
      clear X3 Y3 B3 g1 g2 g3
      go_wp2
      go_ret
      exact ⟨rfl, by rw [hx]; exact HB6.out⟩
end Go.Proofs.Ytpehogkgiikjmaa
