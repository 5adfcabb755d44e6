/- Quoted texts: plain, and the walks of octet.Quote and the reference's IsField and Quote. Conditions: fewer than 2^40 bytes. -/
import Derived.Test.YtpdbejeiceodkaaGreatDoorOct5
namespace Go.Proofs.YtpdbejeiceodkaaGreatDoor
open Go.RowKit
set_option linter.unusedSimpArgs false
set_option linter.unusedVariables false
set_option maxRecDepth 1000000
/-- A byte of a quoted text. -/
def esc (c : UInt8) : List UInt8 := if c = 34 ∨ c = 92 then [92, c] else [c]
def escL (l : List UInt8) : List UInt8 := l.flatMap esc
def qtL (l : List UInt8) : List UInt8 := 34 :: (escL l ++ [34])
def qtR (l : List UInt8) : List UInt8 × Nat := if isFld l then (qtL l, 0) else ([], 13)
theorem escL_take (l : List UInt8) (i : Nat) (c : UInt8) (h : l[i]? = some c) : escL (l.take (i + 1)) = escL (l.take i) ++ esc c := by
  unfold escL
  rw [List.take_add_one, h, Option.toList_some, List.flatMap_append]
  simp
theorem escL_len (l : List UInt8) : (escL l).length ≤ 2 * l.length := by
  induction l with
  | nil => simp [escL]
  | cons c r ih =>
    have e : escL (c :: r) = esc c ++ escL r := rfl
    have h1 : (esc c).length ≤ 2 := by unfold esc; split <;> simp
    rw [e, List.length_append, List.length_cons]
    omega
theorem qtL_len (l : List UInt8) : (qtL l).length ≤ 2 * l.length + 2 := by
  have := escL_len l
  unfold qtL
  rw [List.length_cons, List.length_append, List.length_singleton]
  omega
theorem esc_take_len (l : List UInt8) (i : Nat) (n : Nat) (hi : i ≤ n) (hn : n ≤ 1099511627776) : (34 :: escL (l.take i)).length + 2 ≤ 140737488355328 := by
  have h1 := escL_len (l.take i)
  have h2 : (l.take i).length ≤ i := by rw [List.length_take]; omega
  rw [List.length_cons]
  omega
theorem writeByte_34 (B b : Nat) (acc : List UInt8) (w : World) (h : Lib.IsBuilder 156 5 B b (Lib.byteCells acc) w) (hlen : acc.length + 1 ≤ 140737488355328) (hBw : B ≤ w.heap.size) :
    Calls Tryz.prog 93 #[.pointer (some ⟨b, 0, none⟩), .int .u8 34] w fun e w' => e = .returned .nilIface ∧ Lib.IsBuilder 156 5 B b (Lib.byteCells (acc ++ [34])) w' ∧ Below B w w' :=
  writeByte_u8 B b acc 34 w h hlen hBw
theorem writeByte_92 (B b : Nat) (acc : List UInt8) (w : World) (h : Lib.IsBuilder 156 5 B b (Lib.byteCells acc) w) (hlen : acc.length + 1 ≤ 140737488355328) (hBw : B ≤ w.heap.size) :
    Calls Tryz.prog 93 #[.pointer (some ⟨b, 0, none⟩), .int .u8 92] w fun e w' => e = .returned .nilIface ∧ Lib.IsBuilder 156 5 B b (Lib.byteCells (acc ++ [92])) w' ∧ Below B w w' :=
  writeByte_u8 B b acc 92 w h hlen hBw
set_option maxHeartbeats 32000000 in
theorem oquote_any (s : ByteArray) (w : World) (hs : s.size ≤ 1099511627776) :
    Calls Tryz.prog 182 #[.string s] w fun e w' => e = .returned (.tuple #[.string ⟨(qtR s.data.toList).1.toArray⟩, .int .i64 ((qtR s.data.toList).2 : Nat)]) ∧ Below w.heap.size w w' := by
  have hf := oisfield_any s w hs
  cases hfld : isFld s.data.toList with
  | false =>
    rw [hfld] at hf
    have hq : qtR s.data.toList = ([], 13) := by unfold qtR; rw [hfld]; rfl
    have HQ := Lib.hid hq
    have HF := Lib.hid hf
    clear hq hfld hf
    go_enter Tryz.func182, Tryz.ntmps182
    go_wp2_with fail
    refine (HF.out).mono ?_
    rintro e w1 ⟨rfl, rfl⟩
    go_wp2
    go_ret2
    rw [HQ.out]
    exact ⟨rfl, Below.refl _ _⟩
  | true =>
    rw [hfld] at hf
    have hq : qtR s.data.toList = (qtL s.data.toList, 0) := by unfold qtR; rw [hfld]; rfl
    have HQ := Lib.hid hq
    have HF := Lib.hid hf
    clear hq hfld hf
    go_enter Tryz.func182, Tryz.ntmps182
    go_wp2_with fail
    refine (HF.out).mono ?_
    rintro e w1 ⟨rfl, rfl⟩
    go_wp2_with fail
    refine (writeByte_34 w1.heap.size w1.heap.size [] _ (Lib.fresh_isBuilder _ _ w1) (by decide) (by simp)).mono ?_
    rintro e w2 ⟨rfl, hO2, hb2⟩
    have hb0 : Below w1.heap.size w1 w2 := ((Below.refl _ w1).alloc (Nat.le_refl _) _).trans hb2
    have HS := Lib.hid (And.intro hO2 hb0)
    clear hO2 hb2 hb0
    go_wp2
    go_loopw [12] (fun iv wr => ∃ i : Nat, iv = .int .i64 i ∧ i ≤ s.size ∧ Lib.IsBuilder 156 5 w1.heap.size w1.heap.size (Lib.byteCells (34 :: escL (s.data.toList.take i))) wr ∧ Below w1.heap.size w1 wr) (fun iv _ => s.size - (intOf iv).toNat)
    case atStart => exact ⟨0, rfl, Nat.zero_le _, HS.out.1, HS.out.2⟩
    case round =>
      clear HS
      obtain ⟨i, rfl, hi, hO, hb⟩ := hrel
      have hbd := esc_take_len s.data.toList i s.size hi hs
      have hBw := hb.size
      by_cases hlt : i < s.size
      · obtain ⟨c, hc⟩ : ∃ c, s[i]'hlt = c := ⟨_, rfl⟩
        have hget := list_get s i hlt
        rw [hc] at hget
        have k0 : (0 : Int) ≤ (i : Int) := Int.natCast_nonneg _
        have k1 : (i : Int) < (s.size : Int) := by omega
        have hwi := w64o i (le_oo i s.size hi hs)
        have htk := escL_take s.data.toList i c hget
        have HW := Lib.hid (And.intro hwi htk)
        clear hwi htk hget
        by_cases h34 : c = 34
        · have b34 : ((c.toNat : Int) == 34) = true := by rw [h34]; rfl
          have he : ∀ wx, Lib.IsBuilder 156 5 w1.heap.size w1.heap.size (Lib.byteCells (34 :: escL (s.data.toList.take i) ++ [92] ++ [c])) wx → Lib.IsBuilder 156 5 w1.heap.size w1.heap.size (Lib.byteCells (34 :: escL (s.data.toList.take (i + 1)))) wx := fun wx h => by
            rw [HW.out.2, show esc c = [92, c] from by unfold esc; rw [if_pos (Or.inl h34)]]
            simpa using h
          have HE := Lib.hid he
          clear he h34
          go_wp2_with fail
          refine (writeByte_92 _ _ _ _ hO (by omega) hBw).mono ?_
          rintro e w3 ⟨rfl, hO3, hb3⟩
          have hb5 := hb.trans hb3
          have hl5 : (34 :: escL (s.data.toList.take i) ++ [92]).length + 1 ≤ 140737488355328 := by rw [List.length_append, List.length_singleton]; omega
          go_wp2_with fail
          refine (writeByte_u8 _ _ _ c _ hO3 hl5 hb5.size).mono ?_
          rintro e w4 ⟨rfl, hO4, hb4⟩
          have hn := HE.out _ hO4
          have HN := Lib.hid (And.intro hn (hb5.trans (hb4.mono (Nat.le_refl _))))
          clear hn hO4 hb4
          go_wp2
          have hwi := HW.out.1
          go_roundw
          case rel => (try rw [hwi]); clear hwi; exact ⟨i + 1, by go_num, by omega, HN.out.1, HN.out.2⟩
          case measure => (try rw [hwi]); clear hwi; simp [intOf]; omega
        · have b34 : ((c.toNat : Int) == 34) = false := (ne_u8o c 34 (by decide) h34).1
          by_cases h92 : c = 92
          · have b92 : ((c.toNat : Int) == 92) = true := by rw [h92]; rfl
            have he : ∀ wx, Lib.IsBuilder 156 5 w1.heap.size w1.heap.size (Lib.byteCells (34 :: escL (s.data.toList.take i) ++ [92] ++ [c])) wx → Lib.IsBuilder 156 5 w1.heap.size w1.heap.size (Lib.byteCells (34 :: escL (s.data.toList.take (i + 1)))) wx := fun wx h => by
              rw [HW.out.2, show esc c = [92, c] from by unfold esc; rw [if_pos (Or.inr h92)]]
              simpa using h
            have HE := Lib.hid he
            clear he h92 h34
            go_wp2_with fail
            refine (writeByte_92 _ _ _ _ hO (by omega) hBw).mono ?_
            rintro e w3 ⟨rfl, hO3, hb3⟩
            have hb5 := hb.trans hb3
            have hl5 : (34 :: escL (s.data.toList.take i) ++ [92]).length + 1 ≤ 140737488355328 := by rw [List.length_append, List.length_singleton]; omega
            go_wp2_with fail
            refine (writeByte_u8 _ _ _ c _ hO3 hl5 hb5.size).mono ?_
            rintro e w4 ⟨rfl, hO4, hb4⟩
            have hn := HE.out _ hO4
            have HN := Lib.hid (And.intro hn (hb5.trans (hb4.mono (Nat.le_refl _))))
            clear hn hO4 hb4
            go_wp2
            have hwi := HW.out.1
            go_roundw
            case rel => (try rw [hwi]); clear hwi; exact ⟨i + 1, by go_num, by omega, HN.out.1, HN.out.2⟩
            case measure => (try rw [hwi]); clear hwi; simp [intOf]; omega
          · have b92 : ((c.toNat : Int) == 92) = false := (ne_u8o c 92 (by decide) h92).1
            have he : ∀ wx, Lib.IsBuilder 156 5 w1.heap.size w1.heap.size (Lib.byteCells (34 :: escL (s.data.toList.take i) ++ [c])) wx → Lib.IsBuilder 156 5 w1.heap.size w1.heap.size (Lib.byteCells (34 :: escL (s.data.toList.take (i + 1)))) wx := fun wx h => by
              rw [HW.out.2, show esc c = [c] from by unfold esc; rw [if_neg (by intro e; rcases e with e | e; exact h34 e; exact h92 e)]]
              exact h
            have HE := Lib.hid he
            clear he h92 h34
            go_wp2_with fail
            refine (writeByte_u8 _ _ _ c _ hO (by omega) hBw).mono ?_
            rintro e w4 ⟨rfl, hO4, hb4⟩
            have hn := HE.out _ hO4
            have HN := Lib.hid (And.intro hn (hb.trans (hb4.mono (Nat.le_refl _))))
            clear hn hO4 hb4
            go_wp2
            have hwi := HW.out.1
            go_roundw
            case rel => (try rw [hwi]); clear hwi; exact ⟨i + 1, by go_num, by omega, HN.out.1, HN.out.2⟩
            case measure => (try rw [hwi]); clear hwi; simp [intOf]; omega
      · obtain rfl : i = s.size := by omega
        have hd : decide (s.size < s.size) = false := decide_eq_false (Nat.lt_irrefl _)
        rw [List.take_of_length_le (by rw [size_list]; exact Nat.le_refl _)] at hO hbd
        go_wp2_with fail
        refine (writeByte_34 _ _ _ _ hO (by omega) hBw).mono ?_
        rintro e w3 ⟨rfl, hO3, hb3⟩
        have hb5 := hb.trans hb3
        go_wp2_with (go_at_call 94; refine (Tryz.Builder_String_any _ _ (34 :: escL s.data.toList ++ [34]) _ hO3 hb5.size).mono ?_)
        rintro e w4 ⟨rfl, hb4⟩
        go_wp2
        go_ret2
        rw [HQ.out]
        exact ⟨rfl, hb5.trans hb4⟩
end Go.Proofs.YtpdbejeiceodkaaGreatDoor
