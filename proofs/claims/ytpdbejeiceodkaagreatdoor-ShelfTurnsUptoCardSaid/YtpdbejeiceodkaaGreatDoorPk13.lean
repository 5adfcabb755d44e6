/- Qt, PmP, QuP, CodP: texts of the seat, one behind the other (a claim holds at most sixty). Conditions: each theorem names its own. -/
import Derived.Test.YtpdbejeiceodkaaGreatDoorPk09
import Derived.Test.YtpdbejeiceodkaaGreatDoorPk04
import Derived.Test.YtpdbejeiceodkaaGreatDoorPk12
import Derived.Test.YtpdbejeiceodkaaGreatDoorPk01
import Derived.Test.YtpdbejeiceodkaaGreatDoorPk00
import Derived.Lib.IndexLaws
import Derived.Lib.IndexMore
import Derived.Lib.IndexBytes
namespace Go.Proofs.YtpdbejeiceodkaaGreatDoor
open Go.RowKit
set_option linter.unusedSimpArgs false
set_option linter.unusedVariables false
set_option maxRecDepth 1000000
/-- A byte of a quoted text. -/
def esc (c : UInt8) : List UInt8 := if c = 34 ∨ c = 92 then [92, c] else [c]
def escL (l : List UInt8) : List UInt8 := l.flatMap esc
def qtL (l : List UInt8) : List UInt8 := 34 :: (escL l ++ [34])
def qtR (l : List UInt8) : List UInt8 × Nat := if isFld l then (qtL l, 0) else ([], 13)
theorem escL_take (l : List UInt8) (i : Nat) (c : UInt8) (h : l[i]? = some c) : escL (l.take (i + 1)) = escL (l.take i) ++ esc c := by
  unfold escL
  rw [List.take_add_one, h, Option.toList_some, List.flatMap_append]
  simp
theorem escL_len (l : List UInt8) : (escL l).length ≤ 2 * l.length := by
  induction l with
  | nil => simp [escL]
  | cons c r ih =>
    have e : escL (c :: r) = esc c ++ escL r := rfl
    have h1 : (esc c).length ≤ 2 := by unfold esc; split <;> simp
    rw [e, List.length_append, List.length_cons]
    omega
theorem qtL_len (l : List UInt8) : (qtL l).length ≤ 2 * l.length + 2 := by
  have := escL_len l
  unfold qtL
  rw [List.length_cons, List.length_append, List.length_singleton]
  omega
theorem esc_take_len (l : List UInt8) (i : Nat) (n : Nat) (hi : i ≤ n) (hn : n ≤ 1099511627776) : (34 :: escL (l.take i)).length + 2 ≤ 140737488355328 := by
  have h1 := escL_len (l.take i)
  have h2 : (l.take i).length ≤ i := by rw [List.length_take]; omega
  rw [List.length_cons]
  omega
theorem writeByte_34 (B b : Nat) (acc : List UInt8) (w : World) (h : Lib.IsBuilder 156 5 B b (Lib.byteCells acc) w) (hlen : acc.length + 1 ≤ 140737488355328) (hBw : B ≤ w.heap.size) :
    Calls Tryz.prog 93 #[.pointer (some ⟨b, 0, none⟩), .int .u8 34] w fun e w' => e = .returned .nilIface ∧ Lib.IsBuilder 156 5 B b (Lib.byteCells (acc ++ [34])) w' ∧ Below B w w' :=
  writeByte_u8 B b acc 34 w h hlen hBw
theorem writeByte_92 (B b : Nat) (acc : List UInt8) (w : World) (h : Lib.IsBuilder 156 5 B b (Lib.byteCells acc) w) (hlen : acc.length + 1 ≤ 140737488355328) (hBw : B ≤ w.heap.size) :
    Calls Tryz.prog 93 #[.pointer (some ⟨b, 0, none⟩), .int .u8 92] w fun e w' => e = .returned .nilIface ∧ Lib.IsBuilder 156 5 B b (Lib.byteCells (acc ++ [92])) w' ∧ Below B w w' :=
  writeByte_u8 B b acc 92 w h hlen hBw
set_option maxHeartbeats 32000000 in
theorem oquote_any (s : ByteArray) (w : World) (hs : s.size ≤ 1099511627776) :
    Calls Tryz.prog 182 #[.string s] w fun e w' => e = .returned (.tuple #[.string ⟨(qtR s.data.toList).1.toArray⟩, .int .i64 ((qtR s.data.toList).2 : Nat)]) ∧ Below w.heap.size w w' := by
  have hf := oisfield_any s w hs
  cases hfld : isFld s.data.toList with
  | false =>
    rw [hfld] at hf
    have hq : qtR s.data.toList = ([], 13) := by unfold qtR; rw [hfld]; rfl
    have HQ := Lib.hid hq
    have HF := Lib.hid hf
    clear hq hfld hf
    go_enter Tryz.func182, Tryz.ntmps182
    go_wp2_with fail
    refine (HF.out).mono ?_
    rintro e w1 ⟨rfl, rfl⟩
    go_wp2
    go_ret2
    rw [HQ.out]
    exact ⟨rfl, Below.refl _ _⟩
  | true =>
    rw [hfld] at hf
    have hq : qtR s.data.toList = (qtL s.data.toList, 0) := by unfold qtR; rw [hfld]; rfl
    have HQ := Lib.hid hq
    have HF := Lib.hid hf
    clear hq hfld hf
    go_enter Tryz.func182, Tryz.ntmps182
    go_wp2_with fail
    refine (HF.out).mono ?_
    rintro e w1 ⟨rfl, rfl⟩
    go_wp2_with fail
    refine (writeByte_34 w1.heap.size w1.heap.size [] _ (Lib.fresh_isBuilder _ _ w1) (by decide) (by simp)).mono ?_
    rintro e w2 ⟨rfl, hO2, hb2⟩
    have hb0 : Below w1.heap.size w1 w2 := ((Below.refl _ w1).alloc (Nat.le_refl _) _).trans hb2
    have HS := Lib.hid (And.intro hO2 hb0)
    clear hO2 hb2 hb0
    go_wp2
    go_loopw [12] (fun iv wr => ∃ i : Nat, iv = .int .i64 i ∧ i ≤ s.size ∧ Lib.IsBuilder 156 5 w1.heap.size w1.heap.size (Lib.byteCells (34 :: escL (s.data.toList.take i))) wr ∧ Below w1.heap.size w1 wr) (fun iv _ => s.size - (intOf iv).toNat)
    case atStart => exact ⟨0, rfl, Nat.zero_le _, HS.out.1, HS.out.2⟩
    case round =>
      clear HS
      obtain ⟨i, rfl, hi, hO, hb⟩ := hrel
      have hbd := esc_take_len s.data.toList i s.size hi hs
      have hBw := hb.size
      by_cases hlt : i < s.size
      · obtain ⟨c, hc⟩ : ∃ c, s[i]'hlt = c := ⟨_, rfl⟩
        have hget := list_get s i hlt
        rw [hc] at hget
        have k0 : (0 : Int) ≤ (i : Int) := Int.natCast_nonneg _
        have k1 : (i : Int) < (s.size : Int) := by omega
        have hwi := w64o i (le_oo i s.size hi hs)
        have htk := escL_take s.data.toList i c hget
        have HW := Lib.hid (And.intro hwi htk)
        clear hwi htk hget
        by_cases h34 : c = 34
        · have b34 : ((c.toNat : Int) == 34) = true := by rw [h34]; rfl
          have he : ∀ wx, Lib.IsBuilder 156 5 w1.heap.size w1.heap.size (Lib.byteCells (34 :: escL (s.data.toList.take i) ++ [92] ++ [c])) wx → Lib.IsBuilder 156 5 w1.heap.size w1.heap.size (Lib.byteCells (34 :: escL (s.data.toList.take (i + 1)))) wx := fun wx h => by
            rw [HW.out.2, show esc c = [92, c] from by unfold esc; rw [if_pos (Or.inl h34)]]
            simpa using h
          have HE := Lib.hid he
          clear he h34
          go_wp2_with fail
          refine (writeByte_92 _ _ _ _ hO (by omega) hBw).mono ?_
          rintro e w3 ⟨rfl, hO3, hb3⟩
          have hb5 := hb.trans hb3
          have hl5 : (34 :: escL (s.data.toList.take i) ++ [92]).length + 1 ≤ 140737488355328 := by rw [List.length_append, List.length_singleton]; omega
          go_wp2_with fail
          refine (writeByte_u8 _ _ _ c _ hO3 hl5 hb5.size).mono ?_
          rintro e w4 ⟨rfl, hO4, hb4⟩
          have hn := HE.out _ hO4
          have HN := Lib.hid (And.intro hn (hb5.trans (hb4.mono (Nat.le_refl _))))
          clear hn hO4 hb4
          go_wp2
          have hwi := HW.out.1
          go_roundw
          case rel => (try rw [hwi]); clear hwi; exact ⟨i + 1, by go_num, by omega, HN.out.1, HN.out.2⟩
          case measure => (try rw [hwi]); clear hwi; simp [intOf]; omega
        · have b34 : ((c.toNat : Int) == 34) = false := (ne_u8o c 34 (by decide) h34).1
          by_cases h92 : c = 92
          · have b92 : ((c.toNat : Int) == 92) = true := by rw [h92]; rfl
            have he : ∀ wx, Lib.IsBuilder 156 5 w1.heap.size w1.heap.size (Lib.byteCells (34 :: escL (s.data.toList.take i) ++ [92] ++ [c])) wx → Lib.IsBuilder 156 5 w1.heap.size w1.heap.size (Lib.byteCells (34 :: escL (s.data.toList.take (i + 1)))) wx := fun wx h => by
              rw [HW.out.2, show esc c = [92, c] from by unfold esc; rw [if_pos (Or.inr h92)]]
              simpa using h
            have HE := Lib.hid he
            clear he h92 h34
            go_wp2_with fail
            refine (writeByte_92 _ _ _ _ hO (by omega) hBw).mono ?_
            rintro e w3 ⟨rfl, hO3, hb3⟩
            have hb5 := hb.trans hb3
            have hl5 : (34 :: escL (s.data.toList.take i) ++ [92]).length + 1 ≤ 140737488355328 := by rw [List.length_append, List.length_singleton]; omega
            go_wp2_with fail
            refine (writeByte_u8 _ _ _ c _ hO3 hl5 hb5.size).mono ?_
            rintro e w4 ⟨rfl, hO4, hb4⟩
            have hn := HE.out _ hO4
            have HN := Lib.hid (And.intro hn (hb5.trans (hb4.mono (Nat.le_refl _))))
            clear hn hO4 hb4
            go_wp2
            have hwi := HW.out.1
            go_roundw
            case rel => (try rw [hwi]); clear hwi; exact ⟨i + 1, by go_num, by omega, HN.out.1, HN.out.2⟩
            case measure => (try rw [hwi]); clear hwi; simp [intOf]; omega
          · have b92 : ((c.toNat : Int) == 92) = false := (ne_u8o c 92 (by decide) h92).1
            have he : ∀ wx, Lib.IsBuilder 156 5 w1.heap.size w1.heap.size (Lib.byteCells (34 :: escL (s.data.toList.take i) ++ [c])) wx → Lib.IsBuilder 156 5 w1.heap.size w1.heap.size (Lib.byteCells (34 :: escL (s.data.toList.take (i + 1)))) wx := fun wx h => by
              rw [HW.out.2, show esc c = [c] from by unfold esc; rw [if_neg (by intro e; rcases e with e | e; exact h34 e; exact h92 e)]]
              exact h
            have HE := Lib.hid he
            clear he h92 h34
            go_wp2_with fail
            refine (writeByte_u8 _ _ _ c _ hO (by omega) hBw).mono ?_
            rintro e w4 ⟨rfl, hO4, hb4⟩
            have hn := HE.out _ hO4
            have HN := Lib.hid (And.intro hn (hb.trans (hb4.mono (Nat.le_refl _))))
            clear hn hO4 hb4
            go_wp2
            have hwi := HW.out.1
            go_roundw
            case rel => (try rw [hwi]); clear hwi; exact ⟨i + 1, by go_num, by omega, HN.out.1, HN.out.2⟩
            case measure => (try rw [hwi]); clear hwi; simp [intOf]; omega
      · obtain rfl : i = s.size := by omega
        have hd : decide (s.size < s.size) = false := decide_eq_false (Nat.lt_irrefl _)
        rw [List.take_of_length_le (by rw [size_list]; exact Nat.le_refl _)] at hO hbd
        go_wp2_with fail
        refine (writeByte_34 _ _ _ _ hO (by omega) hBw).mono ?_
        rintro e w3 ⟨rfl, hO3, hb3⟩
        have hb5 := hb.trans hb3
        go_wp2_with (go_at_call 94; refine (Tryz.Builder_String_any _ _ (34 :: escL s.data.toList ++ [34]) _ hO3 hb5.size).mono ?_)
        rintro e w4 ⟨rfl, hb4⟩
        go_wp2
        go_ret2
        rw [HQ.out]
        exact ⟨rfl, hb5.trans hb4⟩
end Go.Proofs.YtpdbejeiceodkaaGreatDoor
namespace Go.Proofs.YtpdbejeiceodkaaGreatDoor
open Go.RowKit
set_option linter.unusedSimpArgs false
set_option linter.unusedVariables false
set_option maxRecDepth 100000
def prmOk (p : Par) : Bool := isTok p.1 && (isFld p.2.1 && (p.2.2 || p.2.1.isEmpty))
def prVal (v : List UInt8) : List UInt8 := if isTok v = true then v else qtL v
def prOne (p : Par) : List UInt8 := 59 :: 32 :: p.1 ++ (if p.2.2 = true then 61 :: prVal p.2.1 else [])
def prAll (ps : List Par) : List UInt8 := ps.flatMap prOne
/-- Parameters as text, and an error's number. -/
def prmR (ps : List Par) : List UInt8 × Nat := if ps.all prmOk = true then (prAll ps, 0) else ([], 15)
theorem prAll_take (ps : List Par) (i : Nat) (p : Par) (h : ps[i]? = some p) : prAll (ps.take (i + 1)) = prAll (ps.take i) ++ prOne p := by
  unfold prAll
  rw [List.take_add_one, h, Option.toList_some, List.flatMap_append]
  simp
theorem prmR_no (ps : List Par) (i : Nat) (p : Par) (h : ps[i]? = some p) (hp : prmOk p = false) : prmR ps = ([], 15) := by
  unfold prmR; rw [all_no _ _ i p h hp]; rfl
theorem prmR_yes (ps : List Par) (h : ps.all prmOk = true) : prmR ps = (prAll ps, 0) := by unfold prmR; rw [h]; rfl
def small (l : List UInt8) : Bool := decide (lowL l = l)
def smN (p : Par) : Bool := small p.1
def mprOk (m : Mdm) : Bool := m.ps.all prmOk && (isTok m.ty && (isTok m.sub && (small m.ty && (small m.sub && (allVal m.ps && m.ps.all smN)))))
/-- A media type as text, and an error's number. -/
def mprR (m : Mdm) : List UInt8 × Nat := if mprOk m = true then (m.ty ++ 47 :: (m.sub ++ prAll m.ps), 0) else ([], 70)
theorem small_app (a b : List UInt8) : small (a ++ b) = (small a && small b) := by
  unfold small
  rw [Bool.eq_iff_iff]
  rw [Bool.and_eq_true, decide_eq_true_eq, decide_eq_true_eq, decide_eq_true_eq]
  unfold lowL
  rw [List.map_append]
  constructor
  · intro h; exact List.append_inj h (by simp)
  · rintro ⟨h1, h2⟩; rw [h1, h2]
/-! Back. -/
theorem runL_of (p : UInt8 → Bool) (a b : List UInt8) (ha : a.all p = true) (hb : ∀ c, b[0]? = some c → p c = false) : runL p (a ++ b) = a.length := by
  unfold runL
  rw [List.takeWhile_append_of_pos (by simpa using ha)]
  cases b with
  | nil => simp
  | cons c r => rw [List.takeWhile_cons, hb c rfl]; simp
theorem tok_all {l : List UInt8} (h : isTok l = true) : l.all isSg = true := by unfold isTok at h; simp only [Bool.and_eq_true] at h; exact h.2
theorem tok_ne {l : List UInt8} (h : isTok l = true) : l ≠ [] := by rintro rfl; simp [isTok] at h
theorem unqT_esc (v t : List UInt8) (hv : isFld v = true) : unqT (escL v ++ 34 :: t) = some (v, (escL v).length + 1) := by
  induction v with
  | nil => simp [escL]; rw [unqT.eq_def]; simp
  | cons c r ih =>
    have hc : isFb c = true ∧ isFld r = true := by simpa [isFld] using hv
    have e : escL (c :: r) = esc c ++ escL r := rfl
    rw [e]
    have ih := ih hc.2
    unfold esc
    by_cases h : c = 34 ∨ c = 92
    · rw [if_pos h]
      simp only [List.cons_append, List.nil_append]
      rw [unqT.eq_def]
      simp [ih, hc.1]
    · rw [if_neg h]
      have h1 : c ≠ 34 := fun e => h (Or.inl e)
      have h2 : c ≠ 92 := fun e => h (Or.inr e)
      simp only [List.cons_append, List.nil_append]
      rw [unqT.eq_def]
      simp [ih, hc.1, h1, h2]
theorem sg_nbl (c : UInt8) (h : isSg c = true) : isBl c = false := by
  cases hb : isBl c with
  | false => rfl
  | true =>
    have h2 : c = 32 ∨ c = 9 := by
      unfold isBl at hb
      simp only [Bool.or_eq_true, beq_iff_eq] at hb
      rcases hb with e | e
      · exact Or.inl (UInt8.toNat_inj.1 e)
      · exact Or.inr (UInt8.toNat_inj.1 e)
    rcases h2 with rfl | rfl
    · exact absurd h (by decide)
    · exact absurd h (by decide)
theorem valP_pr (v t : List UInt8) (hv : isFld v = true) (ht : ∀ c, t[0]? = some c → isSg c = false) : valP (prVal v ++ t) = some (v, (prVal v).length) := by
  unfold prVal
  cases h : isTok v with
  | true =>
    rw [if_pos rfl]
    have hr := runL_of isSg v t (tok_all h) ht
    unfold valP
    rw [hr, if_neg (by have := List.length_pos_iff.2 (tok_ne h); omega), List.take_left]
  | false =>
    rw [if_neg (by simp)]
    have e : qtL v ++ t = 34 :: (escL v ++ 34 :: t) := by simp [qtL]
    rw [e]
    have h0 : runL isSg (34 :: (escL v ++ 34 :: t)) = 0 := by rw [runL_cons, show isSg 34 = false from by decide]; rfl
    unfold valP
    rw [h0, if_pos rfl]
    show (if (34 : UInt8) = 34 then (unqT (escL v ++ 34 :: t)).map (fun x => (x.1, x.2 + 1)) else none) = _
    rw [if_pos rfl, unqT_esc v t hv]
    simp [qtL]
theorem parStep_one (p : Par) (t : List UInt8) (hp : prmOk p = true) (ht : ∀ c, t[0]? = some c → c = 59) : parStep (prOne p ++ t) = some (some (some p, (prOne p).length)) := by
  obtain ⟨nm, v, hs⟩ := p
  unfold prmOk at hp
  simp only [Bool.and_eq_true] at hp
  obtain ⟨h1, h2, h3⟩ := hp
  obtain ⟨X, hX⟩ : ∃ X, (if hs = true then 61 :: prVal v else []) ++ t = X := ⟨_, rfl⟩
  have hl : prOne (nm, v, hs) ++ t = 59 :: 32 :: (nm ++ X) := by rw [← hX]; simp [prOne]
  have hXs : ∀ c, X[0]? = some c → isSg c = false := by
    intro c hc
    rw [← hX] at hc
    cases hs with
    | true => simp at hc; subst hc; decide
    | false => simp at hc; rw [ht c (by simpa using hc)]; decide
  have hts : ∀ c, t[0]? = some c → isSg c = false := fun c hc => by rw [ht c hc]; decide
  have hn := runL_of isSg nm X (tok_all h1) hXs
  have hb0 : runL isBl (nm ++ X) = 0 := by
    cases nm with
    | nil => exact absurd rfl (tok_ne h1)
    | cons c r =>
      have : isSg c = true := by have := tok_all h1; simp at this; exact this.1
      rw [List.cons_append, runL_cons, sg_nbl c this]; rfl
  have hb : runL isBl (32 :: (nm ++ X)) = 1 := by rw [runL_cons, if_pos (by decide), hb0]
  have hb' : runL isBl (59 :: 32 :: (nm ++ X)) = 0 := by rw [runL_cons, if_neg (by decide)]
  have hne : nm.length ≠ 0 := by have := List.length_pos_iff.2 (tok_ne h1); omega
  rw [hl]
  unfold parStep
  rw [hb', if_pos (by rfl)]
  simp only [Nat.zero_add, List.drop_succ_cons, List.drop_zero, hb, hn]
  rw [if_neg hne]
  have hd : (32 :: (nm ++ X)).drop (1 + nm.length) = X := by rw [Nat.add_comm, List.drop_succ_cons, List.drop_left]
  have hd2 : (nm ++ X).drop (1 + nm.length) = X.drop 1 := by rw [Nat.add_comm, ← List.drop_drop, List.drop_left]
  have ht1 : (nm ++ X).take nm.length = nm := List.take_left
  rw [hd, hd2, ht1]
  cases hs with
  | true =>
    have hX' : X = 61 :: (prVal v ++ t) := by rw [← hX]; simp
    rw [if_pos (by rw [hX']; rfl), hX']
    show (match valP (prVal v ++ t) with | none => _ | some (v, k) => _) = _
    rw [valP_pr v t h2 hts]
    simp [prOne]
    omega
  | false =>
    have hv : v = [] := by simpa using h3
    subst hv
    have hX' : X = t := by rw [← hX]; simp
    rw [if_neg (by rw [hX']; intro e; have := ht _ e; exact absurd this (by decide))]
    simp [prOne]
    omega
theorem prAll_head (ps : List Par) : ∀ c, (prAll ps)[0]? = some c → c = 59 := by
  cases ps with
  | nil => intro c h; simp [prAll] at h
  | cons p r =>
    intro c h
    simp [prAll, prOne] at h
    exact h.symm
theorem parP_all (ps : List Par) (h : ps.all prmOk = true) : parP (prAll ps) = some (ps, (prAll ps).length) := by
  induction ps with
  | nil => rfl
  | cons p r ih =>
    simp only [List.all_cons, Bool.and_eq_true] at h
    have e : prAll (p :: r) = prOne p ++ prAll r := rfl
    rw [e, parP_step _ _ _ (parStep_one p (prAll r) h.1 (prAll_head r)), List.drop_left, ih h.2]
    simp
theorem parR_all (ps : List Par) (h : ps.all prmOk = true) : parR (prAll ps) = (ps, (prAll ps).length, 0) := by unfold parR; rw [parP_all ps h]
def endsOk (l : List UInt8) : Prop := ∀ c, l.getLast? = some c → isBl c = false
theorem endsOk_right (a b : List UInt8) (hb : b ≠ []) (h : endsOk b) : endsOk (a ++ b) := by
  intro c hc
  rw [List.getLast?_append] at hc
  cases hl : b.getLast? with
  | none => rw [List.getLast?_eq_none_iff] at hl; exact absurd hl hb
  | some d => rw [hl] at hc; simp at hc; subst hc; exact h d hl
theorem endsOk_app (a b : List UInt8) (ha : endsOk a) (h : endsOk b) : endsOk (a ++ b) := by
  by_cases hb : b = []
  · subst hb; rw [List.append_nil]; exact ha
  · exact endsOk_right a b hb h
theorem endsOk_tok (a : List UInt8) (h : isTok a = true) : endsOk a := fun c hc => sg_nbl c (by
  have := tok_all h
  rw [List.all_eq_true] at this
  exact this c (List.mem_of_getLast? hc))
theorem endsOk_val (v : List UInt8) : endsOk (prVal v) := by
  unfold prVal
  split
  · exact endsOk_tok v (by assumption)
  · have e : qtL v = (34 :: escL v) ++ [34] := by simp [qtL]
    rw [e]
    exact endsOk_right _ _ (by simp) (fun c hc => by simp at hc; subst hc; decide)
theorem endsOk_one (p : Par) (hp : prmOk p = true) : endsOk (prOne p) := by
  obtain ⟨nm, v, hs⟩ := p
  unfold prmOk at hp
  simp only [Bool.and_eq_true] at hp
  cases hs with
  | true =>
    have e : prOne (nm, v, true) = (59 :: 32 :: nm) ++ ([61] ++ prVal v) := by simp [prOne]
    rw [e]
    exact endsOk_right _ _ (by simp) (endsOk_app _ _ (fun c hc => by simp at hc; subst hc; decide) (endsOk_val v))
  | false =>
    have e : prOne (nm, v, false) = [59, 32] ++ nm := by simp [prOne]
    rw [e]
    exact endsOk_right _ _ (tok_ne hp.1) (endsOk_tok nm hp.1)
theorem endsOk_all (ps : List Par) (h : ps.all prmOk = true) : endsOk (prAll ps) := by
  induction ps with
  | nil => intro c hc; simp [prAll] at hc
  | cons p r ih =>
    simp only [List.all_cons, Bool.and_eq_true] at h
    exact endsOk_app _ _ (endsOk_one p h.1) (ih h.2)
theorem dropW_id (l : List UInt8) (h : ∀ c, l[0]? = some c → isBl c = false) : l.dropWhile isBl = l := by
  cases l with
  | nil => rfl
  | cons c r => rw [List.dropWhile_cons, h c rfl]; simp
theorem trimL_id (l : List UInt8) (h : ∀ c, l[0]? = some c → isBl c = false) (h2 : endsOk l) : trimL l = l := by
  unfold trimL
  rw [dropW_id l h, dropW_id l.reverse (fun c hc => h2 c (by rw [List.getLast?_eq_head?_reverse, List.head?_eq_getElem?]; exact hc)), List.reverse_reverse]
theorem map_lowP (ps : List Par) (h : ps.all smN = true) : ps.map lowP = ps := by
  induction ps with
  | nil => rfl
  | cons p r ih =>
    simp only [List.all_cons, Bool.and_eq_true] at h
    rw [List.map_cons, ih h.2]
    have : lowL p.1 = p.1 := by have := h.1; unfold smN small at this; simpa using this
    unfold lowP
    rw [this]
theorem mdP_back (m : Mdm) (h : mprOk m = true) : mdP (m.ty ++ 47 :: (m.sub ++ prAll m.ps)) = ((m.ty, m.sub, m.ps, true), 0) := by
  obtain ⟨ty, sub, ps⟩ := m
  unfold mprOk at h
  simp only [Bool.and_eq_true] at h
  obtain ⟨h1, h2, h3, h4, h5, h6, h7⟩ := h
  show mdP (ty ++ 47 :: (sub ++ prAll ps)) = ((ty, sub, ps, true), 0)
  have hty := tok_ne h2
  have hsu := tok_ne h3
  have hr1 := runL_of isSg ty (47 :: (sub ++ prAll ps)) (tok_all h2) (fun c hc => by simp at hc; subst hc; decide)
  have hr2 := runL_of isSg sub (prAll ps) (tok_all h3) (fun c hc => by rw [prAll_head ps c hc]; decide)
  have hl1 : lowL ty = ty := by unfold small at h4; simpa using h4
  have hl2 : lowL sub = sub := by unfold small at h5; simpa using h5
  have htr : trimL (ty ++ 47 :: (sub ++ prAll ps)) = ty ++ 47 :: (sub ++ prAll ps) := by
    refine trimL_id _ (fun c hc => ?_) ?_
    · cases ty with
      | nil => exact absurd rfl hty
      | cons d r => simp at hc; subst hc; exact sg_nbl d (by have := tok_all h2; simp at this; exact this.1)
    · have e : ty ++ 47 :: (sub ++ prAll ps) = (ty ++ [47]) ++ (sub ++ prAll ps) := by simp
      rw [e]
      exact endsOk_right _ _ (by simp [hsu]) (endsOk_app _ _ (endsOk_tok sub h3) (endsOk_all ps h1))
  have hmd : mdR (ty ++ 47 :: (sub ++ prAll ps)) = (ty, sub, ps, true) := by
    have hd : (ty ++ 47 :: (sub ++ prAll ps)).drop (ty.length + 1) = sub ++ prAll ps := by rw [← List.drop_drop, List.drop_left]; rfl
    rw [mdR_at _ ty.length hr1 (by have := List.length_pos_iff.2 hty; omega) (by rw [List.getElem?_append_right (Nat.le_refl _), Nat.sub_self]; rfl), hd]
    rw [mdK_ok _ _ ty.length sub.length ps (prAll ps).length 0 hr2 (by rw [List.drop_left]; exact parR_all ps h1) (by have := List.length_pos_iff.2 hsu; omega) rfl (by rw [List.length_append])]
    rw [List.take_left, List.take_left, hl1, hl2, map_lowP ps h7]
  exact mdP_ok _ _ (by rw [htr]; exact hmd) rfl h6
end Go.Proofs.YtpdbejeiceodkaaGreatDoor
namespace Go.Proofs.YtpdbejeiceodkaaGreatDoor
open Go.RowKit
set_option linter.unusedSimpArgs false
set_option linter.unusedVariables false
set_option maxRecDepth 100000
def qdg (c : UInt8) : Bool := decide (48 ≤ c.toNat ∧ c.toNat ≤ 57)
def decV (l : List UInt8) : Nat := l.foldl (fun n c => n * 10 + (c.toNat - 48)) 0
def pad3 (p : List UInt8) : List UInt8 := p ++ List.replicate (3 - p.length) 48
def one9 (a : UInt8) : Nat := if a = 49 then 1000 else 0
def quP (a : UInt8) (p : List UInt8) : Nat × Nat :=
  if (a = 48 ∨ a = 49) ∧ p.length ≤ 3 ∧ p.all qdg = true ∧ decV (pad3 p) + one9 a ≤ 1000 then (decV (pad3 p) + one9 a, 0) else (0, 71)
/-- What a quality's text says, and an error's number. -/
def quR : List UInt8 → Nat × Nat
  | [] => (0, 71)
  | [a] => quP a []
  | a :: b :: p => if b = 46 then quP a p else (0, 71)
theorem quP_no (a : UInt8) (p : List UInt8) (h : ¬ (a = 48 ∨ a = 49)) : quP a p = (0, 71) := by unfold quP; rw [if_neg (fun e => h e.1)]
theorem quP_long (a : UInt8) (p : List UInt8) (h : 3 < p.length) : quP a p = (0, 71) := by unfold quP; rw [if_neg (fun e => by have := e.2.1; omega)]
theorem quP_dig (a : UInt8) (p : List UInt8) (h : p.all qdg = false) : quP a p = (0, 71) := by unfold quP; rw [if_neg (fun e => by have := e.2.2.1; rw [h] at this; cases this)]
theorem quP_big (a : UInt8) (p : List UInt8) (h : 1000 < decV (pad3 p) + one9 a) : quP a p = (0, 71) := by unfold quP; rw [if_neg (fun e => by have := e.2.2.2; omega)]
theorem quP_yes (a : UInt8) (p : List UInt8) (h : a = 48 ∨ a = 49) (h2 : p.length ≤ 3) (h3 : p.all qdg = true) (h4 : decV (pad3 p) + one9 a ≤ 1000) : quP a p = (decV (pad3 p) + one9 a, 0) := by unfold quP; rw [if_pos ⟨h, h2, h3, h4⟩]
theorem cut46 (l : List UInt8) : Lib.cut l [46] = if 0 ≤ Lib.indexByte l 46 then (l.take (Lib.indexByte l 46).toNat, l.drop ((Lib.indexByte l 46).toNat + 1), true) else (l, [], false) := by
  unfold Lib.cut
  rw [Lib.index_one]
  rfl
theorem qu_if (l : List UInt8) (c : List UInt8 × List UInt8 × Bool) (hc : Lib.cut l [46] = c) (h : quR l = if c.1 = [48] then quP 48 c.2.1 else if c.1 = [49] then quP 49 c.2.1 else (0, 71)) : quR l = if (Lib.cut l [46]).1 = [48] then quP 48 (Lib.cut l [46]).2.1 else if (Lib.cut l [46]).1 = [49] then quP 49 (Lib.cut l [46]).2.1 else (0, 71) := by
  rw [hc]; exact h
theorem cut46_no (l : List UInt8) (h : Lib.indexByte l 46 = -1) : Lib.cut l [46] = (l, [], false) := by rw [cut46, h]; rfl
theorem cut46_at (l : List UInt8) (k : Nat) (h : Lib.indexByte l 46 = (k : Int)) : Lib.cut l [46] = (l.take k, l.drop (k + 1), true) := by rw [cut46, h, if_pos (Int.natCast_nonneg _)]; rfl
theorem qu_one (a : UInt8) (p : List UInt8) : quP a p = if [a] = [48] then quP 48 p else if [a] = [49] then quP 49 p else (0, 71) := by
  by_cases h8 : a = 48
  · subst h8; rw [if_pos rfl]
  · rw [if_neg (by simpa using h8)]
    by_cases h9 : a = 49
    · subst h9; rw [if_pos rfl]
    · rw [if_neg (by simpa using h9), quP_no a p (by simp [h8, h9])]
theorem qu_cut (l : List UInt8) : quR l = if (Lib.cut l [46]).1 = [48] then quP 48 (Lib.cut l [46]).2.1 else if (Lib.cut l [46]).1 = [49] then quP 49 (Lib.cut l [46]).2.1 else (0, 71) := by
  match l with
  | [] => exact qu_if [] ([], [], false) (cut46_no [] rfl) rfl
  | [a] =>
    by_cases ha : a = 46
    · subst ha
      exact qu_if [46] ([], [], true) (cut46_at [46] 0 rfl) rfl
    · have hi : Lib.indexByte [a] 46 = -1 := by simp [Lib.indexByte, ha]
      exact qu_if [a] ([a], [], false) (cut46_no _ hi) (qu_one a [])
  | a :: b :: p =>
    by_cases ha : a = 46
    · have hi : Lib.indexByte (a :: b :: p) 46 = ((0 : Nat) : Int) := by simp [Lib.indexByte, ha]
      refine qu_if _ ([], b :: p, true) (cut46_at _ 0 hi) ?_
      show (if b = 46 then quP a p else (0, 71)) = (0, 71)
      rw [quP_no a p (by rw [ha]; decide)]
      split <;> rfl
    · by_cases hb : b = 46
      · have hi : Lib.indexByte (a :: b :: p) 46 = ((1 : Nat) : Int) := by simp [Lib.indexByte, ha, hb]
        refine qu_if _ ([a], p, true) (cut46_at _ 1 hi) ?_
        show (if b = 46 then quP a p else (0, 71)) = _
        rw [if_pos hb]
        exact qu_one a p
      · have hge := Lib.indexByte_ge p 46
        have hi : Lib.indexByte (a :: b :: p) 46 = if Lib.indexByte p 46 = -1 then -1 else Lib.indexByte p 46 + 2 := by
          have h1 : Lib.indexByte (b :: p) 46 = if Lib.indexByte p 46 = -1 then -1 else Lib.indexByte p 46 + 1 := by
            conv => lhs; unfold Lib.indexByte
            rw [if_neg (by simpa using hb)]
            by_cases hz : Lib.indexByte p 46 = -1 <;> simp [hz]
          conv => lhs; unfold Lib.indexByte
          rw [if_neg (by simpa using ha), h1]
          by_cases hz : Lib.indexByte p 46 = -1
          · simp [hz]
          · rw [if_neg hz, if_neg hz, if_neg (by simp; omega)]; omega
        have hq : quR (a :: b :: p) = (0, 71) := by
          show (if b = 46 then quP a p else (0, 71)) = _
          rw [if_neg hb]
        by_cases hz : Lib.indexByte p 46 = -1
        · rw [if_pos hz] at hi
          exact qu_if _ (a :: b :: p, [], false) (cut46_no _ hi) (by rw [hq, if_neg (by simp), if_neg (by simp)])
        · obtain ⟨k, hk⟩ : ∃ k : Nat, Lib.indexByte p 46 = (k : Int) := ⟨(Lib.indexByte p 46).toNat, by omega⟩
          rw [if_neg hz, hk] at hi
          exact qu_if _ (a :: b :: p.take k, p.drop (k + 1), true) (by rw [cut46_at _ (k + 2) (by rw [hi]; omega)]; rfl) (by rw [hq, if_neg (by simp), if_neg (by simp)])
theorem decV_snoc (l : List UInt8) (c : UInt8) : decV (l ++ [c]) = decV l * 10 + (c.toNat - 48) := by unfold decV; rw [List.foldl_append]; rfl
theorem decV_lt : ∀ (n : Nat) (l : List UInt8), l.length = n → l.all qdg = true → decV l < 10 ^ n
  | 0, l, h, _ => by
    rw [List.length_eq_zero_iff.1 h]
    decide
  | n + 1, l, h, ha => by
    have hne : l ≠ [] := by intro e; rw [e] at h; simp at h
    have hd : l.dropLast ++ [l.getLast hne] = l := List.dropLast_concat_getLast hne
    have hl : l.dropLast.length = n := by rw [List.length_dropLast]; omega
    rw [← hd, List.all_append, Bool.and_eq_true] at ha
    have ih := decV_lt n l.dropLast hl ha.1
    have hc : qdg (l.getLast hne) = true := by simpa using ha.2
    unfold qdg at hc
    rw [decide_eq_true_eq] at hc
    rw [← hd, decV_snoc, Nat.pow_succ]
    omega
theorem pad3_len (p : List UInt8) (h : p.length ≤ 3) : (pad3 p).length = 3 := by unfold pad3; rw [List.length_append, List.length_replicate]; omega
theorem pad3_all (p : List UInt8) : (pad3 p).all qdg = p.all qdg := by
  unfold pad3
  rw [List.all_append]
  have : (List.replicate (3 - p.length) (48 : UInt8)).all qdg = true := by
    rw [List.all_replicate]
    simp [qdg]
  rw [this, Bool.and_true]
def hexT : List UInt8 := [48, 49, 50, 51, 52, 53, 54, 55, 56, 57, 97, 98, 99, 100, 101, 102]
theorem hex_all : ∀ n : Fin 256, (if qdg (UInt8.ofNat n.val) then Lib.indexByte hexT (low (UInt8.ofNat n.val)) = ((n.val - 48 : Nat) : Int) else Lib.indexByte hexT (low (UInt8.ofNat n.val)) < 0 ∨ 10 ≤ Lib.indexByte hexT (low (UInt8.ofNat n.val))) := by decide +kernel
theorem hex_yes (c : UInt8) (h : qdg c = true) : Lib.indexByte hexT (low c) = ((c.toNat - 48 : Nat) : Int) := by
  have := hex_all ⟨c.toNat, c.toBitVec.isLt⟩
  simp only [UInt8.ofNat_toNat, h, if_true] at this
  exact this
theorem hex_no (c : UInt8) (h : qdg c = false) : Lib.indexByte hexT (low c) < 0 ∨ 10 ≤ Lib.indexByte hexT (low c) := by
  have := hex_all ⟨c.toNat, c.toBitVec.isLt⟩
  simp only [UInt8.ofNat_toNat, h] at this
  simpa using this
end Go.Proofs.YtpdbejeiceodkaaGreatDoor
namespace Go.Proofs.YtpdbejeiceodkaaGreatDoor
open Go.RowKit
set_option linter.unusedSimpArgs false
set_option linter.unusedVariables false
set_option maxRecDepth 100000
/-! The quality of the first word that is a name. -/
def wIs (n : List UInt8) (w : Wgt) : Bool := sameL w.1 n
def namP (n : List UInt8) : List Wgt → Option Int
  | [] => none
  | w :: r => if wIs n w = true then some w.2 else namP n r
theorem namP_at (n : List UInt8) (l : List Wgt) : ∀ (i : Nat) (w : Wgt), l[i]? = some w → (l.take i).any (wIs n) = false → wIs n w = true → namP n l = some w.2 := by
  induction l with
  | nil => intro i w h; simp at h
  | cons q r ih =>
    intro i w h ha hw
    cases i with
    | zero => obtain rfl : q = w := (by simpa using h); rw [namP, if_pos hw]
    | succ i =>
      rw [List.take_succ_cons, List.any_cons, Bool.or_eq_false_iff] at ha
      rw [namP, if_neg (by rw [ha.1]; simp)]
      exact ih i w (by simpa using h) ha.2 hw
theorem namP_end (n : List UInt8) (l : List Wgt) (ha : l.any (wIs n) = false) : namP n l = none := by
  induction l with
  | nil => rfl
  | cons q r ih =>
    rw [List.any_cons, Bool.or_eq_false_iff] at ha
    rw [namP, if_neg (by rw [ha.1]; simp)]
    exact ih ha.2
theorem low_star (c : UInt8) : low c = 42 ↔ c = 42 := by
  unfold low
  constructor
  · intro h
    split at h
    · rename_i hc
      have := congrArg UInt8.toNat h
      simp at this
      omega
    · exact h
  · rintro rfl
    rfl
theorem sameL_star (a : List UInt8) : sameL a [42] = decide (a = [42]) := by
  unfold sameL
  rw [Bool.eq_iff_iff]
  simp only [decide_eq_true_eq]
  rw [show lowL [42] = [42] from rfl]
  constructor
  · intro h
    match a, h with
    | [], h => cases h
    | [c], h =>
      have : low c = 42 := by injection h
      rw [(low_star c).1 this]
    | c :: d :: r, h => simp [lowL] at h
  · rintro rfl
    rfl
def ideL : List UInt8 := [105, 100, 101, 110, 116, 105, 116, 121]
/-- How a coding is liked. -/
def codP (l : List Wgt) (n : List UInt8) : Int := match namP n l with
  | some q => q
  | none => match namP [42] l with
    | some q => q
    | none => if sameL n ideL = true then 1 else 0
theorem codP_name (l : List Wgt) (n : List UInt8) (q : Int) (h : namP n l = some q) : codP l n = q := by unfold codP; rw [h]
theorem codP_star (l : List Wgt) (n : List UInt8) (q : Int) (h : namP n l = none) (h2 : namP [42] l = some q) : codP l n = q := by unfold codP; rw [h, h2]
theorem codP_none (l : List Wgt) (n : List UInt8) (h : namP n l = none) (h2 : namP [42] l = none) : codP l n = if sameL n ideL = true then 1 else 0 := by unfold codP; rw [h, h2]
def codG (l : List Wgt) (g : Bool) (n : List UInt8) : Int := if g = true then codP l n else 1000
/-- What is said of the place of a text. -/
def txAt (f : List UInt8 → Int) (o : List (List UInt8)) (i : Nat) : Int := match o[i]? with
  | some m => f m
  | none => 0
theorem txAt_get (f : List UInt8 → Int) (o : List (List UInt8)) (i : Nat) (m : List UInt8) (h : o[i]? = some m) : txAt f o i = f m := by unfold txAt; rw [h]
def chTx (f : List UInt8 → Int) (o : List (List UInt8)) : Int := (fstS (txAt f o) o.length).1
/-! What stands ahead of the first q, and its quality. -/
def isQ (p : Par) : Bool := sameL p.1 [113]
def wtP : List Par → List Par × Nat × Nat
  | [] => ([], 1000, 0)
  | p :: r => if isQ p = true then ([], quR p.2.1) else (p :: (wtP r).1, (wtP r).2)
theorem wtP_at (l : List Par) : ∀ (i : Nat) (p : Par), l[i]? = some p → (l.take i).any isQ = false → isQ p = true → wtP l = (l.take i, quR p.2.1) := by
  induction l with
  | nil => intro i p h; simp at h
  | cons q r ih =>
    intro i p h ha hp
    cases i with
    | zero => obtain rfl : q = p := (by simpa using h); rw [wtP, if_pos hp]; rfl
    | succ i =>
      rw [List.take_succ_cons, List.any_cons, Bool.or_eq_false_iff] at ha
      rw [wtP, if_neg (by rw [ha.1]; simp), ih i p (by simpa using h) ha.2 hp]
      rfl
theorem wtP_end (l : List Par) (ha : l.any isQ = false) : wtP l = (l, 1000, 0) := by
  induction l with
  | nil => rfl
  | cons q r ih =>
    rw [List.any_cons, Bool.or_eq_false_iff] at ha
    rw [wtP, if_neg (by rw [ha.1]; simp), ih ha.2]
/-- A parameter without '=' has no value. -/
def noV (l : List Par) : Prop := ∀ p ∈ l, p.2.2 = false → p.2.1 = []
end Go.Proofs.YtpdbejeiceodkaaGreatDoor
