/- AccP, Tg2, Reg, Build: texts of the seat, one behind the other (a claim holds at most sixty). Conditions: each theorem names its own. -/
import Derived.Test.YtpdbejeiceodkaaGreatDoorPk00
import Derived.Test.YtpdbejeiceodkaaGreatDoorPk01
import Derived.Test.YtpdbejeiceodkaaGreatDoorPk03
import Derived.RegionTactic
import Derived.Deep.AppendLies
import Derived.Test.YtpdbejeiceodkaaGreatDoorProg
import Derived.WalkKit
import Derived.WalkSpells
import Derived.WalkLawsBesides
import Derived.Lib.Hide
import Derived.Lib.Builder
import Derived.Shelf.Strings.Builder1
namespace Go.Proofs.YtpdbejeiceodkaaGreatDoor
open Go.RowKit
set_option linter.unusedSimpArgs false
set_option linter.unusedVariables false
set_option maxRecDepth 100000
/-- A media type: type, subtype, parameters. -/
structure Mdm where
  ty : List UInt8
  sub : List UInt8
  ps : List Par
abbrev Rng := Mdm × Int
abbrev Wgt := List UInt8 × Int
def sameL (a b : List UInt8) : Bool := decide (lowL a = lowL b)
theorem sameL_comm (a b : List UInt8) : sameL a b = sameL b a := by unfold sameL; rw [Bool.eq_iff_iff]; simp only [decide_eq_true_eq]; exact eq_comm
def sameP (x p : Par) : Bool := sameL x.1 p.1 && decide (x.2.1 = p.2.1)
def hasP (l : List Par) (p : Par) : Bool := l.any fun x => sameP x p
def tyOk (a b : List UInt8) : Bool := decide (a = [42]) || sameL a b
def meetsP (r m : Mdm) : Bool := tyOk r.ty m.ty && (tyOk r.sub m.sub && r.ps.all (hasP m.ps))
theorem any_no {α : Type} (f : α → Bool) (l : List α) (h : ∀ (i : Nat) (p : α), l[i]? = some p → f p = false) : l.any f = false := by
  rw [List.any_eq_false]; intro p hp; obtain ⟨j, hj⟩ := List.getElem?_of_mem hp; rw [h j p hj]; simp
theorem any_yes {α : Type} (f : α → Bool) (l : List α) (i : Nat) (p : α) (h : l[i]? = some p) (hp : f p = true) : l.any f = true := by
  rw [List.any_eq_true]; exact ⟨p, List.mem_of_getElem? h, hp⟩
theorem all_no {α : Type} (f : α → Bool) (l : List α) (i : Nat) (p : α) (h : l[i]? = some p) (hp : f p = false) : l.all f = false := by
  rw [List.all_eq_false]; exact ⟨p, List.mem_of_getElem? h, by rw [hp]; simp⟩
theorem take_any {α : Type} (f : α → Bool) (l : List α) (i : Nat) (p : α) (h : l[i]? = some p) : (l.take (i + 1)).any f = ((l.take i).any f || f p) := by rw [List.take_add_one, h, Option.toList_some, List.any_append, List.any_cons, List.any_nil, Bool.or_false]
theorem meets_ty (r m : Mdm) (h : tyOk r.ty m.ty = false) : meetsP r m = false := by unfold meetsP; rw [h]; rfl
theorem meets_sub (r m : Mdm) (h : tyOk r.sub m.sub = false) : meetsP r m = false := by unfold meetsP; rw [h]; cases tyOk r.ty m.ty <;> rfl
theorem meets_ps (r m : Mdm) (i : Nat) (p : Par) (hi : r.ps[i]? = some p) (h : hasP m.ps p = false) : meetsP r m = false := by unfold meetsP; rw [all_no _ _ i p hi h]; cases tyOk r.ty m.ty <;> cases tyOk r.sub m.sub <;> rfl
theorem meets_yes (r m : Mdm) (h1 : tyOk r.ty m.ty = true) (h2 : tyOk r.sub m.sub = true) (h3 : r.ps.all (hasP m.ps) = true) : meetsP r m = true := by unfold meetsP; rw [h1, h2, h3]; rfl
/-- How narrow a range is: one number. -/
def nar (r : Mdm) : Int := (r.ps.length : Int) + (if r.sub = [42] then 0 else 2000000000000) + (if r.ty = [42] then 0 else 1000000000000)
def likStep (m : Mdm) (s : Int × Int) (r : Rng) : Int × Int := if meetsP r.1 m && decide (s.1 < nar r.1) then (nar r.1, r.2) else s
def likS (m : Mdm) (l : List Rng) (k : Nat) : Int × Int := (l.take k).foldl (likStep m) (-1, 0)
def likeP (l : List Rng) (m : Mdm) : Int := if l = [] then 1000 else (likS m l l.length).2
theorem likS_zero (m : Mdm) (l : List Rng) : likS m l 0 = (-1, 0) := rfl
theorem likS_succ (m : Mdm) (l : List Rng) (i : Nat) (r : Rng) (h : l[i]? = some r) : likS m l (i + 1) = likStep m (likS m l i) r := by
  unfold likS; rw [List.take_add_one, h, Option.toList_some, List.foldl_append]; rfl
theorem likStep_no (m : Mdm) (s : Int × Int) (r : Rng) (h : meetsP r.1 m = false) : likStep m s r = s := by unfold likStep; rw [h]; rfl
theorem likStep_low (m : Mdm) (s : Int × Int) (r : Rng) (h : nar r.1 ≤ s.1) : likStep m s r = s := by unfold likStep; rw [decide_eq_false (by omega), Bool.and_false]; rfl
theorem likStep_yes (m : Mdm) (s : Int × Int) (r : Rng) (h : meetsP r.1 m = true) (h2 : s.1 < nar r.1) : likStep m s r = (nar r.1, r.2) := by unfold likStep; rw [h, decide_eq_true h2]; rfl
/-- The place of the greatest above 0: after k of them. -/
def fstS (f : Nat → Int) : Nat → Int × Int
  | 0 => (-1, 0)
  | k + 1 => if (fstS f k).2 < f k then ((k : Int), f k) else fstS f k
theorem fstS_up (f : Nat → Int) (k : Nat) (h : (fstS f k).2 < f k) : fstS f (k + 1) = ((k : Int), f k) := by show (if _ then _ else _) = _; rw [if_pos h]
theorem fstS_stay (f : Nat → Int) (k : Nat) (h : f k ≤ (fstS f k).2) : fstS f (k + 1) = fstS f k := by show (if _ then _ else _) = _; rw [if_neg (by omega)]
theorem fstS_congr (f g : Nat → Int) (n : Nat) (h : ∀ i, i < n → f i = g i) : fstS f n = fstS g n := by
  induction n with
  | zero => rfl
  | succ n ih =>
    have := ih (fun i hi => h i (by omega))
    show (if _ then _ else _) = (if _ then _ else _)
    rw [this, h n (by omega)]
theorem fstS_bd (f : Nat → Int) (n : Nat) : -1 ≤ (fstS f n).1 ∧ (fstS f n).1 < n ∧ 0 ≤ (fstS f n).2 := by
  induction n with
  | zero => exact ⟨by show (-1 : Int) ≤ -1; omega, by show (-1 : Int) < 0; omega, by show (0 : Int) ≤ 0; omega⟩
  | succ n ih =>
    by_cases h : (fstS f n).2 < f n
    · rw [fstS_up f n h]
      exact ⟨by show (-1 : Int) ≤ (n : Int); omega, by show (n : Int) < ((n + 1 : Nat) : Int); omega, by show 0 ≤ f n; omega⟩
    · rw [fstS_stay f n (by omega)]
      exact ⟨ih.1, by have := ih.2.1; omega, ih.2.2⟩
/-- What a list of ranges says of the place of an offer. -/
def likAt (l : List Rng) (o : List Mdm) (i : Nat) : Int := match o[i]? with
  | some m => likeP l m
  | none => 0
theorem likAt_get (l : List Rng) (o : List Mdm) (i : Nat) (m : Mdm) (h : o[i]? = some m) : likAt l o i = likeP l m := by unfold likAt; rw [h]
def chooseP (l : List Rng) (o : List Mdm) : Int := (fstS (likAt l o) o.length).1
/-! Sizes. -/
def totF {α : Type} (f : α → Nat) : List α → Nat
  | [] => 0
  | p :: r => f p + totF f r
theorem totF_append {α : Type} (f : α → Nat) (a b : List α) : totF f (a ++ b) = totF f a + totF f b := by
  induction a with
  | nil => simp [totF]
  | cons p r ih => simp only [List.cons_append, totF, ih]; omega
theorem totF_get {α : Type} (f : α → Nat) (l : List α) (i : Nat) (p : α) (h : l[i]? = some p) : f p ≤ totF f l := by
  induction l generalizing i with
  | nil => simp at h
  | cons q r ih =>
    cases i with
    | zero => obtain rfl : q = p := (by simpa using h); simp only [totF]; omega
    | succ i => have := ih i (by simpa using h); simp only [totF]; omega
def parLen (p : Par) : Nat := p.1.length + p.2.1.length
theorem totF_par (l : List Par) : totF parLen l = totP l := by induction l with | nil => rfl | cons p r ih => simp only [totF, totP, ih, parLen]
def mdmLen (m : Mdm) : Nat := m.ty.length + m.sub.length + totP m.ps + m.ps.length
def rngLen (r : Rng) : Nat := mdmLen r.1
def wgtLen (r : Wgt) : Nat := r.1.length
theorem mdm_bd (m : Mdm) (h : mdmLen m ≤ 1073741824) : m.ty.length ≤ 1099511627776 ∧ m.sub.length ≤ 1099511627776 ∧ m.ps.length ≤ 1073741824 ∧ ∀ (i : Nat) (p : Par), m.ps[i]? = some p → p.1.length ≤ 1099511627776 ∧ p.2.1.length ≤ 1099511627776 := by
  unfold mdmLen at h
  refine ⟨by omega, by omega, by omega, fun i p hp => ?_⟩
  have := totP_get m.ps i p hp
  omega
theorem rng_bd (l : List Rng) (h : totF rngLen l + l.length ≤ 1073741824) (i : Nat) (r : Rng) (hr : l[i]? = some r) : mdmLen r.1 ≤ 1073741824 := by
  have h2 : mdmLen r.1 ≤ totF rngLen l := totF_get rngLen l i r hr
  omega
theorem meds_bd (l : List Mdm) (h : totF mdmLen l + l.length ≤ 1073741824) (i : Nat) (r : Mdm) (hr : l[i]? = some r) : mdmLen r ≤ 1073741824 := by
  have := totF_get mdmLen l i r hr
  omega
theorem beq_dec (a b : List UInt8) : (a == b) = decide (a = b) := by by_cases h : a = b <;> simp [h]
/-- What the first greatest above 0 is. -/
theorem fstS_best (f : Nat → Int) (n : Nat) : ((fstS f n).1 = -1 ∧ (fstS f n).2 = 0 ∧ ∀ i, i < n → f i ≤ 0) ∨ ∃ a : Nat, (fstS f n).1 = a ∧ a < n ∧ (fstS f n).2 = f a ∧ 0 < f a ∧ ∀ i, i < n → f i ≤ f a ∧ (i < a → f i < f a) := by
  induction n with
  | zero => exact Or.inl ⟨rfl, rfl, fun i hi => absurd hi (Nat.not_lt_zero _)⟩
  | succ n ih =>
    by_cases h : (fstS f n).2 < f n
    · rw [fstS_up f n h]
      refine Or.inr ⟨n, rfl, Nat.lt_succ_self _, rfl, by have := (fstS_bd f n).2.2; omega, fun i hi => ?_⟩
      have hb : i < n → f i < f n := fun hi => by
        rcases ih with ⟨_, h2, h3⟩ | ⟨a, _, _, h2, _, h3⟩
        · have := h3 i hi; omega
        · have := (h3 i hi).1; omega
      rcases Nat.lt_succ_iff_lt_or_eq.1 hi with h1 | h1
      · have := hb h1; exact ⟨by omega, fun _ => this⟩
      · subst h1; exact ⟨Int.le_refl _, fun h => absurd h (Nat.lt_irrefl _)⟩
    · rw [fstS_stay f n (by omega)]
      rcases ih with ⟨h1, h2, h3⟩ | ⟨a, h1, h0, h2, hp, h3⟩
      · refine Or.inl ⟨h1, h2, fun i hi => ?_⟩
        rcases Nat.lt_succ_iff_lt_or_eq.1 hi with h4 | h4
        · exact h3 i h4
        · subst h4; omega
      · refine Or.inr ⟨a, h1, by omega, h2, hp, fun i hi => ?_⟩
        rcases Nat.lt_succ_iff_lt_or_eq.1 hi with h4 | h4
        · exact h3 i h4
        · subst h4; exact ⟨by omega, fun h => by omega⟩
end Go.Proofs.YtpdbejeiceodkaaGreatDoor
namespace Go.Proofs.YtpdbejeiceodkaaGreatDoor
open Go.RowKit
set_option linter.unusedSimpArgs false
set_option linter.unusedVariables false
set_option maxRecDepth 1000000
theorem u8_beq (c d : UInt8) (a b : Nat) (ha : c.toNat = a) (hb : d.toNat = b) : ((a : Int) == (b : Int)) = (c == d) := by
  subst ha
  subst hb
  rw [Bool.eq_iff_iff]
  simp only [beq_iff_eq]
  exact ⟨fun h => UInt8.toNat_inj.1 (by omega), fun h => by rw [h]⟩
theorem any_take (l : List UInt8) (c : UInt8) (i : Nat) (d : UInt8) (h : l[i]? = some d) (hn : (l.take i).contains c = false) (hd : (d == c) = false) : (l.take (i + 1)).contains c = false := by
  rw [List.take_add_one, h, Option.toList_some]
  simp only [List.contains_eq_any_beq, List.any_append, List.any_cons, List.any_nil, Bool.or_false, Bool.or_eq_false_iff] at hn ⊢
  refine ⟨hn, ?_⟩
  simp at hd ⊢
  exact fun e => hd e.symm
theorem any_hit (l : List UInt8) (c : UInt8) (i : Nat) (h : l[i]? = some c) : l.contains c = true := by
  simp only [List.contains_iff_mem]
  exact List.mem_of_getElem? h
set_option maxHeartbeats 2000000 in
theorem rin_any (c : UInt8) (s : ByteArray) (w : World) (hs : s.size ≤ 1099511627776) : Calls Tryz.prog 215 #[.int .u8 (c.toNat : Int), .string s] w fun e w' => e = .returned (.bool (s.data.toList.contains c)) ∧ w' = w := by
  obtain ⟨n, hn⟩ : ∃ n, c.toNat = n := ⟨_, rfl⟩
  rw [hn]
  go_enter Tryz.func215, Tryz.ntmps215
  go_wp2
  go_loopw [5] (fun iv wr => ∃ i : Nat, iv = .int .i64 i ∧ i ≤ s.size ∧ (s.data.toList.take i).contains c = false ∧ w = wr) (fun iv _ => s.size - (intOf iv).toNat)
  case atStart => exact ⟨0, rfl, Nat.zero_le _, rfl, rfl⟩
  case round =>
    obtain ⟨i, rfl, hi, hno, rfl⟩ := hrel
    by_cases hlt : i < s.size
    · have k0 : (0 : Int) ≤ (i : Int) := Int.natCast_nonneg _
      have k1 : (i : Int) < (s.size : Int) := by omega
      have hwi := wrap64_small i (by omega)
      have hget := list_get s i hlt
      obtain ⟨d, hd⟩ : ∃ d, s[i]'hlt = d := ⟨_, rfl⟩
      rw [hd] at hget
      obtain ⟨a, ea⟩ : ∃ a, (s[i]'hlt).toNat = a := ⟨_, rfl⟩
      have hda : d.toNat = a := by rw [← hd]; exact ea
      have hb := u8_beq d c a n hda hn
      have HW := Lib.hid hwi; have HG := Lib.hid hget; have HNO := Lib.hid hno
      clear hwi hget hno hd hda
      cases hq : (d == c) with
      | true =>
        rw [hq] at hb
        have HR := Lib.hid (any_hit s.data.toList c i (by rw [HG.out, beq_iff_eq.1 hq]))
        clear hq
        go_wp2
        go_ret
        rw [HR.out]
        exact ⟨rfl, by first | rfl | trivial⟩
      | false =>
        rw [hq] at hb
        have HR := Lib.hid (any_take s.data.toList c i d HG.out HNO.out hq)
        clear hq
        go_wp2
        have hwi := HW.out
        go_roundw
        case rel => (try rw [hwi]); clear hwi; exact ⟨i + 1, by go_num, hlt, HR.out, by first | rfl | trivial⟩
        case measure => (try rw [hwi]); clear hwi; simp [intOf]; omega
    · obtain rfl : i = s.size := by omega
      have hd : decide (s.size < s.size) = false := decide_eq_false (Nat.lt_irrefl _)
      rw [List.take_of_length_le (by rw [size_list]; exact Nat.le_refl _)] at hno
      have HR := Lib.hid hno
      clear hno
      go_wp2
      go_ret
      rw [HR.out]
      exact ⟨rfl, by first | rfl | trivial⟩
theorem rsub_any (c : UInt8) (w : World) : Calls Tryz.prog 214 #[.int .u8 (c.toNat : Int)] w fun e w' => e = .returned (.bool (dlm c.toNat)) ∧ w' = w := by
  have h := rin_any c ⟨#[33, 36, 38, 39, 40, 41, 42, 43, 44, 59, 61]⟩ w (by decide)
  rw [show (⟨#[33, 36, 38, 39, 40, 41, 42, 43, 44, 59, 61]⟩ : ByteArray).data.toList = [33, 36, 38, 39, 40, 41, 42, 43, 44, 59, 61] from rfl, cont_nat] at h
  have H := Lib.hid (show Calls Tryz.prog 215 #[.int .u8 (c.toNat : Int), .string ⟨#[33, 36, 38, 39, 40, 41, 42, 43, 44, 59, 61]⟩] w fun e w' => e = .returned (.bool (dlm c.toNat)) ∧ w' = w from h)
  clear h
  obtain ⟨n, hn⟩ : ∃ n, c.toNat = n := ⟨_, rfl⟩
  rw [hn] at H
  rw [hn]
  clear hn
  go_enter Tryz.func214, Tryz.ntmps214
  go_wp2_with fail
  refine (H.out).mono ?_
  rintro e w1 ⟨rfl, hw1⟩
  subst hw1
  go_wp2
  go_ret
  exact ⟨rfl, by first | rfl | trivial⟩
theorem runr_any (c : UInt8) (w : World) : Calls Tryz.prog 189 #[.int .u8 (c.toNat : Int)] w fun e w' => e = .returned (.bool (unr c.toNat)) ∧ w' = w := by
  have h := rin_any c ⟨#[45, 46, 95, 126]⟩ w (by decide)
  rw [show (⟨#[45, 46, 95, 126]⟩ : ByteArray).data.toList = [45, 46, 95, 126] from rfl, cont_nat] at h
  have H := Lib.hid (show Calls Tryz.prog 215 #[.int .u8 (c.toNat : Int), .string ⟨#[45, 46, 95, 126]⟩] w fun e w' => e = .returned (.bool (([45, 46, 95, 126] : List Nat).contains c.toNat)) ∧ w' = w from h)
  have H1 := Lib.hid (rletter_any c.toNat w); have H2 := Lib.hid (rdigit_any c.toNat w)
  clear h
  obtain ⟨n, hn⟩ : ∃ n, c.toNat = n := ⟨_, rfl⟩
  rw [hn] at H H1 H2
  rw [hn]
  clear hn
  have HU := Lib.hid (show unr n = (ltN n || dgN n || ([45, 46, 95, 126] : List Nat).contains n) from rfl)
  obtain ⟨q, hq⟩ : ∃ q, ([45, 46, 95, 126] : List Nat).contains n = q := ⟨_, rfl⟩
  rw [hq] at H HU
  clear hq
  cases hl : ltN n with
  | true =>
    rw [hl] at H1 HU
    clear hl
    go_enter Tryz.func189, Tryz.ntmps189
    go_wp2_with fail
    refine (H1.out).mono ?_
    rintro e w1 ⟨rfl, hw1⟩
    subst hw1
    go_wp2
    go_ret
    rw [HU.out]
    exact ⟨rfl, by first | rfl | trivial⟩
  | false =>
    rw [hl] at H1 HU
    clear hl
    cases hd : dgN n with
    | true =>
      rw [hd] at H2 HU
      clear hd
      go_enter Tryz.func189, Tryz.ntmps189
      go_wp2_with fail
      refine (H1.out).mono ?_
      rintro e w1 ⟨rfl, hw1⟩
      subst hw1
      go_wp2_with fail
      refine (H2.out).mono ?_
      rintro e w1 ⟨rfl, hw1⟩
      subst hw1
      go_wp2
      go_ret
      rw [HU.out]
      exact ⟨rfl, by first | rfl | trivial⟩
    | false =>
      rw [hd] at H2 HU
      clear hd
      go_enter Tryz.func189, Tryz.ntmps189
      go_wp2_with fail
      refine (H1.out).mono ?_
      rintro e w1 ⟨rfl, hw1⟩
      subst hw1
      go_wp2_with fail
      refine (H2.out).mono ?_
      rintro e w1 ⟨rfl, hw1⟩
      subst hw1
      go_wp2_with fail
      refine (H.out).mono ?_
      rintro e w1 ⟨rfl, hw1⟩
      subst hw1
      go_wp2
      go_ret
      rw [HU.out]
      exact ⟨by simp, by first | rfl | trivial⟩
end Go.Proofs.YtpdbejeiceodkaaGreatDoor
namespace Go.Proofs.YtpdbejeiceodkaaGreatDoor
open Go.RowKit
set_option linter.unusedSimpArgs false
set_option linter.unusedVariables false

def txCheck (ops : Array Oper) : List (Nat × Bool) → Array Bool → Bool
  | [], L => Region.ready .any ops L == []
  | (i, true) :: r, L => Region.free .any ops L i && (Region.ready .any ops L).contains i && txCheck ops r (L.setIfInBounds i true)
  | (i, false) :: r, L => Region.ready .any ops L == [i] && txCheck ops r (L.setIfInBounds i true)

def wpTx (P : Program) (ops : Array Oper) (Q : Exit → Act → World → Prop) : List (Nat × Bool) → Act → World → Prop
  | [], a, w => Q .normal a w
  | (i, true) :: r, a, w => ∃ o v, ops[i]? = some o ∧ Yields P ops o v a ∧ wpTx P ops Q r (a.put o.dst v) w
  | (i, false) :: r, a, w => ∃ o, ops[i]? = some o ∧ ∀ K : Act → World → Prop, (∀ a w, wpTx P ops Q r a w → K a w) → if Region.wanted o (yielded ops a.tmps) = true then Oper.wp P o a w K Q else K (a.put o.dst undef) w

theorem wpTx_sound {P : Program} {ops : Array Oper} {Q : Exit → Act → World → Prop} (hs : Region.noSelect ops = true)
    (hQ : ∀ c d v a w, Q (.panic c) (Act.put a d v) w → Q (.panic c) a w) :
    ∀ (l : List (Nat × Bool)) (L : Array Bool) (a : Act) (w : World), txCheck ops l L = true → wpTx P ops Q l a w → wpAny P .any ops Q l.length L a w := by
  intro l
  induction l with
  | nil =>
    intro L a w hc h
    exact wpAny_done (by simpa [txCheck] using hc) h 0
  | cons x r ih =>
    intro L a w hc h
    obtain ⟨i, b⟩ := x
    cases b with
    | true =>
      obtain ⟨o, v, ho, hy, h⟩ := h
      simp only [txCheck, Bool.and_eq_true] at hc
      exact wpAny_take ho hs hc.1.1 hc.1.2 (fun c a w => hQ c _ _ a w) hy (ih _ _ _ hc.2 h)
    | false =>
      obtain ⟨o, ho, h⟩ := h
      simp only [txCheck, Bool.and_eq_true, beq_iff_eq] at hc
      exact wpAny_ready hc.1 (by simp) (AllReady.cons ho (fun K hK => h K (fun a w h' => hK a w (ih _ _ _ hc.2 h'))) AllReady.nil)

/-- Q, but False at a panic. -/
def offPanic (Q : Exit → Act → World → Prop) : Exit → Act → World → Prop
  | .panic _, _, _ => False
  | e, a, w => Q e a w
/-- A REGION THAT DRAWS, IN ONE ORDER: 'true': the operation yields in whatever world and is taken first; 'false': no other one may come up. -/
theorem wp_region_text {P : Program} {id : Nat} {ops : Array Oper} {Q : Exit → Act → World → Prop} {a : Act} {w : World} (l : List (Nat × Bool)) (hm : P.follows .mixedOrders = true) (hs : Region.noSelect ops = true) (hl : l.length = ops.size) (hc : txCheck ops l (Array.replicate ops.size false) = true)
    (h : wpTx P ops (offPanic Q) l a w.drew) : (Code.region id ops true).wp P Q a w := by
  refine Code.wp_mono (Q := offPanic Q) (fun e a w h => ?_) (wp_region_any hm ?_)
  · cases e <;> first | exact h | exact (h : False).elim
  · have := wpTx_sound (P := P) (Q := offPanic Q) hs (fun _ _ _ _ _ h => h) l _ a w.drew hc h
    rw [hl] at this
    exact this
theorem wpTx_take {P : Program} {ops : Array Oper} {Q : Exit → Act → World → Prop} {i : Nat} {o : Oper} {r : List (Nat × Bool)} {a : Act} {w : World} {v : Value} (ho : ops[i]? = some o) (hw : Region.wanted o (yielded ops a.tmps) = true)
    (hv : ∀ w, (execOp a.eval o).run P w = .ok (.value v) w) (h : wpTx P ops Q r (a.put o.dst v) w) : wpTx P ops Q ((i, true) :: r) a w := ⟨o, v, ho, .inl ⟨hw, hv⟩, h⟩
theorem wpTx_pass {P : Program} {ops : Array Oper} {Q : Exit → Act → World → Prop} {i : Nat} {o : Oper} {r : List (Nat × Bool)} {a : Act} {w : World} (ho : ops[i]? = some o) (hw : Region.wanted o (yielded ops a.tmps) = false)
    (h : wpTx P ops Q r (a.put o.dst undef) w) : wpTx P ops Q ((i, true) :: r) a w := ⟨o, undef, ho, .inr ⟨hw, rfl⟩, h⟩
theorem wpTx_step {P : Program} {ops : Array Oper} {Q : Exit → Act → World → Prop} {i : Nat} {o : Oper} {r : List (Nat × Bool)} {a : Act} {w : World} (ho : ops[i]? = some o)
    (h : ∀ K : Act → World → Prop, (∀ a w, wpTx P ops Q r a w → K a w) → if Region.wanted o (yielded ops a.tmps) = true then Oper.wp P o a w K Q else K (a.put o.dst undef) w) : wpTx P ops Q ((i, false) :: r) a w := ⟨o, ho, h⟩
theorem wpTx_nil {P : Program} {ops : Array Oper} {Q : Exit → Act → World → Prop} {a : Act} {w : World} (h : Q .normal a w) : wpTx P ops (offPanic Q) [] a w := h

/-- append onto a row of the call's own, as one step of a region that draws. -/
theorem step_append_own {P : Program} {ops : Array Oper} {o : Oper} {a : Act} {w : World} {K : Act → World → Prop} {Q : Exit → Act → World → Prop} {E : Prop} (hgd : o.guard = none) (s x : Operand) (t : TypeId)
    (ho : o.op = .call { callee := .builtin .append, args := #[s, x], argTypes := #[t, t] })
    (base : Nat) (e : TypeId) (i : TypeInfo) (z : Value) (size bytes : Nat) (ht : P.underlying t = some (.slice e)) (hi : P.info? e = some i) (hz : i.zero = some z)
    (hsize : i.size = size) (hby : i.bytes = bytes) (hzs : z.cells.size = size) (hsz : 0 < size)
    (v : Value) (n : Nat) (xs : List Value) (hs : a.eval s = v) (hown : w.ownsRow base e size v n xs)
    (ad : Addr) (m c : Nat) (news : List Value) (hx : a.eval x = .slice (some ad) m c) (hl : news.length = m * size) (hnews : ∀ j u, news[j]? = some u → w.cell? (ad.add j) = some u) (h1 : ∀ u ∈ news, u.oneCell' = true)
    (h63 : n + m ≤ maxLen) (hbytes : (n + m) * bytes ≤ 140737488355328) (hbase : base ≤ w.heap.size)
    (h : ∀ v' w', w'.ownsRow base e size v' (n + m) (xs ++ news) → w.grownBy w' v.ownBlock → K (a.put o.dst v') w') :
    if Region.wanted o (yielded ops a.tmps) = true then Oper.wp P o a w K Q else E := by
  have hw : Region.wanted o (yielded ops a.tmps) = true := by simp [Region.wanted, hgd]
  rw [if_pos hw]
  exact wp_append_own w s x t ho base e i z size bytes ht hi hz hsize hby hzs hsz v n xs hs hown ad m c news hx hl hnews h1 h63 hbytes hbase fun v' w' h2 h3 _ => h v' w' h2 h3
end Go.Proofs.YtpdbejeiceodkaaGreatDoor
namespace Go.Proofs.YtpdbejeiceodkaaGreatDoor
open Go.RowKit
set_option linter.unusedSimpArgs false
set_option linter.unusedVariables false
set_option maxRecDepth 1000000

theorem infoByte : (Tryz.prog.info? 5).map (fun i => (i.zero, i.size, i.bytes)) = some (some (.int .u8 0), 1, 1) := by kernel_rfl
theorem infoBuilderSize : (Tryz.prog.info? 156).map (fun i => i.size) = some 2 := by kernel_rfl
theorem liesBuilder : liesAt Tryz.prog Tryz.prog.depth 156 (2 / Tryz.prog.cellsOf 156) 0 156 1 = true := by kernel_rfl

theorem copyCheck_used (b : Nat) (w : World) (h0 : w.cell? ⟨b, 0, none⟩ = some (.pointer (some ⟨b, 0, none⟩))) :
    Calls Tryz.prog 137 #[.pointer (some ⟨b, 0, none⟩)] w fun e w' => e = .returned (.tuple #[]) ∧ w' = w := by
  obtain ⟨j, hj, _⟩ := Option.map_eq_some_iff.1 infoBuilderSize
  go_enter Tryz.func137, Tryz.ntmps137
  go_wp2
  rw [Lib.run_neq_ptr_same w _ Tryz.underlying154 hj]
  go_wp2
  go_end0
  exact ⟨rfl, rfl⟩

theorem copyCheck_fresh (b : Nat) (w : World) (h0 : w.cell? ⟨b, 0, none⟩ = some (.pointer none)) (hsh : w.shape? b = some (156, 2)) (hfz : w.frozen? ⟨b, 0, none⟩ = false) :
    Calls Tryz.prog 137 #[.pointer (some ⟨b, 0, none⟩)] w fun e w' => e = .returned (.tuple #[]) ∧ w' = w.setCell ⟨b, 0, none⟩ (.pointer (some ⟨b, 0, none⟩)) := by
  obtain ⟨j, hj, hjs⟩ := Option.map_eq_some_iff.1 infoBuilderSize
  go_enter Tryz.func137, Tryz.ntmps137
  go_wp2
  rw [Lib.run_to_unsafe w ⟨b, 0, none⟩ Tryz.underlying154 Tryz.underlying235 hj (by rw [hjs]; decide) hsh (Nat.zero_lt_succ 1)]
  simp only [Result.andThen]
  rw [Oper.upon_value]
  go_wp2
  rw [run_callFunc_extern Tryz.func174 (by kernel_rfl) (by kernel_rfl) (by kernel_rfl) (e := Extern.AbiNoEscape.same) (by kernel_rfl)]
  rw [Lib.run_noEscape]
  simp only [Result.andThen]
  rw [Oper.upon_value]
  go_wp2
  rw [Lib.run_from_unsafe w ⟨b, 0, none⟩ Tryz.underlying235 Tryz.underlying154 hj hsh liesBuilder]
  simp only [Result.andThen]
  rw [Oper.upon_value]
  go_wp2
  go_end0
  exact ⟨rfl, rfl⟩

theorem copyCheck_any (B b : Nat) (bs : List Value) (w : World) (h : Lib.IsBuilder 156 5 B b bs w) :
    Calls Tryz.prog 137 #[.pointer (some ⟨b, 0, none⟩)] w fun e w' => e = .returned (.tuple #[]) ∧ (Lib.BuilderAt 156 5 B b (.pointer (some ⟨b, 0, none⟩)) bs w' ∧ Below B w w') := by
  rcases h with h | h
  · refine (copyCheck_fresh b w h.cell0 h.shape h.frozen0).mono ?_
    rintro e w' ⟨rfl, rfl⟩
    exact ⟨rfl, h.used _, (Below.refl B w).setCell (p := ⟨b, 0, none⟩) h.1 _⟩
  · refine (copyCheck_used b w h.cell0).mono ?_
    rintro e w' ⟨rfl, rfl⟩
    exact ⟨rfl, h, Below.refl B _⟩

theorem writeByte_any (B b : Nat) (bs : List Value) (c : Int) (w : World) (h : Lib.IsBuilder 156 5 B b bs w) (hlen : bs.length + 1 ≤ 140737488355328) (hBw : B ≤ w.heap.size) :
    Calls Tryz.prog 93 #[.pointer (some ⟨b, 0, none⟩), .int .u8 c] w fun e w' => e = .returned .nilIface ∧ (Lib.IsBuilder 156 5 B b (bs ++ [.int .u8 c]) w' ∧ Below B w w') := by
  obtain ⟨i0, hi, hz0, hz1, hz2⟩ := info_parts infoByte
  go_enter Tryz.func93, Tryz.ntmps93
  go_wp2_with (go_at_call 137; refine (copyCheck_any B b bs _ h).mono ?_)
  rintro e w1 ⟨rfl, h1, hb1⟩
  obtain ⟨hB, v, hbk, hown, hne⟩ := h1
  have c0 : w1.cell? ⟨b, 0, none⟩ = some (.pointer (some ⟨b, 0, none⟩)) := by rw [Lib.cell_of_heap hbk]; rfl
  have c1 : w1.cell? ⟨b, 1, none⟩ = some v := by rw [Lib.cell_of_heap hbk]; rfl
  go_wp2_with (at_builtin; refine wpList_append_own _ rfl _ _ 76 rfl B 5 i0 (.int .u8 0) 1 1 Tryz.underlying76 hi hz0 hz1 hz2 rfl (by decide) _ _ _ rfl (hown.alloc _) ⟨w1.heap.size, 0, none⟩ 1 1 [.int .u8 c] rfl rfl ?c1 ?c2 ?c3 ?c4 ?c5 ?_)
  case c1 =>
    intro j u hj
    match j, hj with
    | 0, hj => simp at hj; subst hj; simp [Addr.add]
  case c2 => intro u hu; simp at hu; subst hu; rfl
  case c3 => unfold maxLen; omega
  case c4 => omega
  case c5 => have := hb1.size; simp; omega
  intro v' w2 hown' hgrow _
  have hlt : b < w1.heap.size := by
    rcases Nat.lt_or_ge b w1.heap.size with h' | h'
    · exact h'
    · simp [Array.getElem?_eq_none h'] at hbk
  have hb2 : w2.heap[b]? = some (.cells #[.pointer (some ⟨b, 0, none⟩), v] 156 (0, 0)) := by
    rw [hgrow.block b (by simp; omega) (fun e => hne e.symm), Lib.alloc_old w1 _ b hlt]
    exact hbk
  have d0 : w2.cell? ⟨b, 0, none⟩ = some (.pointer (some ⟨b, 0, none⟩)) := by rw [Lib.cell_of_heap hb2]; rfl
  have d1 : w2.cell? ⟨b, 1, none⟩ = some v := by rw [Lib.cell_of_heap hb2]; rfl
  have f1 : w2.frozen? ⟨b, 1, none⟩ = false := Lib.frozen_of_heap hb2 1
  obtain ⟨g, cap, rfl⟩ : ∃ g cap, v' = .slice (some ⟨g, 0, none⟩) (bs.length + 1) cap := by
    rcases hown'.2 with ⟨_, h0⟩ | ⟨g, cap, cur, hv, _⟩
    · omega
    · exact ⟨g, cap, hv⟩
  go_wp2
  go_ret
  refine ⟨rfl, ?_, ?_⟩
  · exact Or.inr (Lib.BuilderAt.put (T := 156) (e := 5) hB hb2 (bs' := bs ++ [.int .u8 c]) (by simpa using hown') (by decide))
  · exact ((hb1.alloc (by have := hb1.size; omega) _).grown hgrow (by have := hb1.size; simp; omega) (fun k hk => (hown.lt k hk).1)).setCell (p := ⟨b, 1, none⟩) hB _
theorem writeByte_u8 (B b : Nat) (acc : List UInt8) (c : UInt8) (w : World) (h : Lib.IsBuilder 156 5 B b (Lib.byteCells acc) w) (hlen : acc.length + 1 ≤ 140737488355328) (hBw : B ≤ w.heap.size) :
    Calls Tryz.prog 93 #[.pointer (some ⟨b, 0, none⟩), .int .u8 (c.toNat : Int)] w fun e w' => e = .returned .nilIface ∧ (Lib.IsBuilder 156 5 B b (Lib.byteCells (acc ++ [c])) w' ∧ Below B w w') := by
  rw [byteCells_snoc]; exact writeByte_any B b _ _ w h (by rw [Lib.byteCells_length]; exact hlen) hBw
theorem writeByte_61 (B b : Nat) (acc : List UInt8) (w : World) (h : Lib.IsBuilder 156 5 B b (Lib.byteCells acc) w) (hlen : acc.length + 1 ≤ 140737488355328) (hBw : B ≤ w.heap.size) :
    Calls Tryz.prog 93 #[.pointer (some ⟨b, 0, none⟩), .int .u8 61] w fun e w' => e = .returned .nilIface ∧ (Lib.IsBuilder 156 5 B b (Lib.byteCells (acc ++ [61])) w' ∧ Below B w w') := writeByte_u8 B b acc 61 w h hlen hBw
end Go.Proofs.YtpdbejeiceodkaaGreatDoor
