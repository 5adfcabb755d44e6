/- RChk, MofP: texts of the seat, one behind the other (a claim holds at most sixty). Conditions: each theorem names its own. -/
import Derived.Test.YtpdbejeiceodkaaGreatDoorPa33
import Derived.Test.YtpdbejeiceodkaaGreatDoorPk20
import Derived.Test.YtpdbejeiceodkaaGreatDoorPk04
namespace Go.Proofs.YtpdbejeiceodkaaGreatDoor
open Go.RowKit
set_option linter.unusedSimpArgs false
set_option linter.unusedVariables false
set_option maxRecDepth 1000000
theorem alk_p (a b : Fil) (h : a.p ≠ b.p) : alkF a b = false := by unfold alkF; rw [decide_eq_false h]; rfl
theorem alk_m (a b : Fil) (h : sameL a.m b.m = false) : alkF a b = false := by unfold alkF; rw [h]; simp
theorem alk_c (a b : Fil) (h : a.c ≠ b.c) : alkF a b = false := by unfold alkF; rw [decide_eq_false h]; simp
theorem alk_y (a b : Fil) (h1 : a.p = b.p) (h2 : sameL a.m b.m = true) (h3 : a.c = b.c) : alkF a b = sameL a.l b.l := by unfold alkF; rw [decide_eq_true h1, h2, decide_eq_true h3]; simp
theorem fil_bd (f : Fil) (h : filLen f ≤ 1073741824) : f.p.length ≤ 1099511627776 ∧ f.m.length ≤ 1099511627776 ∧ f.c.length ≤ 1099511627776 ∧ f.l.length ≤ 1099511627776 := by unfold filLen at h; omega
set_option maxHeartbeats 4000000 in
theorem ralike_any (a b : Fil) (w : World) (ha : filLen a ≤ 1073741824) (hb : filLen b ≤ 1073741824) : Calls Tryz.prog 68 #[.agg (filC a), .agg (filC b)] w fun e w' => e = .returned (.bool (alkF a b)) ∧ Below w.heap.size w w' := by
  have H1 := Lib.hid (fun W => rsame_any a.m b.m W (fil_bd a ha).2.1 (fil_bd b hb).2.1)
  have H2 := Lib.hid (fun W => rsame_any a.l b.l W (fil_bd a ha).2.2.2 (fil_bd b hb).2.2.2)
  have HA := Lib.hid (And.intro (alk_p a b) (And.intro (alk_m a b) (And.intro (alk_c a b) (alk_y a b))))
  obtain ⟨R, hR⟩ : ∃ R, alkF a b = R := ⟨_, rfl⟩
  rw [hR] at HA ⊢
  clear hR ha hb
  obtain ⟨p, m, c, l, bb, t⟩ := a
  obtain ⟨p2, m2, c2, l2, bb2, t2⟩ := b
  obtain ⟨W2, hW2⟩ : ∃ W2, (w.alloc (.cells (fC p m c l bb t) 64)).alloc (.cells (fC p2 m2 c2 l2 bb2 t2) 64) = W2 := ⟨_, rfl⟩
  obtain ⟨g, hg⟩ : ∃ g, w.heap.size = g := ⟨_, rfl⟩
  obtain ⟨r, hr⟩ : ∃ r, g + 1 = r := ⟨_, rfl⟩
  have hb2 : Below w.heap.size w W2 := by rw [← hW2]; exact ((Below.refl _ w).alloc (Nat.le_refl _) _).alloc (by simp) _
  have hB2 : BlkIs W2 g (fC p m c l bb t) 64 := by rw [← hW2, ← hg]; exact (blkIs_new _ _ _).alloc _
  have hR2 : BlkIs W2 r (fC p2 m2 c2 l2 bb2 t2) 64 := by rw [← hW2, ← hr, ← hg]; have := blkIs_new (w.alloc (.cells (fC p m c l bb t) 64)) (fC p2 m2 c2 l2 bb2 t2) 64; rwa [World.size_alloc] at this
  have HB := Lib.hid (And.intro hb2 (And.intro hB2 hR2)); have HW2 := Lib.hid hW2
  have a0 : W2.cell? ⟨g, 0, none⟩ = some (.string ⟨p.toArray⟩) := hB2.cell 0 _ rfl
  have b0 : W2.cell? ⟨r, 0, none⟩ = some (.string ⟨p2.toArray⟩) := hR2.cell 0 _ rfl
  have a1 : W2.cell? ⟨g, 1, none⟩ = some (.string ⟨m.toArray⟩) := hB2.cell 1 _ rfl
  have b1 : W2.cell? ⟨r, 1, none⟩ = some (.string ⟨m2.toArray⟩) := hR2.cell 1 _ rfl
  clear hb2 hB2 hR2 hW2
  simp only at HA H1 H2
  show Calls Tryz.prog 68 #[.agg (fC p m c l bb t), .agg (fC p2 m2 c2 l2 bb2 t2)] w _
  go_enter Tryz.func68, Tryz.ntmps68
  go_upto_region 1 with fail
  rw [HW2.out]
  by_cases q1 : p = p2
  case neg =>
    have e1 : (p == p2) = false := by simpa using q1
    have HF := Lib.hid (HA.out.1 q1)
    clear q1
    go_wp2
    go_ret
    exact ⟨by (rw [HF.out]) <;> rfl, by first | exact HB.out.1 | (rw [← hg]; exact HB.out.1)⟩
  have e1 : (p == p2) = true := by simpa using q1
  cases q2 : sameL m m2 with
  | false =>
    rw [q2] at H1
    have HF := Lib.hid (HA.out.2.1 q2)
    clear q1 q2
    go_wp2_with fail
    refine (H1.out _).mono ?_
    rintro e w3 ⟨rfl, hb3⟩
    have HB3 := Lib.hid (HB.out.1.trans (hb3.mono HB.out.1.size))
    clear hb3
    go_wp2
    go_ret
    exact ⟨by (rw [HF.out]) <;> rfl, by first | exact HB3.out | (rw [← hg]; exact HB3.out)⟩
  | true =>
  rw [q2] at H1
  go_wp2_with fail
  refine (H1.out _).mono ?_
  rintro e w3 ⟨rfl, hb3⟩
  have HB3 := Lib.hid (And.intro (HB.out.1.trans (hb3.mono HB.out.1.size)) (And.intro (HB.out.2.1.later hb3) (HB.out.2.2.later hb3)))
  clear hb3 a0 a1 b0 b1
  have a0 : w3.cell? ⟨g, 2, none⟩ = some (.string ⟨c.toArray⟩) := HB3.out.2.1.cell 2 _ rfl
  have b0 : w3.cell? ⟨r, 2, none⟩ = some (.string ⟨c2.toArray⟩) := HB3.out.2.2.cell 2 _ rfl
  have a1 : w3.cell? ⟨g, 3, none⟩ = some (.string ⟨l.toArray⟩) := HB3.out.2.1.cell 3 _ rfl
  have b1 : w3.cell? ⟨r, 3, none⟩ = some (.string ⟨l2.toArray⟩) := HB3.out.2.2.cell 3 _ rfl
  by_cases q3 : c = c2
  case neg =>
    have e3 : (c == c2) = false := by simpa using q3
    have HF := Lib.hid (HA.out.2.2.1 q3)
    clear q1 q2 q3
    go_wp2
    go_ret
    exact ⟨by (rw [HF.out]) <;> rfl, by first | exact HB3.out.1 | (rw [← hg]; exact HB3.out.1)⟩
  have e3 : (c == c2) = true := by simpa using q3
  have HF := Lib.hid (HA.out.2.2.2 q1 q2 q3)
  clear q1 q2 q3
  go_wp2_with fail
  refine (H2.out _).mono ?_
  rintro e w4 ⟨rfl, hb4⟩
  have HB4 := Lib.hid (HB3.out.1.trans (hb4.mono HB3.out.1.size))
  clear hb4
  go_wp2
  go_ret
  exact ⟨by (rw [HF.out]) <;> rfl, by first | exact HB4.out | (rw [← hg]; exact HB4.out)⟩
theorem w64s (i : Nat) (h : i ≤ 4096) : wrap64 ((i : Int) + 1) = (i : Int) + 1 := by unfold wrap64; omega
set_option maxHeartbeats 8000000 in
theorem rcheck_any (v : Value) (l : List Fil) (w : World) (hN : totG l + l.length ≤ 1073741824) (h : FilsIn w v l) : Calls Tryz.prog 39 #[v] w fun e w' => e = .returned (.tuple #[.int .i64 ((fck [] l).1 : Nat), .int .i64 ((fck [] l).2 : Nat)]) ∧ Below w.heap.size w w' := by
  obtain ⟨ao, cap, rfl, hat⟩ := h
  have HAT := Lib.hid hat
  have HRT := Lib.hid (fun (f : Fil) W hf => rright_any f W hf); have HAL := Lib.hid (fun (a b : Fil) W ha hb => ralike_any a b W ha hb)
  have HFL := Lib.hid (show ∀ i f, l[i]? = some f → filLen f ≤ 1073741824 from fun i f hf => by have := totG_get l i f hf; omega)
  have hlb : l.length ≤ 1073741824 := by omega
  obtain ⟨⟨R1, R2⟩, hR⟩ : ∃ r, fck [] l = r := ⟨_, rfl⟩
  rw [hR]
  have HR := Lib.hid hR
  clear hat hN hR
  go_enter Tryz.func39, Tryz.ntmps39
  go_wp2
  go_loopw [4] (fun iv wr => ∃ i : Nat, iv = .int .i64 i ∧ i ≤ l.length ∧ i ≤ 4096 ∧ fck (l.take i) (l.drop i) = (R1, R2) ∧ Below w.heap.size w wr) (fun iv _ => l.length - (intOf iv).toNat)
  case atStart => exact ⟨0, rfl, Nat.zero_le _, Nat.zero_le _, HR.out, Below.refl _ _⟩
  case round =>
    obtain ⟨i, rfl, hi, hi4, hck, hbl⟩ := hrel
    have k0 : (0 : Int) ≤ (i : Int) := Int.natCast_nonneg _
    by_cases hlt : i < l.length
    case neg =>
      obtain rfl : i = l.length := by omega
      have hd : decide (l.length < l.length) = false := decide_eq_false (Nat.lt_irrefl _)
      have g1 : ¬ (4096 : Int) < (l.length : Int) := by omega
      rw [List.drop_length, fck_nil] at hck
      injection hck with h1 h2
      subst h1
      subst h2
      have HB := Lib.hid hbl
      clear hbl HR
      go_wp2
      go_ret2
      exact ⟨rfl, HB.out⟩
    have k1 : (i : Int) < (l.length : Int) := by omega
    obtain ⟨f, hf⟩ : ∃ f, l[i]? = some f := ⟨_, List.getElem?_eq_getElem hlt⟩
    rw [fck_step l i f hf] at hck
    by_cases h4 : i = 4096
    · subst h4
      rw [if_pos rfl] at hck
      injection hck with h1 h2
      subst h1
      subst h2
      have g2 : (4096 : Int) < (l.length : Int) := by omega
      have HB := Lib.hid hbl
      clear hbl HR
      go_wp2
      go_ret2
      exact ⟨rfl, HB.out⟩
    have k4 : (i : Int) < 4096 := by omega
    rw [if_neg h4] at hck
    have hfl := HFL.out i f hf
    obtain ⟨g, o, rfl, hC⟩ := HAT.out.below hbl i f hf
    obtain ⟨a0, a1, a2, a3, a4, a5, _⟩ := id hC
    have HRF := Lib.hid (fun W => HRT.out f W hfl)
    cases hr : rgt f with
    | false =>
      rw [hr] at hck HRF
      rw [if_pos rfl] at hck
      injection hck with h1 h2
      subst h1
      subst h2
      have HB := Lib.hid hbl
      clear hbl HR hC hr
      go_wp2_with fail
      refine (HRF.out _).mono ?_
      rintro e w1 ⟨rfl, hb1⟩
      have HB1 := Lib.hid (HB.out.trans (hb1.mono HB.out.size))
      clear hb1
      go_wp2
      go_ret2
      exact ⟨rfl, HB1.out⟩
    | true =>
      rw [hr] at hck HRF
      rw [if_neg (by decide)] at hck
      have HCK := Lib.hid hck; have HB := Lib.hid hbl; have HF := Lib.hid (And.intro hf hfl)
      clear hck hbl hr hC hf hfl HR
      go_wp2_with fail
      refine (HRF.out _).mono ?_
      rintro e w1 ⟨rfl, hb1⟩
      have HB1 := Lib.hid (HB.out.trans (hb1.mono HB.out.size))
      clear hb1 a0 a1 a2 a3 a4 a5
      go_wp2
      go_loopw [5] (fun kv wr => ∃ k : Nat, kv = .int .i64 k ∧ k ≤ i ∧ (l.take k).any (fun a => alkF a f) = false ∧ Below w.heap.size w wr) (fun kv _ => i - (intOf kv).toNat)
      case atStart => exact ⟨0, rfl, Nat.zero_le _, rfl, HB1.out⟩
      case round =>
        obtain ⟨k, rfl, hk, hany, hbl⟩ := hrel
        have j0 : (0 : Int) ≤ (k : Int) := Int.natCast_nonneg _
        by_cases hkl : k < i
        · have j1 : (k : Int) < (l.length : Int) := by omega
          have j2 : (k : Int) < (i : Int) := by omega
          obtain ⟨fk, hfk⟩ : ∃ f, l[k]? = some f := ⟨_, List.getElem?_eq_getElem (by omega)⟩
          obtain ⟨g1, o1, e1, hCk⟩ := HAT.out.below hbl k fk hfk
          obtain ⟨g2, o2, e2, hCi⟩ := HAT.out.below hbl i f HF.out.1
          injection e1 with e1
          injection e1 with e11 e12 _
          subst e11
          subst e12
          injection e2 with e2
          injection e2 with e21 e22 _
          subst e21
          subst e22
          have HS := Lib.hid (show Cells6 g (o + k * 6) fk wr.drew ∧ Cells6 g (o + i * 6) f wr.drew from ⟨hCk, hCi⟩)
          have HAK := Lib.hid (fun W => HAL.out fk f W (HFL.out k fk hfk) HF.out.2)
          have htk : (l.take (k + 1)).any (fun a => alkF a f) = alkF fk f := by rw [take_any _ _ _ _ hfk, hany, Bool.false_or]
          have HTK := Lib.hid (And.intro htk (show alkF fk f = true → (l.take i).any (fun a => alkF a f) = true from fun h => any_yes _ _ k fk (by rw [List.getElem?_take, if_pos hkl]; exact hfk) h))
          have HBL := Lib.hid hbl
          have hwk := w64s k (by omega)
          have HWK := Lib.hid hwk
          clear hCk hCi htk hbl hwk hany hfk
          obtain ⟨AK, hAK⟩ : ∃ x, alkF fk f = x := ⟨_, rfl⟩
          rw [hAK] at HTK HAK
          clear hAK
          go_wp2
          refine wp_region_textH (fun w' => Cells6 g (o + k * 6) fk w' ∧ Cells6 g (o + i * 6) f w') [(0, true), (1, true), (2, true), (3, true), (4, true), (5, true), (6, true), (7, true), (8, false)] (by kernel_rfl) (by kernel_rfl) (by kernel_rfl) (by kernel_rfl) HS.out ?_
          iterate 8 (refine wpTxH_take rfl (by kernel_rfl) (v := ?_) ?_ ?_; rotate_left; · (intro w hS; obtain ⟨⟨s0, s1, s2, s3, s4, s5, _⟩, t0, t1, t2, t3, t4, t5, _⟩ := hS; go_simp; with_reducible rfl))
          refine wpTxH_step rfl (fun K hK => ?_)
          go_simp
          refine (HAK.out _).mono ?_
          rintro e w3 ⟨rfl, hb3⟩
          have HB3 := Lib.hid (HBL.out.drew.trans (hb3.mono HBL.out.size))
          refine hK _ _ ⟨HS.out.1.below hb3, HS.out.2.below hb3⟩ ?_
          clear hK K hb3
          refine wpTxH_nil ?_
          cases AK with
          | true =>
            have hck := HCK.out
            rw [if_pos (HTK.out.2 rfl)] at hck
            injection hck with h1 h2
            subst h1
            subst h2
            go_simp
            go_wp2
            go_ret2
            exact ⟨rfl, HB3.out⟩
          | false =>
            go_simp
            go_wp2
            have hwi := HWK.out
            go_roundw
            case rel => (try rw [hwi]); clear hwi; exact ⟨k + 1, by go_num, hkl, HTK.out.1, HB3.out⟩
            case measure => (try rw [hwi]); clear hwi; simp [intOf]; omega
        · obtain rfl : k = i := by omega
          have hd : decide (k < k) = false := decide_eq_false (Nat.lt_irrefl _)
          have hck := HCK.out
          rw [if_neg (by rw [hany]; decide)] at hck
          have HX := Lib.hid (And.intro hck hbl)
          have hwk := w64s k hi4
          have HWK := Lib.hid hwk
          clear hck hbl hwk hany
          go_wp2
          have hwi := HWK.out
          go_roundw
          case rel => (try rw [hwi]); clear hwi; exact ⟨k + 1, by go_num, by omega, by omega, HX.out⟩
          case measure => (try rw [hwi]); clear hwi; simp [intOf]; omega
end Go.Proofs.YtpdbejeiceodkaaGreatDoor
namespace Go.Proofs.YtpdbejeiceodkaaGreatDoor
open Go.RowKit
set_option linter.unusedSimpArgs false
set_option linter.unusedVariables false
set_option maxRecDepth 100000
/-- The place behind the last c; 0: there is none. -/
def lastP (c : UInt8) : List UInt8 → Nat
  | [] => 0
  | d :: r => if lastP c r = 0 then (if d = c then 1 else 0) else lastP c r + 1
theorem lastP_none (c : UInt8) (l : List UInt8) (h : ∀ j : Nat, l[j]? ≠ some c) : lastP c l = 0 := by
  induction l with
  | nil => rfl
  | cons d r ih =>
    have h1 := ih (fun j => by have := h (j + 1); simpa using this)
    have h2 : d ≠ c := by have := h 0; simpa using this
    rw [lastP, h1, if_pos rfl, if_neg h2]
theorem lastP_at (c : UInt8) (l : List UInt8) : ∀ i : Nat, l[i]? = some c → (∀ j : Nat, i < j → l[j]? ≠ some c) → lastP c l = i + 1 := by
  induction l with
  | nil => intro i h; simp at h
  | cons d r ih =>
    intro i h hn
    cases i with
    | zero =>
      obtain rfl : d = c := by simpa using h
      rw [lastP, lastP_none d r (fun j => by have := hn (j + 1) (by omega); simpa using this), if_pos rfl, if_pos rfl]
    | succ i =>
      have h1 := ih i (by simpa using h) (fun j hj => by have := hn (j + 1) (by omega); simpa using this)
      rw [lastP, h1, if_neg (by omega)]
theorem lastP_le (c : UInt8) (l : List UInt8) : lastP c l ≤ l.length := by
  induction l with
  | nil => exact Nat.le_refl _
  | cons d r ih =>
    rw [lastP, List.length_cons]
    split
    · split <;> omega
    · omega
/-- What a loop knows that has gone from a to i and keeps the place behind the last c (at a: none yet). -/
def LstU (c : UInt8) (l : List UInt8) (a f i : Nat) : Prop := (f = a ∧ ∀ j, a ≤ j → j < i → l[j]? ≠ some c) ∨ (a < f ∧ f ≤ i ∧ l[f - 1]? = some c ∧ ∀ j, f ≤ j → j < i → l[j]? ≠ some c)
theorem lstU_start (c : UInt8) (l : List UInt8) (a : Nat) : LstU c l a a a := .inl ⟨rfl, fun j h1 h2 => by omega⟩
theorem LstU.hit {c : UInt8} {l : List UInt8} {a f i : Nat} (h : l[i]? = some c) (ha : a ≤ i) : LstU c l a (i + 1) (i + 1) := .inr ⟨by omega, Nat.le_refl _, by simpa using h, fun j h1 h2 => by omega⟩
theorem LstU.miss {c : UInt8} {l : List UInt8} {a f i : Nat} (h : LstU c l a f i) (hc : l[i]? ≠ some c) : LstU c l a f (i + 1) := by
  rcases h with ⟨e, h⟩ | ⟨h1, h2, h3, h4⟩
  · exact .inl ⟨e, fun j ha hj => by
      by_cases e : j = i
      · subst e; exact hc
      · exact h j ha (by omega)⟩
  · exact .inr ⟨h1, by omega, h3, fun j hf hj => by
      by_cases e : j = i
      · subst e; exact hc
      · exact h4 j hf (by omega)⟩
theorem LstU.fin {c : UInt8} {l : List UInt8} {a f i : Nat} (h : LstU c l a f i) (hi : l.length ≤ i) : lastP c (l.drop a) = f - a := by
  have hno : ∀ j, i ≤ j → l[j]? ≠ some c := fun j hj => by rw [List.getElem?_eq_none (by omega)]; simp
  rcases h with ⟨e, h⟩ | ⟨h1, h2, h3, h4⟩
  · subst e
    rw [lastP_none c _ (fun j => by
      rw [List.getElem?_drop]
      by_cases hj : f + j < i
      · exact h _ (by omega) hj
      · exact hno _ (by omega)), Nat.sub_self]
  · rw [lastP_at c _ (f - 1 - a) (by rw [List.getElem?_drop, show a + (f - 1 - a) = f - 1 by omega]; exact h3) (fun j hj => by
      rw [List.getElem?_drop]
      by_cases hj2 : a + j < i
      · exact h4 _ (by omega) hj2
      · exact hno _ (by omega))]
    omega
def mofNm : List (List UInt8) := [[104, 116, 109, 108], [104, 116, 109], [116, 120, 116], [99, 115, 115], [106, 115], [106, 115, 111, 110], [120, 109, 108], [115, 118, 103], [112, 110, 103], [106, 112, 103], [106, 112, 101, 103], [103, 105, 102], [105, 99, 111], [112, 100, 102], [119, 97, 115, 109], [122, 105, 112]]
def mofTp : List (List UInt8) := [[116, 101, 120, 116, 47, 104, 116, 109, 108, 59, 32, 99, 104, 97, 114, 115, 101, 116, 61, 117, 116, 102, 45, 56], [116, 101, 120, 116, 47, 104, 116, 109, 108, 59, 32, 99, 104, 97, 114, 115, 101, 116, 61, 117, 116, 102, 45, 56], [116, 101, 120, 116, 47, 112, 108, 97, 105, 110, 59, 32, 99, 104, 97, 114, 115, 101, 116, 61, 117, 116, 102, 45, 56], [116, 101, 120, 116, 47, 99, 115, 115], [116, 101, 120, 116, 47, 106, 97, 118, 97, 115, 99, 114, 105, 112, 116], [97, 112, 112, 108, 105, 99, 97, 116, 105, 111, 110, 47, 106, 115, 111, 110], [97, 112, 112, 108, 105, 99, 97, 116, 105, 111, 110, 47, 120, 109, 108], [105, 109, 97, 103, 101, 47, 115, 118, 103, 43, 120, 109, 108], [105, 109, 97, 103, 101, 47, 112, 110, 103], [105, 109, 97, 103, 101, 47, 106, 112, 101, 103], [105, 109, 97, 103, 101, 47, 106, 112, 101, 103], [105, 109, 97, 103, 101, 47, 103, 105, 102], [105, 109, 97, 103, 101, 47, 120, 45, 105, 99, 111, 110], [97, 112, 112, 108, 105, 99, 97, 116, 105, 111, 110, 47, 112, 100, 102], [97, 112, 112, 108, 105, 99, 97, 116, 105, 111, 110, 47, 119, 97, 115, 109], [97, 112, 112, 108, 105, 99, 97, 116, 105, 111, 110, 47, 122, 105, 112]]
def mofO : List UInt8 := [97, 112, 112, 108, 105, 99, 97, 116, 105, 111, 110, 47, 111, 99, 116, 101, 116, 45, 115, 116, 114, 101, 97, 109]
/-- The text of an end. -/
def mofT (x : List UInt8) : List UInt8 := if x = [104, 116, 109, 108] then [116, 101, 120, 116, 47, 104, 116, 109, 108, 59, 32, 99, 104, 97, 114, 115, 101, 116, 61, 117, 116, 102, 45, 56] else if x = [104, 116, 109] then [116, 101, 120, 116, 47, 104, 116, 109, 108, 59, 32, 99, 104, 97, 114, 115, 101, 116, 61, 117, 116, 102, 45, 56] else if x = [116, 120, 116] then [116, 101, 120, 116, 47, 112, 108, 97, 105, 110, 59, 32, 99, 104, 97, 114, 115, 101, 116, 61, 117, 116, 102, 45, 56] else if x = [99, 115, 115] then [116, 101, 120, 116, 47, 99, 115, 115] else if x = [106, 115] then [116, 101, 120, 116, 47, 106, 97, 118, 97, 115, 99, 114, 105, 112, 116] else if x = [106, 115, 111, 110] then [97, 112, 112, 108, 105, 99, 97, 116, 105, 111, 110, 47, 106, 115, 111, 110] else if x = [120, 109, 108] then [97, 112, 112, 108, 105, 99, 97, 116, 105, 111, 110, 47, 120, 109, 108] else if x = [115, 118, 103] then [105, 109, 97, 103, 101, 47, 115, 118, 103, 43, 120, 109, 108] else if x = [112, 110, 103] then [105, 109, 97, 103, 101, 47, 112, 110, 103] else if x = [106, 112, 103] then [105, 109, 97, 103, 101, 47, 106, 112, 101, 103] else if x = [106, 112, 101, 103] then [105, 109, 97, 103, 101, 47, 106, 112, 101, 103] else if x = [103, 105, 102] then [105, 109, 97, 103, 101, 47, 103, 105, 102] else if x = [105, 99, 111] then [105, 109, 97, 103, 101, 47, 120, 45, 105, 99, 111, 110] else if x = [112, 100, 102] then [97, 112, 112, 108, 105, 99, 97, 116, 105, 111, 110, 47, 112, 100, 102] else if x = [119, 97, 115, 109] then [97, 112, 112, 108, 105, 99, 97, 116, 105, 111, 110, 47, 119, 97, 115, 109] else if x = [122, 105, 112] then [97, 112, 112, 108, 105, 99, 97, 116, 105, 111, 110, 47, 122, 105, 112] else mofO
theorem mofT_at (x : List UInt8) (i : Nat) (t : List UInt8) (h : mofNm[i]? = some x) (ht : mofTp[i]? = some t) (hn : ∀ j, j < i → mofNm[j]? ≠ some x) : mofT x = t := by
  have hi : i < 16 := (List.getElem?_eq_some_iff.1 h).1
  rcases i with _ | _ | _ | _ | _ | _ | _ | _ | _ | _ | _ | _ | _ | _ | _ | _ | i
  all_goals first
    | omega
    | (simp only [mofNm, mofTp, List.getElem?_cons_succ, List.getElem?_cons_zero, Option.some.injEq] at h ht
       subst h
       subst ht
       rfl)
theorem mofT_none (x : List UInt8) (h : ∀ j, j < 16 → mofNm[j]? ≠ some x) : mofT x = mofO := by
  unfold mofT
  rw [if_neg (fun e => h 0 (by decide) (by rw [e]; rfl))]
  rw [if_neg (fun e => h 1 (by decide) (by rw [e]; rfl))]
  rw [if_neg (fun e => h 2 (by decide) (by rw [e]; rfl))]
  rw [if_neg (fun e => h 3 (by decide) (by rw [e]; rfl))]
  rw [if_neg (fun e => h 4 (by decide) (by rw [e]; rfl))]
  rw [if_neg (fun e => h 5 (by decide) (by rw [e]; rfl))]
  rw [if_neg (fun e => h 6 (by decide) (by rw [e]; rfl))]
  rw [if_neg (fun e => h 7 (by decide) (by rw [e]; rfl))]
  rw [if_neg (fun e => h 8 (by decide) (by rw [e]; rfl))]
  rw [if_neg (fun e => h 9 (by decide) (by rw [e]; rfl))]
  rw [if_neg (fun e => h 10 (by decide) (by rw [e]; rfl))]
  rw [if_neg (fun e => h 11 (by decide) (by rw [e]; rfl))]
  rw [if_neg (fun e => h 12 (by decide) (by rw [e]; rfl))]
  rw [if_neg (fun e => h 13 (by decide) (by rw [e]; rfl))]
  rw [if_neg (fun e => h 14 (by decide) (by rw [e]; rfl))]
  rw [if_neg (fun e => h 15 (by decide) (by rw [e]; rfl))]
/-- The end, small; nothing: there is none. -/
def mofE (l : List UInt8) : List UInt8 := if lastP 46 (l.drop (lastP 47 l)) = 0 then [] else lowL ((l.drop (lastP 47 l)).drop (lastP 46 (l.drop (lastP 47 l))))
def mofF (l : List UInt8) : List UInt8 := mofT (mofE l)
theorem mofF_none (l : List UInt8) (h : lastP 46 (l.drop (lastP 47 l)) = 0) : mofF l = mofO := by unfold mofF mofE; rw [if_pos h]; rfl
theorem mofF_some (l x : List UInt8) (h : lastP 46 (l.drop (lastP 47 l)) ≠ 0) (hx : lowL ((l.drop (lastP 47 l)).drop (lastP 46 (l.drop (lastP 47 l)))) = x) : mofF l = mofT x := by unfold mofF mofE; rw [if_neg h, hx]
end Go.Proofs.YtpdbejeiceodkaaGreatDoor
