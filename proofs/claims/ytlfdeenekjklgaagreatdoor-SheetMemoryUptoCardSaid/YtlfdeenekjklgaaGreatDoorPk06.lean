/- Mrk, PrtM, PlP, ParS: texts of the seat, one behind the other (a claim holds at most sixty). Conditions: each theorem names its own. -/
import Derived.Test.YtlfdeenekjklgaaGreatDoorPk05
import Derived.BigQuiet
import Derived.Deep.QuietTactic
import Derived.StillTailTactics
import Derived.Lib.IndexAny
import Derived.Test.YtlfdeenekjklgaaGreatDoorPk01
import Derived.Lib.IndexMore
import Derived.Lib.IndexLaws
namespace Go.Proofs.YtlfdeenekjklgaaGreatDoor
open Go.RowKit
set_option linter.unusedSimpArgs false
set_option linter.unusedVariables false
set_option maxRecDepth 1000000
def mkL : List UInt8 := [39, 40, 41, 43, 95, 44, 45, 46, 47, 58, 61, 63]
/-- May stand in a boundary. -/
def bdr (c : UInt8) : Bool := (dgN c.toNat || ltN c.toNat) || mkL.contains c
def isMrk (l : List UInt8) : Bool := l.all bdr && (decide (1 ≤ l.length) && decide (l.length ≤ 70))
theorem mkL_ix (c : UInt8) : (Lib.indexByte (⟨#[39, 40, 41, 43, 95, 44, 45, 46, 47, 58, 61, 63]⟩ : ByteArray).data.toList c < 0) ↔ mkL.contains c = false := by
  have h := Lib.contains_iff_indexByte mkL c
  have e : (⟨#[39, 40, 41, 43, 95, 44, 45, 46, 47, 58, 61, 63]⟩ : ByteArray).data.toList = mkL := rfl
  rw [e, h, decide_eq_false_iff_not]
  omega
theorem isMrk_bad (l : List UInt8) (k : Nat) (c : UInt8) (h : l[k]? = some c) (hp : bdr c = false) : isMrk l = false := by
  unfold isMrk; rw [all_not bdr l k c h hp, Bool.false_and]
theorem isMrk_all (s : ByteArray) (h : (s.data.toList.take s.size).all bdr = true) : isMrk s.data.toList = (decide (1 ≤ s.size) && decide (s.size ≤ 70)) := by
  unfold isMrk; rw [all_full bdr s h, Bool.true_and, size_list]
theorem bdr_let (c : UInt8) (n : Nat) (h : c.toNat = n) (hc : (97 ≤ n ∧ n ≤ 122) ∨ (65 ≤ n ∧ n ≤ 90) ∨ (48 ≤ n ∧ n ≤ 57)) : bdr c = true := by
  subst h
  unfold bdr dgN ltN
  have : (decide (48 ≤ c.toNat ∧ c.toNat ≤ 57) || decide ((65 ≤ c.toNat ∧ c.toNat ≤ 90) ∨ (97 ≤ c.toNat ∧ c.toNat ≤ 122))) = true := by
    rw [Bool.or_eq_true, decide_eq_true_eq, decide_eq_true_eq]; omega
  rw [this, Bool.true_or]
theorem bdr_not (c : UInt8) (n : Nat) (h : c.toNat = n) (hc : ¬ ((97 ≤ n ∧ n ≤ 122) ∨ (65 ≤ n ∧ n ≤ 90) ∨ (48 ≤ n ∧ n ≤ 57))) : bdr c = mkL.contains c := by
  subst h
  unfold bdr dgN ltN
  have : (decide (48 ≤ c.toNat ∧ c.toNat ≤ 57) || decide ((65 ≤ c.toNat ∧ c.toNat ≤ 90) ∨ (97 ≤ c.toNat ∧ c.toNat ≤ 122))) = false := by
    rw [Bool.or_eq_false_iff, decide_eq_false_iff_not, decide_eq_false_iff_not]; omega
  rw [this, Bool.false_or]
theorem u8_back (c : UInt8) (n : Nat) (h : c.toNat = n) : ((n : Int).toNat).toUInt8 = c := by subst h; simp
set_option maxHeartbeats 8000000 in
theorem isbound_any (s : ByteArray) (w : World) (hs : s.size ≤ 1099511627776) : Calls Tryz.prog 24 #[.string s] w fun e w' => e = .returned (.bool (isMrk s.data.toList)) ∧ w' = w := by
  go_enter Tryz.func24, Tryz.ntmps24
  go_wp2
  go_loopw [8] (fun iv wr => ∃ i : Nat, iv = .int .i64 i ∧ i ≤ s.size ∧ (s.data.toList.take i).all bdr = true ∧ wr = w) (fun iv _ => s.size - (intOf iv).toNat)
  case atStart => exact ⟨0, rfl, Nat.zero_le _, rfl, rfl⟩
  case round =>
    obtain ⟨i, rfl, hi, hall, rfl⟩ := hrel
    by_cases hlt : i < s.size
    · obtain ⟨c, hc⟩ : ∃ c, s[i]'hlt = c := ⟨_, rfl⟩
      have hget := list_get s i hlt
      rw [hc] at hget
      have k0 : (0 : Int) ≤ (i : Int) := Int.natCast_nonneg _
      have k1 : (i : Int) < (s.size : Int) := by omega
      have hwi := w64o i (le_oo i s.size hi hs)
      obtain ⟨n, hn⟩ : ∃ n, c.toNat = n := ⟨_, rfl⟩
      have HA := Lib.hid (And.intro hall (And.intro hget hn)); have HW := Lib.hid hwi
      clear hall hget hwi
      have hcase : ((97 ≤ n ∧ n ≤ 122) ∨ (n < 97 ∧ 65 ≤ n ∧ n ≤ 90) ∨ (n < 97 ∧ n < 65 ∧ 48 ≤ n ∧ n ≤ 57)) ∨ ((97 ≤ n ∧ 122 < n) ∨ (n < 97 ∧ 90 < n) ∨ (n < 97 ∧ n < 65 ∧ 57 < n) ∨ (n < 97 ∧ n < 65 ∧ n < 48)) := by omega
      rcases hcase with hl | hl
      · have hb := bdr_let c n hn (by omega)
        have hx := all_take bdr _ i c HA.out.2.1 HA.out.1 hb
        have HX := Lib.hid hx
        clear hb hx
        rw [← hc] at hn
        clear hn
        rcases hl with ⟨h1, h2⟩ | ⟨h1, h2, h3⟩ | ⟨h1, h2, h3, h4⟩
        · have i1 : (97 : Int) ≤ (c.toNat : Int) := by rw [HA.out.2.2]; omega
          have i2 : (c.toNat : Int) ≤ 122 := by rw [HA.out.2.2]; omega
          go_wp2
          have hwi := HW.out
          go_roundw
          case rel => (try rw [hwi]); clear hwi; exact ⟨i + 1, by go_num, by omega, HX.out, by first | rfl | trivial⟩
          case measure => (try rw [hwi]); clear hwi; simp [intOf]; omega
        · have i0 : (c.toNat : Int) < 97 := by rw [HA.out.2.2]; omega
          have i1 : (65 : Int) ≤ (c.toNat : Int) := by rw [HA.out.2.2]; omega
          have i2 : (c.toNat : Int) ≤ 90 := by rw [HA.out.2.2]; omega
          go_wp2
          have hwi := HW.out
          go_roundw
          case rel => (try rw [hwi]); clear hwi; exact ⟨i + 1, by go_num, by omega, HX.out, by first | rfl | trivial⟩
          case measure => (try rw [hwi]); clear hwi; simp [intOf]; omega
        · have i0 : (c.toNat : Int) < 65 := by rw [HA.out.2.2]; omega
          have i1 : (48 : Int) ≤ (c.toNat : Int) := by rw [HA.out.2.2]; omega
          have i2 : (c.toNat : Int) ≤ 57 := by rw [HA.out.2.2]; omega
          go_wp2
          have hwi := HW.out
          go_roundw
          case rel => (try rw [hwi]); clear hwi; exact ⟨i + 1, by go_num, by omega, HX.out, by first | rfl | trivial⟩
          case measure => (try rw [hwi]); clear hwi; simp [intOf]; omega
      · have hb := bdr_not c n hn (by omega)
        have hix := mkL_ix c
        obtain ⟨z, hz⟩ : ∃ z, Lib.indexByte (⟨#[39, 40, 41, 43, 95, 44, 45, 46, 47, 58, 61, 63]⟩ : ByteArray).data.toList c = z := ⟨_, rfl⟩
        rw [hz, ← hb] at hix
        have hsi := Tryz.strings_IndexByte ⟨#[39, 40, 41, 43, 95, 44, 45, 46, 47, 58, 61, 63]⟩ (c.toNat : Int) wr
        rw [u8_back c c.toNat rfl, hz] at hsi
        have HSI := Lib.hid hsi
        clear hsi hz hb
        have hways : ∀ (P : Prop), ((97 : Int) ≤ (c.toNat : Int) → (122 : Int) < (c.toNat : Int) → decide ((c.toNat : Int) ≤ 122) = false → decide ((c.toNat : Int) ≤ 90) = false → decide ((c.toNat : Int) ≤ 57) = false → P) → ((c.toNat : Int) < 97 → (90 : Int) < (c.toNat : Int) → decide ((c.toNat : Int) ≤ 90) = false → decide ((c.toNat : Int) ≤ 57) = false → P) → ((c.toNat : Int) < 65 → (57 : Int) < (c.toNat : Int) → decide ((c.toNat : Int) ≤ 57) = false → P) → ((c.toNat : Int) < 48 → P) → P := fun P a b d e => by
          rw [hn] at a b d e
          rcases hl with h | h | h | h
          · exact a (by omega) (by omega) (decide_eq_false (by omega)) (decide_eq_false (by omega)) (decide_eq_false (by omega))
          · exact b (by omega) (by omega) (decide_eq_false (by omega)) (decide_eq_false (by omega))
          · exact d (by omega) (by omega) (decide_eq_false (by omega))
          · exact e (by omega)
        clear hl hn
        cases hbd : bdr c with
        | true =>
          have hzn : 0 ≤ z := by rw [hbd] at hix; have : ¬ z < 0 := fun h => by have := hix.1 h; cases this
                                 omega
          have hx := all_take bdr _ i c HA.out.2.1 HA.out.1 hbd
          have HX := Lib.hid hx
          clear hix hx hbd
          refine hways _ (fun j1 i1 j2 j3 j4 => ?_) (fun j1 i1 j2 j3 => ?_) (fun j1 i1 j2 => ?_) (fun j1 => ?_)
          all_goals
            clear hways
            go_wp2_with fail
            refine (HSI.out).mono ?_
            rintro e wr ⟨rfl, rfl⟩
            go_wp2
            have hwi := HW.out
            go_roundw
            case rel => (try rw [hwi]); clear hwi; exact ⟨i + 1, by go_num, by omega, HX.out, by first | rfl | trivial⟩
            case measure => (try rw [hwi]); clear hwi; simp [intOf]; omega
        | false =>
          have hzn : z < 0 := hix.2 hbd
          have hx := isMrk_bad _ i c HA.out.2.1 hbd
          have HX := Lib.hid hx
          clear hix hx hbd
          refine hways _ (fun j1 i1 j2 j3 j4 => ?_) (fun j1 i1 j2 j3 => ?_) (fun j1 i1 j2 => ?_) (fun j1 => ?_)
          all_goals
            clear hways
            go_wp2_with fail
            refine (HSI.out).mono ?_
            rintro e wr ⟨rfl, rfl⟩
            go_wp2
            go_ret
            exact ⟨ret_boolO HX.out.symm, rfl⟩
    · obtain rfl : i = s.size := by omega
      have hx := isMrk_all s hall
      have HX := Lib.hid hx
      clear hx hall
      go_wp2
      all_goals
        go_ret
        refine ⟨ret_boolO ?_, by first | rfl | trivial⟩
        rw [HX.out, Bool.eq_iff_iff]
        simp only [Bool.and_eq_true, decide_eq_true_eq, true_iff, iff_true, Bool.false_eq_true, false_iff, iff_false]
        omega
end Go.Proofs.YtlfdeenekjklgaaGreatDoor
namespace Go.Proofs.YtlfdeenekjklgaaGreatDoor
open Go.RowKit
set_option linter.unusedSimpArgs false
set_option linter.unusedVariables false
/-- A part: name, file, media, body, has a file. -/
structure Prt where
  name : List UInt8
  file : List UInt8
  media : List UInt8
  body : List UInt8
  has : Bool
def prtV (p : Prt) : List Value := [.string ⟨p.name.toArray⟩, .string ⟨p.file.toArray⟩, .string ⟨p.media.toArray⟩, .string ⟨p.body.toArray⟩, .bool p.has]
def prtsV (l : List Prt) : List Value := l.flatMap prtV
theorem prtsV_snoc (l : List Prt) (p : Prt) : prtsV (l ++ [p]) = prtsV l ++ prtV p := by simp [prtsV]
def Cells5 (g a : Nat) (p : Prt) (w : World) : Prop := w.cell? ⟨g, a, none⟩ = some (.string ⟨p.name.toArray⟩) ∧ w.cell? ⟨g, a + 1, none⟩ = some (.string ⟨p.file.toArray⟩) ∧ w.cell? ⟨g, a + 2, none⟩ = some (.string ⟨p.media.toArray⟩) ∧ w.cell? ⟨g, a + 3, none⟩ = some (.string ⟨p.body.toArray⟩) ∧ w.cell? ⟨g, a + 4, none⟩ = some (.bool p.has) ∧ g < w.heap.size
theorem Cells5.below {g a : Nat} {p : Prt} {w w' : World} (h : Cells5 g a p w) (hb : Below w.heap.size w w') : Cells5 g a p w' :=
  have lt := h.2.2.2.2.2
  ⟨by rw [hb.cell (p := ⟨g, a, none⟩) lt]; exact h.1, by rw [hb.cell (p := ⟨g, a + 1, none⟩) lt]; exact h.2.1, by rw [hb.cell (p := ⟨g, a + 2, none⟩) lt]; exact h.2.2.1, by rw [hb.cell (p := ⟨g, a + 3, none⟩) lt]; exact h.2.2.2.1, by rw [hb.cell (p := ⟨g, a + 4, none⟩) lt]; exact h.2.2.2.2.1, Nat.lt_of_lt_of_le lt hb.size⟩
theorem Cells5.grown {g a : Nat} {p : Prt} {w w' : World} {row : Option Nat} (h : Cells5 g a p w) (hg : w.grownBy w' row) (hne : some g ≠ row) : Cells5 g a p w' :=
  ⟨hg.cell h.1 hne, hg.cell h.2.1 hne, hg.cell h.2.2.1 hne, hg.cell h.2.2.2.1 hne, hg.cell h.2.2.2.2.1 hne, Nat.lt_of_lt_of_le h.2.2.2.2.2 hg.size⟩
theorem keep5 {w : World} {g a : Nat} {p : Prt} (h : Cells5 g a p w.drew) (o : Obj) : Cells5 g a p ((w.alloc o).drew) :=
  have lt : g < w.heap.size := h.2.2.2.2.2
  ⟨cell_keep (w := w) h.1 lt o, cell_keep (w := w) h.2.1 lt o, cell_keep (w := w) h.2.2.1 lt o, cell_keep (w := w) h.2.2.2.1 lt o, cell_keep (w := w) h.2.2.2.2.1 lt o, by show g < (w.alloc o).heap.size; simp; omega⟩
def PrtAt (w : World) (ao : Option Addr) (l : List Prt) : Prop := ∀ i p, l[i]? = some p → ∃ b o, ao = some ⟨b, o, none⟩ ∧ Cells5 b (o + i * 5) p w
def PrtsIn (w : World) (v : Value) (l : List Prt) : Prop := ∃ ao cap, v = .slice ao l.length cap ∧ PrtAt w ao l
theorem PrtAt.below {w w' : World} {ao : Option Addr} {l : List Prt} (h : PrtAt w ao l) (hb : Below w.heap.size w w') : PrtAt w' ao l := fun i p hp => by
  obtain ⟨b, o, e, hc⟩ := h i p hp
  exact ⟨b, o, e, hc.below hb⟩
theorem PrtsIn.below {w w' : World} {v : Value} {l : List Prt} (h : PrtsIn w v l) (hb : Below w.heap.size w w') : PrtsIn w' v l := by
  obtain ⟨ao, cap, rfl, h⟩ := h
  exact ⟨ao, cap, rfl, h.below hb⟩
theorem prtsV_get (l : List Prt) (i : Nat) (p : Prt) (h : l[i]? = some p) (k : Nat) (hk : k < 5) : (prtsV l)[i * 5 + k]? = (prtV p)[k]? := by
  induction l generalizing i with
  | nil => simp at h
  | cons q r ih =>
    have e : prtsV (q :: r) = prtV q ++ prtsV r := rfl
    have hl : (prtV q).length = 5 := rfl
    cases i with
    | zero =>
      obtain rfl : q = p := by simpa using h
      rw [e, List.getElem?_append_left (by omega)]
      simp
    | succ i =>
      rw [e, List.getElem?_append_right (by omega), hl, show (i + 1) * 5 + k - 5 = i * 5 + k from by omega]
      exact ih i (by simpa using h)
theorem prtsIn_own {w : World} {base : Nat} {T : TypeId} {v : Value} {l : List Prt} (h : w.ownsRow base T 5 v l.length (prtsV l)) : PrtsIn w v l := by
  rcases h.2 with ⟨rfl, h0⟩ | ⟨g, cap, cur, rfl, hb, hg, _⟩
  · obtain rfl := List.eq_nil_of_length_eq_zero h0
    exact ⟨none, 0, rfl, fun i p hp => by simp at hp⟩
  · have hlt : g < w.heap.size := (Array.getElem?_eq_some_iff.1 hg).1
    have hc := h.cells (g := g) rfl
    have e : ∀ j, (⟨g, 0, none⟩ : Addr).add j = ⟨g, j, none⟩ := fun j => by unfold Addr.add; split <;> simp_all
    have at_ : ∀ i p, l[i]? = some p → ∀ k u, k < 5 → (prtV p)[k]? = some u → w.cell? ⟨g, i * 5 + k, none⟩ = some u := fun i p hp k u hk hu => by
      have := hc (i * 5 + k) u (by rw [prtsV_get l i p hp k hk]; exact hu)
      rwa [e] at this
    refine ⟨_, cap, rfl, fun i p hp => ⟨g, 0, rfl, ?_⟩⟩
    rw [Nat.zero_add]
    exact ⟨at_ i p hp 0 _ (by omega) rfl, at_ i p hp 1 _ (by omega) rfl, at_ i p hp 2 _ (by omega) rfl, at_ i p hp 3 _ (by omega) rfl, at_ i p hp 4 _ (by omega) rfl, hlt⟩
/-- A text stands in one of a part's. -/
def std (t : List UInt8) (p : Prt) : Bool := Lib.contains p.body t || (Lib.contains p.name t || (Lib.contains p.file t || Lib.contains p.media t))
def stood (l : List Prt) (t : List UInt8) : Bool := l.any (std t)
def prtLen (p : Prt) : Nat := p.name.length + p.file.length + p.media.length + p.body.length
def totQ : List Prt → Nat
  | [] => 0
  | p :: r => prtLen p + totQ r
theorem totQ_append (a b : List Prt) : totQ (a ++ b) = totQ a + totQ b := by
  induction a with
  | nil => simp [totQ]
  | cons p r ih => simp only [List.cons_append, totQ, ih]; omega
theorem totQ_get (l : List Prt) (i : Nat) (p : Prt) (h : l[i]? = some p) : prtLen p ≤ totQ l := by
  induction l generalizing i with
  | nil => simp at h
  | cons q r ih =>
    cases i with
    | zero => obtain rfl : q = p := (by simpa using h); simp only [totQ]; omega
    | succ i => have := ih i (by simpa using h); simp only [totQ]; omega
theorem stood_no (l : List Prt) (t : List UInt8) (h : ∀ j p, j < l.length → l[j]? = some p → std t p = false) : stood l t = false := by
  unfold stood
  rw [List.any_eq_false]
  intro p hp
  obtain ⟨j, hj⟩ := List.getElem?_of_mem hp
  rw [h j p (List.getElem?_eq_some_iff.1 hj).1 hj]; simp
theorem stood_yes (l : List Prt) (t : List UInt8) (j : Nat) (p : Prt) (hj : l[j]? = some p) (h : std t p = true) : stood l t = true := by
  unfold stood
  rw [List.any_eq_true]
  exact ⟨p, List.mem_of_getElem? hj, h⟩
end Go.Proofs.YtlfdeenekjklgaaGreatDoor
namespace Go.Proofs.YtlfdeenekjklgaaGreatDoor
open Go.RowKit
set_option linter.unusedSimpArgs false
set_option linter.unusedVariables false
set_option maxRecDepth 1000000
def blank0 (l : List UInt8) : Bool := match l with | c :: _ => isBl c | [] => false
abbrev PlRes := List UInt8 × List UInt8 × Nat
def plK (l : List UInt8) (k : Nat) : PlRes :=
  if k = 0 ∨ 128 < k ∨ (l.take k).all isSg = false then ([], [], 60)
  else if isFld (l.drop (k + 1)) = false ∨ 8192 < (trimL (l.drop (k + 1))).length then ([], [], 61)
  else (l.take k, trimL (l.drop (k + 1)), 0)
/-- What a line of fields says: a name, a value, an error's number. -/
def plR (l : List UInt8) : PlRes :=
  if blank0 l then ([], [], 63) else if Lib.indexByte l 58 < 0 then ([], [], 62) else plK l (Lib.indexByte l 58).toNat
theorem plR_blank (l : List UInt8) (h : blank0 l = true) : plR l = ([], [], 63) := by unfold plR; rw [if_pos h]
theorem plR_colon (l : List UInt8) (h : blank0 l = false) (h2 : Lib.indexByte l 58 < 0) : plR l = ([], [], 62) := by unfold plR; rw [if_neg (by rw [h]; simp), if_pos h2]
theorem plR_at (l : List UInt8) (k : Nat) (h : blank0 l = false) (h2 : Lib.indexByte l 58 = (k : Int)) : plR l = plK l k := by
  unfold plR; rw [if_neg (by rw [h]; simp), if_neg (by rw [h2]; omega), h2]; rfl
theorem plK_none (l : List UInt8) : plK l 0 = ([], [], 60) := by unfold plK; rw [if_pos (Or.inl rfl)]
theorem plK_long (l : List UInt8) (k : Nat) (h : 128 < k) : plK l k = ([], [], 60) := by unfold plK; rw [if_pos (Or.inr (Or.inl h))]
theorem plK_sign (l : List UInt8) (k i : Nat) (c : UInt8) (hi : i < k) (hg : l[i]? = some c) (hc : isSg c = false) : plK l k = ([], [], 60) := by
  unfold plK
  rw [if_pos (Or.inr (Or.inr ?_))]
  exact all_not isSg _ i c (by rw [List.getElem?_take_of_lt hi]; exact hg) hc
theorem plK_field (l : List UInt8) (k m : Nat) (c : UInt8) (h0 : k ≠ 0) (h1 : k ≤ 128) (h2 : (l.take k).all isSg = true) (hm : k < m) (hg : l[m]? = some c) (hc : isFb c = false) : plK l k = ([], [], 61) := by
  unfold plK
  rw [if_neg (by rw [h2]; simp; omega), if_pos (Or.inl ?_)]
  exact all_not isFb _ (m - (k + 1)) c (by rw [List.getElem?_drop, show k + 1 + (m - (k + 1)) = m from by omega]; exact hg) hc
theorem fld_from (l : List UInt8) (k : Nat) (h : ∀ m c, k < m → l[m]? = some c → isFb c = true) : isFld (l.drop (k + 1)) = true := by
  unfold isFld
  rw [List.all_eq_true]
  intro c hc
  obtain ⟨j, hj⟩ := List.getElem?_of_mem hc
  rw [List.getElem?_drop] at hj
  exact h (k + 1 + j) c (by omega) hj
theorem plK_big (l : List UInt8) (k : Nat) (h0 : k ≠ 0) (h1 : k ≤ 128) (h2 : (l.take k).all isSg = true) (hb : 8192 < (trimL (l.drop (k + 1))).length) : plK l k = ([], [], 61) := by
  unfold plK
  rw [if_neg (by rw [h2]; simp; omega), if_pos (Or.inr hb)]
theorem plK_ok (l : List UInt8) (k : Nat) (h0 : k ≠ 0) (h1 : k ≤ 128) (h2 : (l.take k).all isSg = true) (h3 : isFld (l.drop (k + 1)) = true) (hb : (trimL (l.drop (k + 1))).length ≤ 8192) : plK l k = (l.take k, trimL (l.drop (k + 1)), 0) := by
  unfold plK
  rw [if_neg (by rw [h2]; simp; omega), if_neg (by rw [h3]; simp; omega)]
theorem blank0_cons (c : UInt8) (r : List UInt8) : blank0 (c :: r) = isBl c := rfl
theorem trim_sp (v : List UInt8) : trimL (32 :: v) = trimL v := by
  unfold trimL
  rw [List.dropWhile_cons_of_pos (by decide)]
/-- The texts that are printed. -/
def cdB : List UInt8 := [67, 111, 110, 116, 101, 110, 116, 45, 68, 105, 115, 112, 111, 115, 105, 116, 105, 111, 110, 58, 32]
def fdB : List UInt8 := [102, 111, 114, 109, 45, 100, 97, 116, 97, 59, 32, 110, 97, 109, 101, 61]
def fnB : List UInt8 := [59, 32, 102, 105, 108, 101, 110, 97, 109, 101, 61]
def ctB : List UInt8 := [67, 111, 110, 116, 101, 110, 116, 45, 84, 121, 112, 101, 58, 32]
def valL (p : Prt) : List UInt8 := fdB ++ qtL p.name ++ (if p.has then fnB ++ qtL p.file else [])
def lineL (p : Prt) : List UInt8 := cdB ++ valL p
def medL (p : Prt) : List UInt8 := if p.media = [] then [] else ctB ++ p.media ++ [13, 10]
def okQ (p : Prt) : Bool := isFld p.name && isFld p.file && isFld p.media && (trimL p.media == p.media) && (p.has || p.file.isEmpty)
def okL (p : Prt) : Bool := decide ((valL p).length ≤ 8192) && decide (p.media.length ≤ 8192)
def okP (p : Prt) : Bool := okQ p && okL p
def hdL (b : List UInt8) : List UInt8 := 45 :: 45 :: (b ++ [13, 10])
def partB (b : List UInt8) (p : Prt) : List UInt8 := hdL b ++ (lineL p ++ [13, 10]) ++ medL p ++ (13 :: 10 :: (p.body ++ [13, 10]))
def endL (b : List UInt8) : List UInt8 := 45 :: 45 :: (b ++ [45, 45, 13, 10])
def wrtR (b : List UInt8) (l : List Prt) : List UInt8 × Nat :=
  if (!isMrk b || stood l (45 :: 45 :: b)) = true then ([], 151) else if l = [] then ([], 153) else if l.all okP = true then (l.flatMap (partB b) ++ endL b, 0) else ([], 152)
theorem wrt_bad (b : List UInt8) (l : List Prt) (i : Nat) (p : Prt) (h1 : isMrk b = true) (h2 : stood l (45 :: 45 :: b) = false) (hi : l[i]? = some p) (hp : okP p = false) : wrtR b l = ([], 152) := by
  unfold wrtR
  rw [if_neg (by rw [h1, h2]; simp), if_neg (by rintro rfl; simp at hi), if_neg]
  intro h
  rw [List.all_eq_true] at h
  rw [h p (List.mem_of_getElem? hi)] at hp
  cases hp
theorem wrt_ok (b : List UInt8) (l : List Prt) (h1 : isMrk b = true) (h2 : stood l (45 :: 45 :: b) = false) (h0 : l ≠ []) (h : l.all okP = true) : wrtR b l = (l.flatMap (partB b) ++ endL b, 0) := by
  unfold wrtR
  rw [if_neg (by rw [h1, h2]; simp), if_neg h0, if_pos h]
theorem wrt_mark (b : List UInt8) (l : List Prt) (h1 : isMrk b = false ∨ stood l (45 :: 45 :: b) = true) : wrtR b l = ([], 151) := by
  unfold wrtR
  rw [if_pos (by rcases h1 with h | h <;> rw [h] <;> simp)]
theorem wrt_none (b : List UInt8) (h1 : isMrk b = true) (h2 : stood [] (45 :: 45 :: b) = false) : wrtR b [] = ([], 153) := by
  unfold wrtR
  rw [if_neg (by rw [h1, h2]; simp), if_pos rfl]
theorem isFld_append (a b : List UInt8) : isFld (a ++ b) = (isFld a && isFld b) := by unfold isFld; rw [List.all_append]
theorem isFld_esc (l : List UInt8) (h : isFld l = true) : isFld (escL l) = true := by
  unfold isFld escL at *
  rw [List.all_flatMap]
  rw [List.all_eq_true] at h ⊢
  intro c hc
  unfold esc
  split
  · rw [List.all_cons, List.all_cons, List.all_nil, h c hc]; rfl
  · rw [List.all_cons, List.all_nil, h c hc]; rfl
theorem isFld_qt (l : List UInt8) (h : isFld l = true) : isFld (qtL l) = true := by
  unfold qtL
  rw [show 34 :: (escL l ++ [34]) = [34] ++ (escL l ++ [34]) from rfl, isFld_append, isFld_append, isFld_esc l h]
  rfl
theorem okQ_parts {p : Prt} (h : okQ p = true) : isFld p.name = true ∧ isFld p.file = true ∧ isFld p.media = true ∧ trimL p.media = p.media := by
  unfold okQ at h
  simp only [Bool.and_eq_true, beq_iff_eq] at h
  exact ⟨h.1.1.1.1, h.1.1.1.2, h.1.1.2, h.1.2⟩
theorem isFld_val (p : Prt) (h : okQ p = true) : isFld (valL p) = true := by
  obtain ⟨h1, h2, _⟩ := okQ_parts h
  unfold valL
  rw [isFld_append, isFld_append, isFld_qt _ h1]
  split
  · rw [isFld_append, isFld_qt _ h2]; decide
  · decide
theorem valL_last (p : Prt) : ∃ x, valL p = x ++ [34] := by
  unfold valL qtL
  cases p.has with
  | true => exact ⟨fdB ++ (34 :: (escL p.name ++ [34])) ++ (fnB ++ (34 :: escL p.file)), by simp⟩
  | false => exact ⟨fdB ++ (34 :: escL p.name), by simp⟩
theorem trim_val (p : Prt) : trimL (valL p) = valL p := by
  rw [trimL_eq]
  obtain ⟨x, hx⟩ := valL_last p
  have e : valL p = 102 :: (valL p).tail := by unfold valL; rfl
  rw [e, List.dropWhile_cons_of_neg (by decide), ← e, hx, trimR_snoc_other _ _ (by decide)]
theorem ix_cd (v : List UInt8) : Lib.indexByte (cdB ++ v) 58 = 19 := by
  unfold cdB
  simp [Lib.indexByte]
theorem ix_ct (v : List UInt8) : Lib.indexByte (ctB ++ v) 58 = 12 := by
  unfold ctB
  simp [Lib.indexByte]
theorem line_ok (p : Prt) (h : okQ p = true) : (plR (lineL p)).2.2 = if (valL p).length ≤ 8192 then 0 else 61 := by
  rw [plR_at (lineL p) 19 rfl (ix_cd _)]
  have h2 : ((lineL p).take 19).all isSg = true := by unfold lineL cdB; exact (by decide : (([67, 111, 110, 116, 101, 110, 116, 45, 68, 105, 115, 112, 111, 115, 105, 116, 105, 111, 110] : List UInt8).all isSg = true))
  have h3 : (lineL p).drop 20 = 32 :: valL p := rfl
  by_cases hl : (valL p).length ≤ 8192
  · rw [if_pos hl, plK_ok _ _ (by decide) (by decide) h2 (by rw [h3]; exact (by rw [show isFld (32 :: valL p) = (isFb 32 && isFld (valL p)) from rfl, isFld_val p h]; rfl)) (by rw [h3, trim_sp, trim_val]; exact hl)]
  · rw [if_neg hl, plK_big _ _ (by decide) (by decide) h2 (by rw [h3, trim_sp, trim_val]; omega)]
theorem med_ok (p : Prt) (h : okQ p = true) : (plR (ctB ++ p.media)).2.2 = if p.media.length ≤ 8192 then 0 else 61 := by
  rw [plR_at (ctB ++ p.media) 12 rfl (ix_ct _)]
  obtain ⟨_, _, h4, h5⟩ := okQ_parts h
  have h2 : ((ctB ++ p.media).take 12).all isSg = true := by unfold ctB; exact (by decide : (([67, 111, 110, 116, 101, 110, 116, 45, 84, 121, 112, 101] : List UInt8).all isSg = true))
  have h3 : (ctB ++ p.media).drop 13 = 32 :: p.media := rfl
  by_cases hl : p.media.length ≤ 8192
  · rw [if_pos hl, plK_ok _ _ (by decide) (by decide) h2 (by rw [h3]; exact (by rw [show isFld (32 :: p.media) = (isFb 32 && isFld p.media) from rfl, h4]; rfl)) (by rw [h3, trim_sp, h5]; exact hl)]
  · rw [if_neg hl, plK_big _ _ (by decide) (by decide) h2 (by rw [h3, trim_sp, h5]; omega)]
theorem partB_take (b : List UInt8) (l : List Prt) (i : Nat) (p : Prt) (h : l[i]? = some p) : (l.take (i + 1)).flatMap (partB b) = (l.take i).flatMap (partB b) ++ partB b p := by
  rw [List.take_add_one, h, Option.toList_some, List.flatMap_append]; simp
theorem valL_len (p : Prt) : (valL p).length ≤ 2 * p.name.length + 2 * p.file.length + 31 := by
  unfold valL
  have h1 := qtL_len p.name
  have h2 := qtL_len p.file
  rw [List.length_append, List.length_append]
  have h3 : fdB.length = 16 := rfl
  split
  · rw [List.length_append]
    have h4 : fnB.length = 11 := rfl
    omega
  · rw [List.length_nil]; omega
theorem medL_len (p : Prt) : (medL p).length ≤ p.media.length + 16 := by
  unfold medL
  split
  · rw [List.length_nil]; omega
  · rw [List.length_append, List.length_append]
    have h4 : ctB.length = 14 := rfl
    simp only [List.length_cons, List.length_nil]; omega
theorem partB_len (b : List UInt8) (p : Prt) : (partB b p).length ≤ 2 * prtLen p + b.length + 128 := by
  unfold partB lineL hdL
  have h1 := valL_len p
  have h2 := medL_len p
  have h3 : cdB.length = 21 := rfl
  simp only [List.length_append, List.length_cons, List.length_nil, h3]
  unfold prtLen
  omega
theorem acc_len (b : List UInt8) (l : List Prt) (i : Nat) : ((l.take i).flatMap (partB b)).length ≤ 2 * totQ l + l.length * (b.length + 128) := by
  induction l generalizing i with
  | nil => simp
  | cons p r ih =>
    cases i with
    | zero => simp
    | succ i =>
      have h1 := ih i
      have h2 := partB_len b p
      rw [List.take_succ_cons, List.flatMap_cons, List.length_append]
      simp only [totQ, List.length_cons]
      rw [Nat.add_mul, Nat.one_mul]
      omega
end Go.Proofs.YtlfdeenekjklgaaGreatDoor
namespace Go.Proofs.YtlfdeenekjklgaaGreatDoor
open Go.RowKit
set_option linter.unusedSimpArgs false
set_option linter.unusedVariables false
/-- What Params answers: the parameters, the bytes, the fault. -/
def parR (l : List UInt8) : List Par × Nat × Nat := match parP l with
  | some (ps, k) => (ps, k, 0)
  | none => ([], 0, 15)
def ParR (L : List UInt8) (e : Nat) (done : List Par) : Prop := e ≤ L.length ∧ done.length ≤ e ∧ (parP (L.drop e)).map (fun x => (done ++ x.1, e + x.2)) = parP L
theorem ParR.start (L : List UInt8) : ParR L 0 [] := by
  refine ⟨Nat.zero_le _, Nat.le_refl _, ?_⟩
  rw [List.drop_zero]
  cases parP L with
  | none => rfl
  | some x => simp
theorem ParR.stop {L : List UInt8} {e : Nat} {done : List Par} (h : ParR L e done) (hs : parStep (L.drop e) = none) : parR L = (done, e, 0) := by
  have := h.2.2
  rw [parP_stop _ hs] at this
  unfold parR
  rw [← this]
  simp
theorem ParR.fault {L : List UInt8} {e : Nat} {done : List Par} (h : ParR L e done) (hs : parStep (L.drop e) = some none) : parR L = ([], 0, 15) := by
  have := h.2.2
  rw [parP_fault _ hs] at this
  unfold parR
  rw [← this]
  rfl
theorem ParR.step {L : List UInt8} {e : Nat} {done : List Par} {q : Option Par} {k : Nat} (h : ParR L e done) (hs : parStep (L.drop e) = some (some (q, k))) : ParR L (e + k) (done ++ q.toList) := by
  have hu := parStep_used _ q k hs
  rw [List.length_drop] at hu
  refine ⟨by have := h.1; omega, ?_, ?_⟩
  · rw [List.length_append]
    have := h.2.1
    cases q <;> simp <;> omega
  · rw [← h.2.2, parP_step _ q k hs, List.drop_drop]
    cases parP (L.drop (e + k)) with
    | none => rfl
    | some x => simp; omega
theorem step_none (L : List UInt8) (e a : Nat) (ha : e + runL isBl (L.drop e) = a) (h : L[a]? ≠ some 59) : parStep (L.drop e) = none := by
  unfold parStep
  rw [if_neg]
  rw [List.getElem?_drop, ha]; exact h
theorem step_blank (L : List UInt8) (e a e1 b at2 : Nat) (ha : e + runL isBl (L.drop e) = a) (h : L[a]? = some 59) (he1 : a + 1 = e1) (hb : runL isBl (L.drop e1) = b) (hat : e1 + b = at2) (hn : runL isSg (L.drop at2) = 0) :
    ∃ k, parStep (L.drop e) = some (some (none, k)) ∧ e + k = e1 := by
  refine ⟨runL isBl (L.drop e) + 1, ?_, by omega⟩
  unfold parStep
  rw [if_pos (by rw [List.getElem?_drop, ha]; exact h)]
  simp only [List.drop_drop]
  rw [show e + (runL isBl (L.drop e) + 1) = e1 from by omega, hb, hat, hn, if_pos rfl]
theorem step_bare (L : List UInt8) (e a e1 b at2 n e2 : Nat) (ha : e + runL isBl (L.drop e) = a) (h : L[a]? = some 59) (he1 : a + 1 = e1) (hb : runL isBl (L.drop e1) = b) (hat : e1 + b = at2) (hn : runL isSg (L.drop at2) = n) (h0 : n ≠ 0) (he2 : at2 + n = e2) (hq : L[e2]? ≠ some 61) :
    ∃ k, parStep (L.drop e) = some (some (some ((L.drop at2).take n, [], false), k)) ∧ e + k = e2 := by
  refine ⟨runL isBl (L.drop e) + 1 + (b + n), ?_, by omega⟩
  unfold parStep
  rw [if_pos (by rw [List.getElem?_drop, ha]; exact h)]
  simp only [List.drop_drop]
  rw [show e + (runL isBl (L.drop e) + 1) = e1 from by omega, hb, hat, hn, if_neg h0, if_neg]
  rw [List.getElem?_drop, show e1 + (b + n) + 0 = e2 from by omega]; exact hq
theorem step_value (L : List UInt8) (e a e1 b at2 n e2 e3 : Nat) (ha : e + runL isBl (L.drop e) = a) (h : L[a]? = some 59) (he1 : a + 1 = e1) (hb : runL isBl (L.drop e1) = b) (hat : e1 + b = at2) (hn : runL isSg (L.drop at2) = n) (h0 : n ≠ 0) (he2 : at2 + n = e2) (hq : L[e2]? = some 61) (he3 : e2 + 1 = e3) (v : List UInt8) (k : Nat) (hv : valP (L.drop e3) = some (v, k)) :
    ∃ j, parStep (L.drop e) = some (some (some ((L.drop at2).take n, v, true), j)) ∧ e + j = e3 + k := by
  refine ⟨runL isBl (L.drop e) + 1 + (b + n + 1) + k, ?_, by omega⟩
  unfold parStep
  rw [if_pos (by rw [List.getElem?_drop, ha]; exact h)]
  simp only [List.drop_drop]
  rw [show e + (runL isBl (L.drop e) + 1) = e1 from by omega, hb, hat, hn, if_neg h0, if_pos (by rw [List.getElem?_drop, show e1 + (b + n) + 0 = e2 from by omega]; exact hq)]
  rw [show e1 + (b + n + 1) = e3 from by omega, hv]
theorem step_fault (L : List UInt8) (e a e1 b at2 n e2 e3 : Nat) (ha : e + runL isBl (L.drop e) = a) (h : L[a]? = some 59) (he1 : a + 1 = e1) (hb : runL isBl (L.drop e1) = b) (hat : e1 + b = at2) (hn : runL isSg (L.drop at2) = n) (h0 : n ≠ 0) (he2 : at2 + n = e2) (hq : L[e2]? = some 61) (he3 : e2 + 1 = e3) (hv : valP (L.drop e3) = none) :
    parStep (L.drop e) = some none := by
  unfold parStep
  rw [if_pos (by rw [List.getElem?_drop, ha]; exact h)]
  simp only [List.drop_drop]
  rw [show e + (runL isBl (L.drop e) + 1) = e1 from by omega, hb, hat, hn, if_neg h0, if_pos (by rw [List.getElem?_drop, show e1 + (b + n) + 0 = e2 from by omega]; exact hq)]
  rw [show e1 + (b + n + 1) = e3 from by omega, hv]
end Go.Proofs.YtlfdeenekjklgaaGreatDoor
