/- HdP, HdN, HdV, HdQ: texts of the seat, one behind the other (a claim holds at most sixty). Conditions: each theorem names its own. -/
import Derived.Test.YtdlpbpikhmciaaaGreatDoorPk01
import Derived.Laws.RangeAny
import Derived.Test.YtdlpbpikhmciaaaGreatDoorPk03
namespace Go.Proofs.YtdlpbpikhmciaaaGreatDoor
open Go.RowKit
set_option linter.unusedSimpArgs false
set_option linter.unusedVariables false
def isLt (c : UInt8) : Bool := (65 ≤ c.toNat && c.toNat ≤ 90) || (97 ≤ c.toNat && c.toNat ≤ 122)
def isDg (c : UInt8) : Bool := 48 ≤ c.toNat && c.toNat ≤ 57
def nmC (i : Nat) (c : UInt8) : Bool := isLt c || (decide (0 < i) && (isDg c || c.toNat == 95))
def okN : Nat → List UInt8 → Bool
  | _, [] => true
  | i, c :: r => nmC i c && okN (i + 1) r
/-- A parameter's name. -/
def isNm (l : List UInt8) : Bool := !l.isEmpty && okN 0 l
/-- The raw value of the first parameter of a name. -/
def valL : List Par → List UInt8 → List UInt8
  | [], _ => []
  | p :: r, n => if p.1 = n then p.2.1 else valL r n
/-- What a reference says from a place on; some n: within braces, behind n. -/
def rf (ps : List Par) : Option (List UInt8) → List UInt8 → Option (List UInt8)
  | none, [] => some []
  | some _, [] => none
  | none, c :: r => if c.toNat = 125 then none else if c.toNat = 123 then rf ps (some []) r else (rf ps none r).map (c :: ·)
  | some n, c :: r => if c.toNat = 125 then (if isNm n then (rf ps none r).map (valL ps n ++ ·) else none) else if c.toNat = 123 then none else rf ps (some (n ++ [c])) r
def refR (ps : List Par) (l : List UInt8) : Option (List UInt8) := if l.isEmpty || !isFld l || !(trimL l == l) then none else rf ps none l
theorem okN_high (i : Nat) (c : UInt8) (r : List UInt8) (h : 128 ≤ c.toNat) : okN i (c :: r) = false := by
  have h1 : nmC i c = false := by
    unfold nmC isLt isDg
    simp only [Bool.or_eq_false_iff, Bool.and_eq_false_iff, decide_eq_false_iff_not, beq_eq_false_iff_ne]
    exact ⟨⟨.inr (by omega), .inr (by omega)⟩, .inr ⟨.inr (by omega), by omega⟩⟩
  show (nmC i c && okN (i + 1) r) = false
  rw [h1]; rfl
theorem okN_bad (i : Nat) (c : UInt8) (r : List UInt8) (h : nmC i c = false) : okN i (c :: r) = false := by
  show (nmC i c && okN (i + 1) r) = false
  rw [h]; rfl
theorem okN_good (i : Nat) (c : UInt8) (r : List UInt8) (h : nmC i c = true) : okN i (c :: r) = okN (i + 1) r := by
  show (nmC i c && okN (i + 1) r) = _
  rw [h]; rfl
theorem okN_app (c : UInt8) (r : List UInt8) : ∀ (l : List UInt8) (i : Nat), okN i (l ++ c :: r) = true → nmC (i + l.length) c = true
  | [], i, h => by
    have : (nmC i c && okN (i + 1) r) = true := h
    simp only [Bool.and_eq_true] at this
    exact this.1
  | d :: t, i, h => by
    have : (nmC i d && okN (i + 1) (t ++ c :: r)) = true := h
    simp only [Bool.and_eq_true] at this
    have h2 := okN_app c r t (i + 1) this.2
    rw [List.length_cons, show i + (t.length + 1) = i + 1 + t.length by omega]
    exact h2
/-- A brace is in no name. -/
theorem isNm_brace (l : List UInt8) (h : ∃ c ∈ l, c.toNat = 123) : isNm l = false := by
  obtain ⟨c, hc, he⟩ := h
  obtain ⟨a, b, rfl⟩ := List.append_of_mem hc
  cases hx : okN 0 (a ++ c :: b) with
  | false => unfold isNm; rw [hx, Bool.and_false]
  | true =>
    exfalso
    have := okN_app c b a 0 hx
    unfold nmC isLt isDg at this
    simp only [Bool.or_eq_true, Bool.and_eq_true, decide_eq_true_eq, beq_iff_eq] at this
    omega
/-- Steps over what is no brace. -/
theorem rf_none (ps : List Par) (c : UInt8) (r : List UInt8) (h1 : c.toNat ≠ 125) (h2 : c.toNat ≠ 123) : rf ps none (c :: r) = (rf ps none r).map (c :: ·) := by
  rw [rf.eq_def]; simp only [if_neg h1, if_neg h2]
theorem rf_some (ps : List Par) (n : List UInt8) (c : UInt8) (r : List UInt8) (h1 : c.toNat ≠ 125) (h2 : c.toNat ≠ 123) : rf ps (some n) (c :: r) = rf ps (some (n ++ [c])) r := by
  rw [rf.eq_def]; simp only [if_neg h1, if_neg h2]
theorem rf_open (ps : List Par) (c : UInt8) (r : List UInt8) (h : c.toNat = 123) : rf ps none (c :: r) = rf ps (some []) r := by
  rw [rf.eq_def]; simp only [h, if_true]; rfl
theorem rf_stray (ps : List Par) (c : UInt8) (r : List UInt8) (h : c.toNat = 125) : rf ps none (c :: r) = none := by
  rw [rf.eq_def]; simp only [h, if_true]
theorem rf_twice (ps : List Par) (n : List UInt8) (c : UInt8) (r : List UInt8) (h : c.toNat = 123) : rf ps (some n) (c :: r) = none := by
  rw [rf.eq_def]; simp only [h, if_true]; rfl
theorem rf_shut (ps : List Par) (n : List UInt8) (c : UInt8) (r : List UInt8) (h : c.toNat = 125) (hn : isNm n = true) : rf ps (some n) (c :: r) = (rf ps none r).map (valL ps n ++ ·) := by
  rw [rf.eq_def]; simp only [h, if_true, hn]
theorem rf_badname (ps : List Par) (n : List UInt8) (c : UInt8) (r : List UInt8) (h : c.toNat = 125) (hn : isNm n = false) : rf ps (some n) (c :: r) = none := by
  rw [rf.eq_def]; simp only [h, if_true, hn]; rfl
theorem rf_none_skip (ps : List Par) : ∀ (a r : List UInt8), (∀ c ∈ a, 128 ≤ c.toNat) → rf ps none (a ++ r) = (rf ps none r).map (a ++ ·)
  | [], r, _ => by simp
  | c :: a, r, h => by
    have hc := h c (by simp)
    rw [List.cons_append, rf_none ps c _ (by omega) (by omega), rf_none_skip ps a r (fun d hd => h d (by simp [hd])), Option.map_map]
    rfl
theorem rf_some_skip (ps : List Par) : ∀ (a r n : List UInt8), (∀ c ∈ a, 128 ≤ c.toNat) → rf ps (some n) (a ++ r) = rf ps (some (n ++ a)) r
  | [], r, n, _ => by simp
  | c :: a, r, n, h => by
    have hc := h c (by simp)
    rw [List.cons_append, rf_some ps n c _ (by omega) (by omega), rf_some_skip ps a r (n ++ [c]) (fun d hd => h d (by simp [hd])), List.append_assoc]
    rfl
theorem rf_some_none (ps : List Par) : ∀ (l n : List UInt8), (∀ c ∈ l, c.toNat ≠ 125) → rf ps (some n) l = none
  | [], n, _ => rfl
  | c :: r, n, h => by
    have hc := h c (by simp)
    by_cases h2 : c.toNat = 123
    · exact rf_twice ps n c r h2
    · rw [rf_some ps n c r hc h2]
      exact rf_some_none ps r _ (fun d hd => h d (by simp [hd]))
/-- Up to the first closing brace, whatever stands before it: the document's way. -/
theorem rf_some_to (ps : List Par) : ∀ (a : List UInt8) (n : List UInt8) (c : UInt8) (r : List UInt8), (∀ d ∈ a, d.toNat ≠ 125) → c.toNat = 125 →
    rf ps (some n) (a ++ c :: r) = if isNm (n ++ a) then (rf ps none r).map (valL ps (n ++ a) ++ ·) else none
  | [], n, c, r, _, hc => by
    rw [List.append_nil, List.nil_append]
    cases hn : isNm n with
    | true => rw [rf_shut ps n c r hc hn]; rfl
    | false => rw [rf_badname ps n c r hc hn]; rfl
  | d :: a, n, c, r, h, hc => by
    have hd := h d (by simp)
    by_cases h2 : d.toNat = 123
    · rw [List.cons_append, rf_twice ps n d _ h2, isNm_brace (n ++ d :: a) ⟨d, by simp, h2⟩]; rfl
    · rw [List.cons_append, rf_some ps n d _ hd h2, rf_some_to ps a (n ++ [d]) c r (fun x hx => h x (by simp [hx])) hc, List.append_assoc]; rfl
set_option maxRecDepth 100000 in
set_option maxHeartbeats 2000000 in
theorem decode_wide (s : ByteArray) (pos : Nat) (h : pos < s.size) (ha : 128 ≤ (s[pos]'h).toNat) :
    1 ≤ (Utf8.decode s pos).2 ∧ pos + (Utf8.decode s pos).2 ≤ s.size ∧ ∀ k, k < (Utf8.decode s pos).2 → 128 ≤ (s.get! (pos + k)).toNat := by
  have hn : ¬ (s[pos]'h).toNat < 128 := by omega
  have h0 : 128 ≤ (s.get! (pos + 0)).toNat := by rw [get_at s pos h]; exact ha
  refine ⟨(decode_high s pos h ha).2, ?_⟩
  simp only [Utf8.decode, get_at s pos h, hn, if_false]
  repeat' split
  all_goals simp only [Bool.and_eq_true, decide_eq_true_eq, beq_iff_eq] at *
  all_goals refine ⟨by omega, fun k hk => ?_⟩
  all_goals (rcases k with _ | _ | _ | _ | k)
  all_goals first | (rw [Nat.add_zero]; exact h0) | omega | (simp only [Nat.zero_add, Nat.reduceAdd]; omega)
/-- A rune beyond ASCII: what a range steps over. -/
theorem rune_high (s : ByteArray) (pos : Nat) (h : pos < s.size) (ha : 128 ≤ (s[pos]'h).toNat) :
    ∃ a, s.data.toList.drop pos = a ++ s.data.toList.drop (pos + (Utf8.decode s pos).2) ∧ (∀ c ∈ a, 128 ≤ c.toNat) ∧ a.length = (Utf8.decode s pos).2 ∧ pos + (Utf8.decode s pos).2 ≤ s.size ∧ 1 ≤ (Utf8.decode s pos).2 ∧ 128 ≤ (Utf8.decode s pos).1 ∧ a = (s.data.toList.drop pos).take (Utf8.decode s pos).2 := by
  obtain ⟨h1, h2, h3⟩ := decode_wide s pos h ha
  have h4 := (decode_high s pos h ha).1
  generalize (Utf8.decode s pos).2 = n at h1 h2 h3 ⊢
  refine ⟨(s.data.toList.drop pos).take n, ?_, ?_, ?_, h2, h1, h4, rfl⟩
  · rw [← List.drop_drop, List.take_append_drop]
  · intro c hc
    obtain ⟨k, hk, he⟩ := List.mem_iff_getElem.1 hc
    rw [List.length_take, List.length_drop, size_list] at hk
    have hk' : k < n := by omega
    have hx := h3 k hk'
    rw [List.getElem_take, List.getElem_drop] at he
    have : s.get! (pos + k) = c := by
      rw [← he]
      have hp : pos + k < s.size := by omega
      have hp2 := get_at s (pos + k) hp
      rw [Nat.add_zero] at hp2
      rw [hp2]; rfl
    rw [← this]; exact hx
  · rw [List.length_take, List.length_drop, size_list]; omega
end Go.Proofs.YtdlpbpikhmciaaaGreatDoor
namespace Go.Proofs.YtdlpbpikhmciaaaGreatDoor
open Go.RowKit
set_option linter.unusedSimpArgs false
set_option linter.unusedVariables false
set_option maxRecDepth 1000000
theorem nmC_yes (i : Nat) (c : UInt8) (a : Nat) (h : c.toNat = a) (hx : ((97 ≤ a ∧ a ≤ 122) ∨ (65 ≤ a ∧ a ≤ 90)) ∨ (0 < i ∧ ((48 ≤ a ∧ a ≤ 57) ∨ a = 95))) : nmC i c = true := by
  subst h
  unfold nmC isLt isDg
  simp only [Bool.or_eq_true, Bool.and_eq_true, decide_eq_true_eq, beq_iff_eq]
  omega
theorem nmC_no (i : Nat) (c : UInt8) (a : Nat) (h : c.toNat = a) (hx : ¬ (((97 ≤ a ∧ a ≤ 122) ∨ (65 ≤ a ∧ a ≤ 90)) ∨ (0 < i ∧ ((48 ≤ a ∧ a ≤ 57) ∨ a = 95)))) : nmC i c = false := by
  cases hn : nmC i c with
  | false => rfl
  | true =>
    exfalso
    subst h
    unfold nmC isLt isDg at hn
    simp only [Bool.or_eq_true, Bool.and_eq_true, decide_eq_true_eq, beq_iff_eq] at hn
    omega
theorem isNm_of (l : List UInt8) (b : Bool) (h : okN 0 l = b) : isNm l = (!l.isEmpty && b) := by unfold isNm; rw [h]
theorem isNm_off (s : ByteArray) (pos : Nat) (h : pos < s.size) (hk : okN pos (s.data.toList.drop pos) = okN 0 s.data.toList) (hb : nmC pos (s[pos]'h) = false) : isNm s.data.toList = false := by
  rw [drop_get s pos h, okN_bad _ _ _ hb] at hk
  rw [isNm_of _ _ hk.symm, Bool.and_false]
theorem okN_next (s : ByteArray) (pos : Nat) (h : pos < s.size) (hk : okN pos (s.data.toList.drop pos) = okN 0 s.data.toList) (hb : nmC pos (s[pos]'h) = true) : okN (pos + 1) (s.data.toList.drop (pos + 1)) = okN 0 s.data.toList := by
  rw [drop_get s pos h, okN_good _ _ _ hb] at hk
  exact hk
theorem isNm_done (s : ByteArray) (hk : okN s.size (s.data.toList.drop s.size) = okN 0 s.data.toList) : isNm s.data.toList = !s.data.toList.isEmpty := by
  rw [List.drop_of_length_le (by rw [size_list]; exact Nat.le_refl _)] at hk
  rw [isNm_of _ _ hk.symm]
  simp [okN]
set_option maxHeartbeats 4000000 in
theorem oisname_any (s : ByteArray) (w : World) (hs : s.size ≤ 1099511627776) :
    Calls Tryz.prog 33 #[.string s] w fun e w' => e = .returned (.bool (isNm s.data.toList)) ∧ Below w.heap.size w w' := by
  have hbi : ∀ pos, Below w.heap.size w (w.iter s pos) := fun pos => (Below.refl _ w).alloc (Nat.le_refl _) _
  have HBI := Lib.hid hbi; clear hbi
  go_enter Tryz.func33, Tryz.ntmps33
  go_wp2
  go_loopw [] (fun wr => ∃ pos : Nat, wr = w.iter s pos ∧ pos ≤ s.size ∧ okN pos (s.data.toList.drop pos) = okN 0 s.data.toList) (fun wr => s.size - wr.iterPos w.heap.size)
  case atStart => exact ⟨0, rfl, Nat.zero_le _, rfl⟩
  case round =>
    obtain ⟨pos, rfl, hpos, hk⟩ := hrel
    by_cases hp : pos < s.size
    · obtain ⟨a, ea⟩ : ∃ a, (s[pos]'hp).toNat = a := ⟨_, rfl⟩
      have hoff := isNm_off s pos hp hk
      have hnxt := okN_next s pos hp hk
      have HK := Lib.hid (And.intro hoff hnxt)
      clear hoff hnxt hk
      by_cases hlow : a < 128
      · have hnx : ∀ ty, (Instr.next (.pointer (some ⟨w.heap.size, 0, none⟩)) true ty).run Tryz.prog (w.iter s pos) = .ok (.tuple #[.bool true, .int .i64 pos, .int .i32 a]) (w.iter s (pos + 1)) := fun ty => by
          rw [run_next_ascii w s pos ty hp (by omega), ea]
        have HEA := Lib.hid ea
        clear ea
        by_cases hg : ((97 ≤ a ∧ a ≤ 122) ∨ (65 ≤ a ∧ a ≤ 90)) ∨ (0 < pos ∧ ((48 ≤ a ∧ a ≤ 57) ∨ a = 95))
        · have HX := Lib.hid (HK.out.2 (nmC_yes _ _ a HEA.out hg))
          clear HK HEA
          have q0 : (0 : Int) ≤ (pos : Int) := Int.natCast_nonneg _
          rcases hg with (⟨g1, g2⟩ | ⟨g1, g2⟩) | ⟨g0, ⟨g1, g2⟩ | g1⟩
          case' inr.inr => subst g1
          all_goals (try have g0' : ((pos : Int) == 0) = false := by simp; omega)
          all_goals
            go_wp2
            go_roundw
            case rel => exact ⟨pos + 1, rfl, hp, HX.out⟩
            case measure => simp [World.iterPos_iter]; omega
        · have HX := Lib.hid (HK.out.1 (nmC_no _ _ a HEA.out hg))
          clear HK HEA
          have hg2 : (a < 48 ∨ (58 ≤ a ∧ a ≤ 64) ∨ (91 ≤ a ∧ a ≤ 94) ∨ a = 96 ∨ 123 ≤ a) ∨ (pos = 0 ∧ ((48 ≤ a ∧ a ≤ 57) ∨ a = 95)) := by omega
          clear hg
          rcases hg2 with (g1 | ⟨g1, g2⟩ | ⟨g1, g2⟩ | g1 | g1) | ⟨g0, ⟨g1, g2⟩ | g1⟩
          all_goals (try subst g0)
          all_goals (try subst g1)
          all_goals
            go_wp2
            all_goals first
              | (go_ret
                 exact ⟨ret_boolO HX.out.symm, HBI.out _⟩)
              | (exfalso
                 (try simp only [Bool.not_eq_true', Bool.not_eq_false', decide_eq_false_iff_not, Bool.and_eq_true, Bool.or_eq_true, decide_eq_true_eq, bne_iff_ne, beq_iff_eq] at *)
                 omega)
      · obtain ⟨r, hr⟩ : ∃ r, (Utf8.decode s pos).1 = r := ⟨_, rfl⟩
        obtain ⟨n, hn⟩ : ∃ n, (Utf8.decode s pos).2 = n := ⟨_, rfl⟩
        have hr1 : 128 ≤ r := by rw [← hr]; exact (decode_high s pos hp (by omega)).1
        have hnx : ∀ ty, (Instr.next (.pointer (some ⟨w.heap.size, 0, none⟩)) true ty).run Tryz.prog (w.iter s pos) = .ok (.tuple #[.bool true, .int .i64 pos, .int .i32 r]) (w.iter s (pos + n)) := fun ty => by
          rw [run_next_any w s pos ty hp, hr, hn]
        have HX := Lib.hid (HK.out.1 (nmC_no _ _ a ea (by omega)))
        have i1 : (97 : Int) ≤ (r : Int) := by omega
        have i2 : ¬ (r : Int) ≤ 122 := by omega
        have i3 : (65 : Int) ≤ (r : Int) := by omega
        have i4 : ¬ (r : Int) ≤ 90 := by omega
        have i5 : (48 : Int) ≤ (r : Int) := by omega
        have i6 : ¬ (r : Int) ≤ 57 := by omega
        have i7 : ((r : Int) == 95) = false := by simp; omega
        clear ea hr hn hr1 hlow
        go_wp2
        all_goals
          go_ret
          exact ⟨ret_boolO HX.out.symm, HBI.out _⟩
    · obtain rfl : pos = s.size := by omega
      have HX := Lib.hid (isNm_done s hk)
      have hnx : ∀ ty, (Instr.next (.pointer (some ⟨w.heap.size, 0, none⟩)) true ty).run Tryz.prog (w.iter s s.size) = .ok (.tuple #[.bool false]) (w.iter s s.size) := fun ty => run_next_end w s s.size ty (Nat.lt_irrefl _)
      clear hk
      go_wp2
      go_ret
      refine ⟨ret_boolO ?_, HBI.out _⟩
      rw [HX.out, ← ByteArray.toList_eq]
end Go.Proofs.YtdlpbpikhmciaaaGreatDoor
namespace Go.Proofs.YtdlpbpikhmciaaaGreatDoor
open Go.RowKit
set_option linter.unusedSimpArgs false
set_option linter.unusedVariables false
set_option maxRecDepth 1000000
theorem small30h (i n : Nat) (h : i ≤ n) (hn : n ≤ 1073741824) : i ≤ 2199023255552 := by omega
theorem valL_drop (l : List Par) (n : List UInt8) (i : Nat) (p : Par) (h : l[i]? = some p) : valL (l.drop i) n = if p.1 = n then p.2.1 else valL (l.drop (i + 1)) n := by
  have hlt := (List.getElem?_eq_some_iff.1 h).1
  have he := (List.getElem?_eq_some_iff.1 h).2
  rw [List.drop_eq_getElem_cons hlt, he]
  rfl
set_option maxHeartbeats 4000000 in
theorem oparam_any (v : Value) (l : List Par) (n : List UInt8) (w : World) (hN : l.length ≤ 1073741824) (h : ParsIn w v l) :
    Calls Tryz.prog 34 #[v, .string ⟨n.toArray⟩] w fun e w' => e = .returned (.string ⟨(valL l n).toArray⟩) ∧ Below w.heap.size w w' := by
  obtain ⟨ao, cap, rfl, hat⟩ := h
  have HAT := Lib.hid hat
  clear hat
  go_enter Tryz.func34, Tryz.ntmps34
  go_wp2
  go_loopw [9] (fun iv wr => ∃ i : Nat, iv = .int .i64 i ∧ i ≤ l.length ∧ valL (l.drop i) n = valL l n ∧ Below w.heap.size w wr) (fun iv _ => l.length - (intOf iv).toNat)
  case atStart => exact ⟨0, rfl, Nat.zero_le _, rfl, Below.refl _ _⟩
  case round =>
    obtain ⟨i, rfl, hi, hv, hb⟩ := hrel
    by_cases hlt : i < l.length
    · obtain ⟨p, hp⟩ : ∃ p, l[i]? = some p := ⟨_, List.getElem?_eq_getElem hlt⟩
      have hat := HAT.out.below (w' := wr) hb
      obtain ⟨g, o, rfl, _, c0, c1, c2⟩ := hat i p hp
      clear hat
      have k0 : (0 : Int) ≤ (i : Int) := Int.natCast_nonneg _
      have k1 : (i : Int) < (l.length : Int) := by omega
      have hwi := wrap64_small i (small30h i _ hi hN)
      have hvd := valL_drop l n i p hp
      obtain ⟨p1, p2, p3⟩ := p
      simp only at c0 c1 c2 hvd
      have hb2 := hb.alloc hb.size (.cells #[.string ⟨p1.toArray⟩, .string ⟨p2.toArray⟩, .bool p3] 33)
      have HB2 := Lib.hid hb2; have HW := Lib.hid hwi; have HP := Lib.hid hp
      clear hb hb2 hwi hp
      by_cases hE : p1 = n
      · rw [if_pos hE, hv] at hvd
        have HV := Lib.hid hvd
        have hE2 : (p1 == n) = true := by simpa using hE
        clear hvd hv hE
        go_wp2
        go_ret
        rw [HV.out]
        exact ⟨rfl, HB2.out⟩
      · rw [if_neg hE, hv] at hvd
        have HV := Lib.hid hvd
        have hE2 : (p1 == n) = false := by simpa using hE
        clear hvd hv hE
        go_wp2
        have hwi := HW.out
        go_roundw
        case rel => (try rw [hwi]); clear hwi; exact ⟨i + 1, by go_num, hlt, HV.out.symm, HB2.out⟩
        case measure => (try rw [hwi]); clear hwi; simp [intOf]; omega
    · obtain rfl : i = l.length := by omega
      have hd : decide (l.length < l.length) = false := decide_eq_false (Nat.lt_irrefl _)
      rw [List.drop_length] at hv
      have HX := Lib.hid (And.intro hv hb)
      clear hv hb
      go_wp2
      go_ret
      rw [← HX.out.1]
      exact ⟨rfl, HX.out.2⟩
set_option maxHeartbeats 4000000 in
theorem rvalue_any (v : Value) (l : List Par) (n : List UInt8) (w : World) (hN : l.length ≤ 1073741824) (h : ParsIn w v l) :
    Calls Tryz.prog 38 #[v, .string ⟨n.toArray⟩] w fun e w' => e = .returned (.string ⟨(valL l n).toArray⟩) ∧ Below w.heap.size w w' := by
  obtain ⟨ao, cap, rfl, hat⟩ := h
  have HAT := Lib.hid hat
  clear hat
  go_enter Tryz.func38, Tryz.ntmps38
  go_wp2
  go_loopw [9] (fun iv wr => ∃ i : Nat, iv = .int .i64 i ∧ i ≤ l.length ∧ valL (l.drop i) n = valL l n ∧ Below w.heap.size w wr) (fun iv _ => l.length - (intOf iv).toNat)
  case atStart => exact ⟨0, rfl, Nat.zero_le _, rfl, Below.refl _ _⟩
  case round =>
    obtain ⟨i, rfl, hi, hv, hb⟩ := hrel
    by_cases hlt : i < l.length
    · obtain ⟨p, hp⟩ : ∃ p, l[i]? = some p := ⟨_, List.getElem?_eq_getElem hlt⟩
      have hat := HAT.out.below (w' := wr) hb
      obtain ⟨g, o, rfl, _, c0, c1, c2⟩ := hat i p hp
      clear hat
      have k0 : (0 : Int) ≤ (i : Int) := Int.natCast_nonneg _
      have k1 : (i : Int) < (l.length : Int) := by omega
      have hwi := wrap64_small i (small30h i _ hi hN)
      have hvd := valL_drop l n i p hp
      obtain ⟨p1, p2, p3⟩ := p
      simp only at c0 c1 c2 hvd
      have hb2 := hb.alloc hb.size (.cells #[.string ⟨p1.toArray⟩, .string ⟨p2.toArray⟩, .bool p3] 91)
      have HB2 := Lib.hid hb2; have HW := Lib.hid hwi; have HP := Lib.hid hp
      clear hb hb2 hwi hp
      by_cases hE : p1 = n
      · rw [if_pos hE, hv] at hvd
        have HV := Lib.hid hvd
        have hE2 : (p1 == n) = true := by simpa using hE
        clear hvd hv hE
        go_wp2
        go_ret
        rw [HV.out]
        exact ⟨rfl, HB2.out⟩
      · rw [if_neg hE, hv] at hvd
        have HV := Lib.hid hvd
        have hE2 : (p1 == n) = false := by simpa using hE
        clear hvd hv hE
        go_wp2
        have hwi := HW.out
        go_roundw
        case rel => (try rw [hwi]); clear hwi; exact ⟨i + 1, by go_num, hlt, HV.out.symm, HB2.out⟩
        case measure => (try rw [hwi]); clear hwi; simp [intOf]; omega
    · obtain rfl : i = l.length := by omega
      have hd : decide (l.length < l.length) = false := decide_eq_false (Nat.lt_irrefl _)
      rw [List.drop_length] at hv
      have HX := Lib.hid (And.intro hv hb)
      clear hv hb
      go_wp2
      go_ret
      rw [← HX.out.1]
      exact ⟨rfl, HX.out.2⟩
end Go.Proofs.YtdlpbpikhmciaaaGreatDoor
namespace Go.Proofs.YtdlpbpikhmciaaaGreatDoor
open Go.RowKit
set_option linter.unusedSimpArgs false
set_option linter.unusedVariables false
set_option maxRecDepth 100000
def seg (l : List UInt8) (a b : Nat) : List UInt8 := (l.drop a).take (b - a)
theorem seg_len (l : List UInt8) (a b : Nat) (hb : b ≤ l.length) (h : a ≤ b) : (seg l a b).length = b - a := by
  unfold seg; rw [List.length_take, List.length_drop]; omega
theorem seg_nil (l : List UInt8) (a : Nat) : seg l a a = [] := by unfold seg; rw [Nat.sub_self]; rfl
theorem seg_app (l : List UInt8) (a b n : Nat) (h : a ≤ b) : seg l a (b + n) = seg l a b ++ (l.drop b).take n := by
  unfold seg
  rw [show b + n - a = (b - a) + n by omega, List.take_add, List.drop_drop, show a + (b - a) = b by omega]
theorem seg_one (l : List UInt8) (a b : Nat) (c : UInt8) (h : a ≤ b) (hc : l[b]? = some c) : seg l a (b + 1) = seg l a b ++ [c] := by
  rw [seg_app l a b 1 h]
  have hlt := (List.getElem?_eq_some_iff.1 hc).1
  have he := (List.getElem?_eq_some_iff.1 hc).2
  rw [List.drop_eq_getElem_cons hlt, he]
  rfl
theorem drop_c (l : List UInt8) (b : Nat) (c : UInt8) (hc : l[b]? = some c) : l.drop b = c :: l.drop (b + 1) := by
  have hlt := (List.getElem?_eq_some_iff.1 hc).1
  have he := (List.getElem?_eq_some_iff.1 hc).2
  rw [List.drop_eq_getElem_cons hlt, he]
theorem mulK (a p n : Nat) (h : a ≤ p * 1048577) : a ≤ (p + n) * 1048577 := Nat.le_trans h (Nat.mul_le_mul_right _ (Nat.le_add_right _ _))
/-- Up to a place: what is written, and what stands open. -/
def RfR (ps : List Par) (l : List UInt8) (fv av : Int) (pos : Nat) (acc : List UInt8) : Prop :=
  (∃ a : Nat, fv = -1 ∧ av = a ∧ a ≤ pos ∧ acc.length + (pos - a) ≤ pos * 1048577 ∧ rf ps none l = (rf ps none (l.drop pos)).map ((acc ++ seg l a pos) ++ ·)) ∨
  (∃ f a : Nat, fv = f ∧ av = a ∧ f ≤ pos ∧ a ≤ pos ∧ acc.length ≤ pos * 1048577 ∧ rf ps none l = (rf ps (some (seg l f pos)) (l.drop pos)).map (acc ++ ·))
theorem rfr_start (ps : List Par) (l : List UInt8) : RfR ps l (-1) 0 0 [] :=
  .inl ⟨0, rfl, rfl, Nat.le_refl _, by simp, by rw [seg_nil]; simp⟩
theorem map_map (o : Option (List UInt8)) (a b : List UInt8) : (o.map (b ++ ·)).map (a ++ ·) = o.map ((a ++ b) ++ ·) := by
  cases o <;> simp
theorem rfr_skip (ps : List Par) (l : List UInt8) (fv av : Int) (pos n : Nat) (acc a : List UInt8) (h : RfR ps l fv av pos acc) (hd : l.drop pos = a ++ l.drop (pos + n)) (ha : a = (l.drop pos).take n) (hl : a.length = n) (hh : ∀ c ∈ a, c.toNat ≠ 125 ∧ c.toNat ≠ 123)
    (hs : ∀ r, rf ps none (a ++ r) = (rf ps none r).map (a ++ ·)) (ht : ∀ m r, rf ps (some m) (a ++ r) = rf ps (some (m ++ a)) r) : RfR ps l fv av (pos + n) acc := by
  rcases h with ⟨x, h1, h2, h3, h4, h5⟩ | ⟨f, x, h1, h2, h3, h3', h4, h5⟩
  · refine .inl ⟨x, h1, h2, by omega, by omega, ?_⟩
    rw [h5, hd, hs, map_map, seg_app l x pos n h3, ← ha, List.append_assoc]
  · refine .inr ⟨f, x, h1, h2, by omega, by omega, mulK _ _ _ h4, ?_⟩
    rw [h5, hd, ht, seg_app l f pos n h3, ← ha]
theorem rfr_text (ps : List Par) (l : List UInt8) (fv av : Int) (pos : Nat) (acc : List UInt8) (c : UInt8) (h : RfR ps l fv av pos acc) (hc : l[pos]? = some c) (h1 : c.toNat ≠ 125) (h2 : c.toNat ≠ 123) : RfR ps l fv av (pos + 1) acc := by
  have hd := drop_c l pos c hc
  refine rfr_skip ps l fv av pos 1 acc [c] h ?_ ?_ rfl ?_ ?_ ?_
  · rw [hd]; rfl
  · rw [hd]; rfl
  · intro d hdm
    obtain rfl : d = c := by simpa using hdm
    exact ⟨h1, h2⟩
  · intro r
    exact rf_none ps c r h1 h2
  · intro m r
    exact rf_some ps m c r h1 h2
theorem rfr_high (ps : List Par) (l : List UInt8) (fv av : Int) (pos n : Nat) (acc a : List UInt8) (h : RfR ps l fv av pos acc) (hd : l.drop pos = a ++ l.drop (pos + n)) (ha : a = (l.drop pos).take n) (hl : a.length = n) (hh : ∀ c ∈ a, 128 ≤ c.toNat) : RfR ps l fv av (pos + n) acc :=
  rfr_skip ps l fv av pos n acc a h hd ha hl (fun c hc => by have := hh c hc; omega) (fun r => rf_none_skip ps a r hh) (fun m r => rf_some_skip ps a r m hh)
theorem rfr_open (ps : List Par) (l : List UInt8) (av : Int) (pos : Nat) (acc : List UInt8) (c : UInt8) (h : RfR ps l (-1) av pos acc) (hc : l[pos]? = some c) (h1 : c.toNat = 123) (hb : pos ≤ l.length) :
    ∃ a : Nat, av = a ∧ a ≤ pos ∧ acc.length + (pos - a) ≤ pos * 1048577 ∧ RfR ps l ((pos + 1 : Nat) : Int) av (pos + 1) (acc ++ seg l a pos) := by
  rcases h with ⟨a, _, h2, h3, h4, h5⟩ | ⟨f, a, h1, _⟩
  · refine ⟨a, h2, h3, h4, .inr ⟨pos + 1, a, rfl, h2, Nat.le_refl _, by omega, ?_, ?_⟩⟩
    · rw [List.length_append, seg_len l a pos hb h3]; exact mulK _ _ _ h4
    · rw [h5, drop_c l pos c hc, rf_open ps c _ h1, seg_nil]
  · omega
theorem rfr_openbad (ps : List Par) (l : List UInt8) (f : Nat) (av : Int) (pos : Nat) (acc : List UInt8) (c : UInt8) (h : RfR ps l f av pos acc) (hc : l[pos]? = some c) (h1 : c.toNat = 123) : rf ps none l = none := by
  rcases h with ⟨a, h1, _⟩ | ⟨f', a, h2, _, _, _, _, h5⟩
  · omega
  · rw [h5, drop_c l pos c hc, rf_twice ps _ c _ h1]; rfl
theorem rfr_stray (ps : List Par) (l : List UInt8) (av : Int) (pos : Nat) (acc : List UInt8) (c : UInt8) (h : RfR ps l (-1) av pos acc) (hc : l[pos]? = some c) (h1 : c.toNat = 125) : rf ps none l = none := by
  rcases h with ⟨a, _, _, _, _, h5⟩ | ⟨f', a, h2, _⟩
  · rw [h5, drop_c l pos c hc, rf_stray ps c _ h1]; rfl
  · omega
theorem rfr_shut (ps : List Par) (l : List UInt8) (f : Nat) (av : Int) (pos : Nat) (acc : List UInt8) (c : UInt8) (h : RfR ps l f av pos acc) (hc : l[pos]? = some c) (h1 : c.toNat = 125) (hn : isNm (seg l f pos) = true) (hv : (valL ps (seg l f pos)).length ≤ 1048576) :
    acc.length ≤ pos * 1048577 ∧ RfR ps l (-1) ((pos + 1 : Nat) : Int) (pos + 1) (acc ++ valL ps (seg l f pos)) := by
  rcases h with ⟨a, h2, _⟩ | ⟨f', a, h2, _, _, _, h4, h5⟩
  · omega
  · obtain rfl : f = f' := by omega
    refine ⟨h4, .inl ⟨pos + 1, rfl, rfl, Nat.le_refl _, ?_, ?_⟩⟩
    · rw [List.length_append]; omega
    · rw [h5, drop_c l pos c hc, rf_shut ps _ c _ h1 hn, map_map, seg_nil, List.append_nil]
theorem rfr_badname (ps : List Par) (l : List UInt8) (f : Nat) (av : Int) (pos : Nat) (acc : List UInt8) (c : UInt8) (h : RfR ps l f av pos acc) (hc : l[pos]? = some c) (h1 : c.toNat = 125) (hn : isNm (seg l f pos) = false) : rf ps none l = none := by
  rcases h with ⟨a, h2, _⟩ | ⟨f', a, h2, _, _, _, h4, h5⟩
  · omega
  · obtain rfl : f = f' := by omega
    rw [h5, drop_c l pos c hc, rf_badname ps _ c _ h1 hn]; rfl
theorem rfr_le (ps : List Par) (l : List UInt8) (f : Nat) (av : Int) (pos : Nat) (acc : List UInt8) (h : RfR ps l f av pos acc) : f ≤ pos := by
  rcases h with ⟨a, h2, _⟩ | ⟨f', a, h2, _, h3, _⟩ <;> omega
theorem rfr_end (ps : List Par) (l : List UInt8) (av : Int) (pos : Nat) (acc : List UInt8) (h : RfR ps l (-1) av pos acc) (hp : pos = l.length) :
    ∃ a : Nat, av = a ∧ a ≤ pos ∧ acc.length + (pos - a) ≤ pos * 1048577 ∧ rf ps none l = some (acc ++ l.drop a) := by
  rcases h with ⟨a, _, h2, h3, h4, h5⟩ | ⟨f', a, h2, _⟩
  · refine ⟨a, h2, h3, h4, ?_⟩
    rw [h5, hp, List.drop_length]
    simp only [rf, Option.map_some, List.append_nil]
    unfold seg
    rw [List.take_of_length_le (by rw [List.length_drop]; exact Nat.le_refl _)]
  · omega
theorem rfr_endbad (ps : List Par) (l : List UInt8) (f : Nat) (av : Int) (pos : Nat) (acc : List UInt8) (h : RfR ps l f av pos acc) (hp : pos = l.length) : rf ps none l = none := by
  rcases h with ⟨a, h2, _⟩ | ⟨f', a, h2, _, _, _, h4, h5⟩
  · omega
  · rw [h5, hp, List.drop_length]; rfl
theorem rfr_cases (ps : List Par) (l : List UInt8) (fv av : Int) (pos : Nat) (acc : List UInt8) (h : RfR ps l fv av pos acc) : fv = -1 ∨ ∃ f : Nat, fv = f := by
  rcases h with ⟨a, h, _⟩ | ⟨f, a, h, _⟩
  · exact .inl h
  · exact .inr ⟨f, h⟩
/-- What Refer answers. -/
def rfT (ps : List Par) (l : List UInt8) : List UInt8 × Nat := match refR ps l with | some x => (x, 0) | none => ([], 180)
theorem rfT_bad (ps : List Par) (l : List UInt8) (h : refR ps l = none) : rfT ps l = ([], 180) := by unfold rfT; rw [h]
theorem rfT_good (ps : List Par) (l x : List UInt8) (h : refR ps l = some x) : rfT ps l = (x, 0) := by unfold rfT; rw [h]
theorem refR_go (ps : List Par) (l : List UInt8) (h0 : l.isEmpty = false) (h1 : isFld l = true) (h2 : (trimL l == l) = true) : refR ps l = rf ps none l := by
  unfold refR; rw [h0, h1, h2]; rfl
theorem refR_empty (ps : List Par) (l : List UInt8) (h0 : l.isEmpty = true) : refR ps l = none := by
  unfold refR; rw [h0]; rfl
theorem refR_nofld (ps : List Par) (l : List UInt8) (h1 : isFld l = false) : refR ps l = none := by
  unfold refR; rw [h1]; simp
theorem refR_notrim (ps : List Par) (l : List UInt8) (h2 : (trimL l == l) = false) : refR ps l = none := by
  unfold refR; rw [h2]; simp
theorem valL_len (n : List UInt8) : ∀ (ps : List Par), (valL ps n).length ≤ totP ps
  | [] => by simp [valL]
  | p :: r => by
    have := valL_len n r
    unfold valL totP
    split <;> omega
end Go.Proofs.YtdlpbpikhmciaaaGreatDoor
