/- PrnP, SplR, SplW: texts of the seat, one behind the other (a claim holds at most sixty). Conditions: each theorem names its own. -/
import Derived.Test.YtlfdeenekjklgaaGreatDoorPk22
import Derived.Test.YtlfdeenekjklgaaGreatDoorPk01
import Derived.Test.YtlfdeenekjklgaaGreatDoorPk00
namespace Go.Proofs.YtlfdeenekjklgaaGreatDoor
open Go.RowKit
set_option linter.unusedSimpArgs false
set_option linter.unusedVariables false
/-- A text of a pair, decoded. -/
def spc (l : List UInt8) : List UInt8 := (pdec (swapL 43 32 l)).1
/-- A piece as a pair. -/
def parOf (p : List UInt8) : Par := (spc (Lib.cut p [61]).1, spc (Lib.cut p [61]).2.1, (Lib.cut p [61]).2.2)
def parsOf : List (List UInt8) → List Par
  | [] => []
  | p :: r => if p = [] then parsOf r else parOf p :: parsOf r
/-- The pairs of a body, or the place that is wrong. -/
def prsP (l : List UInt8) : List Par × Nat × Nat := if (pdec l).2.2 ≠ 0 then ([], (pdec l).2.1, 51) else (parsOf (Lib.split l [38]), 0, 0)
/-- Stands for itself. -/
def stn (c : UInt8) : Bool := (97 ≤ c.toNat && c.toNat ≤ 122) || (65 ≤ c.toNat && c.toNat ≤ 90) || (48 ≤ c.toNat && c.toNat ≤ 57) || c == 42 || c == 45 || c == 46 || c == 95
/-- A great hexadecimal digit. -/
def hxU (n : Nat) : UInt8 := if n < 10 then UInt8.ofNat (48 + n) else UInt8.ofNat (55 + n)
def cod (c : UInt8) : List UInt8 := if stn c then [c] else if c = 32 then [43] else [37, hxU (c.toNat / 16), hxU (c.toNat % 16)]
def codL (l : List UInt8) : List UInt8 := l.flatMap cod
def pieceOf (p : Par) : List UInt8 := codL p.1 ++ if p.2.2 then 61 :: codL p.2.1 else []
def joinP : List (List UInt8) → List UInt8
  | [] => []
  | [p] => p
  | p :: q :: r => p ++ 38 :: joinP (q :: r)
/-- May be written. -/
def parOk (p : Par) : Bool := p.2.2 || (p.1 != [] && p.2.1 == [])
def prnP (l : List Par) : List UInt8 × Nat := if l.all parOk then (joinP (l.map pieceOf), 0) else ([], 150)
theorem hx_all2 : ∀ n : Fin 16, (hv (hxU n.val) == some n.val && hxU n.val != 37 && hxU n.val != 38 && hxU n.val != 61 && hxU n.val != 43) = true := by decide +kernel
theorem hv_hx (n : Nat) (h : n < 16) : hv (hxU n) = some n ∧ hxU n ≠ 37 ∧ hxU n ≠ 38 ∧ hxU n ≠ 61 ∧ hxU n ≠ 43 := by
  have := hx_all2 ⟨n, h⟩
  simp only [Bool.and_eq_true, beq_iff_eq, bne_iff_ne] at this
  exact ⟨this.1.1.1.1, this.1.1.1.2, this.1.1.2, this.1.2, this.2⟩
theorem stn_all : ∀ n : Fin 256, (!stn (UInt8.ofNat n.val) || (UInt8.ofNat n.val != 37 && UInt8.ofNat n.val != 38 && UInt8.ofNat n.val != 61 && UInt8.ofNat n.val != 43 && UInt8.ofNat n.val != 32)) = true := by decide +kernel
theorem stn_ne (c : UInt8) (h : stn c = true) : c ≠ 37 ∧ c ≠ 38 ∧ c ≠ 61 ∧ c ≠ 43 ∧ c ≠ 32 := by
  have := stn_all ⟨c.toNat, c.toBitVec.isLt⟩
  rw [show UInt8.ofNat (⟨c.toNat, c.toBitVec.isLt⟩ : Fin 256).val = c from by simp] at this
  rw [h] at this
  simp only [Bool.not_true, Bool.false_or, Bool.and_eq_true, bne_iff_ne] at this
  exact ⟨this.1.1.1.1, this.1.1.1.2, this.1.1.2, this.1.2, this.2⟩
/-- Read as x, whatever stands behind. -/
def Good (ch x : List UInt8) : Prop := ∀ acc r i, pd acc (ch ++ r) i = pd (acc ++ x) r (i + ch.length)
theorem good_nil : Good [] [] := fun acc r i => by simp
theorem good_append {a b x y : List UInt8} (h : Good a x) (k : Good b y) : Good (a ++ b) (x ++ y) := fun acc r i => by
  rw [List.append_assoc, h, k, List.length_append, List.append_assoc, Nat.add_assoc]
theorem good_one (c : UInt8) (h : c ≠ 37) : Good [c] [c] := fun acc r i => pd_plain acc c r i h
theorem good_trip (n : Nat) (h : n < 256) : Good [37, hxU (n / 16), hxU (n % 16)] [UInt8.ofNat n] := fun acc r i => by
  have h1 := hv_hx (n / 16) (by omega)
  have h2 := hv_hx (n % 16) (by omega)
  have ht : trip (37 :: hxU (n / 16) :: hxU (n % 16) :: r) = some n := by
    simp only [trip, if_true]
    rw [h1.1, h2.1]
    simp only
    congr 1
    omega
  have := (pd_good acc ([37, hxU (n / 16), hxU (n % 16)] ++ r) i n ht).1
  rw [this]
  rfl
theorem good_cod (c : UInt8) : ∃ x, Good (cod c) [x] := by
  unfold cod
  by_cases h : stn c = true
  · rw [if_pos h]; exact ⟨c, good_one c (stn_ne c h).1⟩
  · rw [if_neg h]
    by_cases h2 : c = 32
    · rw [if_pos h2]; exact ⟨43, good_one 43 (by decide)⟩
    · rw [if_neg h2]; exact ⟨_, good_trip c.toNat c.toBitVec.isLt⟩
theorem good_codL (l : List UInt8) : ∃ x, Good (codL l) x := by
  induction l with
  | nil => exact ⟨[], good_nil⟩
  | cons c r ih =>
    obtain ⟨x, hx⟩ := good_cod c
    obtain ⟨y, hy⟩ := ih
    exact ⟨_, good_append hx hy⟩
theorem good_piece (p : Par) : ∃ x, Good (pieceOf p) x := by
  obtain ⟨x, hx⟩ := good_codL p.1
  unfold pieceOf
  by_cases h : p.2.2 = true
  · rw [if_pos h]
    obtain ⟨y, hy⟩ := good_codL p.2.1
    exact ⟨_, good_append hx (good_append (good_one 61 (by decide)) hy)⟩
  · rw [if_neg h]
    exact ⟨_, good_append hx good_nil⟩
theorem good_join (l : List (List UInt8)) (h : ∀ p ∈ l, ∃ x, Good p x) : ∃ x, Good (joinP l) x := by
  match l, h with
  | [], _ => exact ⟨[], good_nil⟩
  | [p], h => exact h p (by simp)
  | p :: q :: r, h =>
    obtain ⟨x, hx⟩ := h p (by simp)
    obtain ⟨y, hy⟩ := good_join (q :: r) (fun p hp => h p (by simp at hp ⊢; exact Or.inr hp))
    exact ⟨_, good_append hx (good_append (good_one 38 (by decide)) hy)⟩
theorem good_pdec {l x : List UInt8} (h : Good l x) : pdec l = (x, 0, 0) := by
  have := h [] [] 0
  rw [List.append_nil] at this
  unfold pdec
  rw [this]
  rfl
theorem cod_free (c d : UInt8) (h : d ∈ cod c) : d ≠ 38 ∧ d ≠ 61 := by
  unfold cod at h
  by_cases hs : stn c = true
  · rw [if_pos hs] at h
    obtain rfl : d = c := by simpa using h
    exact ⟨(stn_ne d hs).2.1, (stn_ne d hs).2.2.1⟩
  · rw [if_neg hs] at h
    by_cases h2 : c = 32
    · rw [if_pos h2] at h
      obtain rfl : d = 43 := by simpa using h
      decide
    · rw [if_neg h2] at h
      have l1 : c.toNat < 256 := c.toBitVec.isLt
      have a1 := hv_hx (c.toNat / 16) (by omega)
      have a2 := hv_hx (c.toNat % 16) (by omega)
      simp only [List.mem_cons, List.not_mem_nil, or_false] at h
      rcases h with rfl | rfl | rfl
      · decide
      · exact ⟨a1.2.2.1, a1.2.2.2.1⟩
      · exact ⟨a2.2.2.1, a2.2.2.2.1⟩
theorem codL_free (l : List UInt8) (d : UInt8) (h : d ∈ codL l) : d ≠ 38 ∧ d ≠ 61 := by
  obtain ⟨c, _, hd⟩ := List.mem_flatMap.1 h
  exact cod_free c d hd
theorem piece_free (p : Par) : ∀ d ∈ pieceOf p, d ≠ 38 := by
  intro d h
  unfold pieceOf at h
  rcases List.mem_append.1 h with h | h
  · exact (codL_free _ d h).1
  · by_cases hp : p.2.2 = true
    · rw [if_pos hp] at h
      rcases List.mem_cons.1 h with rfl | h
      · decide
      · exact (codL_free _ d h).1
    · rw [if_neg hp] at h; cases h
theorem spc_cod (l : List UInt8) : spc (codL l) = l := by
  have key : ∀ l, Good (swapL 43 32 (codL l)) l := by
    intro l
    induction l with
    | nil => exact good_nil
    | cons c r ih =>
      have e : swapL 43 32 (codL (c :: r)) = swapL 43 32 (cod c) ++ swapL 43 32 (codL r) := by simp [swapL, codL]
      rw [e]
      refine good_append (x := [c]) ?_ ih
      unfold cod
      by_cases hs : stn c = true
      · rw [if_pos hs]
        have : swapL 43 32 [c] = [c] := by simp [swapL, (stn_ne c hs).2.2.2.1]
        rw [this]; exact good_one c (stn_ne c hs).1
      · rw [if_neg hs]
        by_cases h2 : c = 32
        · subst h2; rw [if_pos rfl]; exact good_one 32 (by decide)
        · rw [if_neg h2]
          have l1 : c.toNat < 256 := c.toBitVec.isLt
          have a1 := hv_hx (c.toNat / 16) (by omega)
          have a2 := hv_hx (c.toNat % 16) (by omega)
          have : swapL 43 32 [37, hxU (c.toNat / 16), hxU (c.toNat % 16)] = [37, hxU (c.toNat / 16), hxU (c.toNat % 16)] := by simp [swapL, a1.2.2.2.2, a2.2.2.2.2]
          rw [this]
          have := good_trip c.toNat l1
          rwa [show UInt8.ofNat c.toNat = c from by simp] at this
  unfold spc
  rw [good_pdec (key l)]
theorem cut_mid (c : UInt8) (a b : List UInt8) (h : ∀ d ∈ a, d ≠ c) : Lib.cut (a ++ c :: b) [c] = (a, b, true) := by
  rw [cut_found c (a ++ c :: b) a.length (by simp) (fun j hj => by
    rw [List.getElem?_append_left hj, List.getElem?_eq_getElem hj]
    intro e; injection e with e; exact h _ (List.getElem_mem hj) e) (by simp)]
  simp [List.drop_append]
theorem cut_free (c : UInt8) (a : List UInt8) (h : ∀ d ∈ a, d ≠ c) : Lib.cut a [c] = (a, [], false) :=
  cut_none c a fun j hj => by rw [List.getElem?_eq_getElem hj]; intro e; injection e with e; exact h _ (List.getElem_mem hj) e
theorem split_join (l : List (List UInt8)) (h : ∀ p ∈ l, ∀ d ∈ p, d ≠ 38) (hn : l ≠ []) : Lib.split (joinP l) [38] = l := by
  match l, h, hn with
  | [p], h, _ =>
    rw [split_step, joinP, cut_free 38 p (h p (by simp))]
    rfl
  | p :: q :: r, h, _ =>
    rw [split_step, joinP, cut_mid 38 p _ (h p (by simp)), if_pos rfl]
    rw [split_join (q :: r) (fun p hp => h p (by simp at hp ⊢; exact Or.inr hp)) (by simp)]
theorem parOf_piece (p : Par) (h : parOk p = true) : parOf (pieceOf p) = p ∧ pieceOf p ≠ [] := by
  obtain ⟨n, v, hs⟩ := p
  unfold parOk at h
  cases hs with
  | true =>
    have e : pieceOf (n, v, true) = codL n ++ 61 :: codL v := rfl
    rw [e]
    constructor
    · unfold parOf
      rw [cut_mid 61 (codL n) (codL v) (fun d hd => (codL_free n d hd).2)]
      simp only [spc_cod]
    · simp
  | false =>
    have e : pieceOf (n, v, false) = codL n := by simp [pieceOf]
    have h2 : n ≠ [] ∧ v = [] := by simpa using h
    rw [e]
    constructor
    · unfold parOf
      rw [cut_free 61 (codL n) (fun d hd => (codL_free n d hd).2)]
      simp only [spc_cod, h2.2]
      rfl
    · intro e0
      apply h2.1
      have := spc_cod n
      rw [e0] at this
      exact this.symm
theorem parsOf_pieces (l : List Par) (h : l.all parOk = true) : parsOf (l.map pieceOf) = l := by
  induction l with
  | nil => rfl
  | cons p r ih =>
    simp only [List.all_cons, Bool.and_eq_true] at h
    rw [List.map_cons, parsOf, if_neg (parOf_piece p h.1).2, (parOf_piece p h.1).1, ih h.2]
/-- What was written is read back. -/
theorem prs_prn (l : List Par) (h : (prnP l).2 = 0) : prsP (prnP l).1 = (l, 0, 0) := by
  unfold prnP at h ⊢
  by_cases ha : l.all parOk = true
  · rw [if_pos ha]
    simp only
    obtain ⟨x, hx⟩ := good_join (l.map pieceOf) (fun p hp => by obtain ⟨q, _, rfl⟩ := List.mem_map.1 hp; exact good_piece q)
    unfold prsP
    rw [good_pdec hx, if_neg (by simp)]
    by_cases hn : l = []
    · subst hn; rfl
    · rw [split_join (l.map pieceOf) (fun p hp => by obtain ⟨q, _, rfl⟩ := List.mem_map.1 hp; exact piece_free q) (by simpa using hn), parsOf_pieces l ha]
  · rw [if_neg ha] at h; cases h
end Go.Proofs.YtlfdeenekjklgaaGreatDoor
namespace Go.Proofs.YtlfdeenekjklgaaGreatDoor
open Go.RowKit
set_option linter.unusedSimpArgs false
set_option linter.unusedVariables false
set_option maxRecDepth 1000000
theorem extract_mk (s : ByteArray) (a b : Nat) : s.extract a b = ⟨((s.data.toList.drop a).take (b - a)).toArray⟩ := by
  apply ba_ext
  rw [ByteArray.data_extract, Array.toList_extract, List.extract_eq_take_drop]
theorem extract_front (s : ByteArray) (i : Nat) : s.extract 0 i = ⟨(s.data.toList.take i).toArray⟩ := by rw [extract_mk]; simp
theorem extract_back (s : ByteArray) (i : Nat) : s.extract i s.size = ⟨(s.data.toList.drop i).toArray⟩ := by
  rw [extract_mk, List.take_of_length_le (by rw [List.length_drop, size_list]; omega)]
set_option maxHeartbeats 2000000 in
theorem cut_any (s : ByteArray) (c : UInt8) (w : World) (hs : s.size ≤ 140737488351232) :
    Calls Tryz.prog 74 #[.string s, .int .u8 (c.toNat : Int)] w fun e w' => e = .returned (.tuple #[.string ⟨(Lib.cut s.data.toList [c]).1.toArray⟩, .string ⟨(Lib.cut s.data.toList [c]).2.1.toArray⟩, .bool (Lib.cut s.data.toList [c]).2.2]) ∧ ∃ k, w' = w.drewN k := by
  go_enter Tryz.func74, Tryz.ntmps74
  go_wp2
  go_loopw [7] (fun iv wr => ∃ i : Nat, iv = .int .i64 i ∧ i ≤ s.size ∧ (∀ j, j < i → s.data.toList[j]? ≠ some c) ∧ wr = w) (fun i _ => s.size - (intOf i).toNat)
  case atStart => exact ⟨0, rfl, Nat.zero_le _, fun j hj => absurd hj (by omega), rfl⟩
  case round =>
    obtain ⟨i, rfl, hi, hno, rfl⟩ := hrel
    by_cases hlt : i < s.size
    · obtain ⟨a, ha⟩ : ∃ a, s[i]'hlt = a := ⟨_, rfl⟩
      have hga := list_get s i hlt
      rw [ha] at hga
      have k0 : (0 : Int) ≤ (i : Int) := by omega
      have k1 : (i : Int) < (s.size : Int) := by omega
      by_cases hac : a = c
      · subst hac
        have hcut := cut_found a s.data.toList i (by rw [size_list]; exact hlt) hno hga
        obtain ⟨j1, e1⟩ : ∃ j, i + 1 = j := ⟨_, rfl⟩
        have f1 : (i : Int) + 1 = (j1 : Int) := by omega
        have g1 : IntKind.i64.wrap (j1 : Int) = (j1 : Int) := wrap_47b j1 s.size (by omega) hs
        have n1 : (0 : Int) ≤ (j1 : Int) := by omega
        have m1 : (j1 : Int) ≤ (s.size : Int) := by omega
        have m0 : (i : Int) ≤ (s.size : Int) := by omega
        have x0 := extract_front s i
        have x1 := extract_back s j1
        rw [e1] at hcut
        have HC := Lib.hid hcut; have HX := Lib.hid (And.intro x0 x1)
        clear hcut e1 hno hga x0 x1
        go_wp2_with fail
        go_still (by kernel_rfl)
        go_wp2
        go_ret3
        refine ⟨?_, 1, rfl⟩
        rw [HC.out]
        show Ending.returned (.tuple #[.string (s.extract 0 i), .string (s.extract j1 s.size), .bool true]) = _
        rw [HX.out.1, HX.out.2]
      · have hne : ((a.toNat : Int) == (c.toNat : Int)) = false := by
          have : a.toNat ≠ c.toNat := fun e => hac (UInt8.toNat_inj.1 e)
          simp; omega
        have hno2 : ∀ j, j < i + 1 → s.data.toList[j]? ≠ some c := by
          intro j hj
          by_cases e : j = i
          · subst e; rw [hga]; intro h; injection h with h; exact hac h
          · exact hno j (by omega)
        have HN := Lib.hid hno2; clear hno hno2 hga hac
        go_wp2
        go_roundw
        case rel => exact ⟨i + 1, by go_num, by omega, HN.out, by first | rfl | trivial⟩
        case measure => simp [intOf]; omega
    · have hcut := cut_none c s.data.toList (fun j hj => hno j (by rw [size_list] at hj; omega))
      have HC := Lib.hid hcut; clear hcut hno
      go_wp2
      go_ret3
      refine ⟨?_, 0, rfl⟩
      rw [HC.out, str_eq]
      rfl
theorem swap_split (s : List UInt8) (i : Nat) (c : UInt8) (h : s[i]? = some c) : swapL 43 32 (s.take (i + 1)) ++ s.drop (i + 1) = (swapL 43 32 (s.take i) ++ s.drop i).set i (if c = 43 then 32 else c) := by
  have hi : i < s.length := (List.getElem?_eq_some_iff.1 h).1
  have hl : (swapL 43 32 (s.take i)).length = i := by simp [swapL]; omega
  rw [List.set_append_right _ _ (by omega), hl, Nat.sub_self, List.take_add_one, h]
  have hd : s.drop i = c :: s.drop (i + 1) := by
    rw [List.drop_eq_getElem_cons hi]
    congr 1
    rw [List.getElem?_eq_getElem hi] at h; injection h
  rw [hd]
  simp [swapL]
theorem swap_mid (s : List UInt8) (i : Nat) (c : UInt8) (h : s[i]? = some c) : (swapL 43 32 (s.take i) ++ s.drop i)[i]? = some c := by
  have hi : i < s.length := (List.getElem?_eq_some_iff.1 h).1
  have hl : (swapL 43 32 (s.take i)).length = i := by simp [swapL]; omega
  rw [List.getElem?_append_right (by omega), hl, Nat.sub_self, List.getElem?_drop, Nat.add_zero, h]
def BytesAt (w : World) (g : Nat) (l : List UInt8) : Prop := ∀ j c, l[j]? = some c → w.cell? ⟨g, j, none⟩ = some (.int .u8 (c.toNat : Int)) ∧ w.frozen? ⟨g, j, none⟩ = false
theorem bytesAt_string (w : World) (e : TypeId) (s : ByteArray) : BytesAt (Lib.bytesWorld w e s) w.heap.size s.data.toList := by
  intro j c hj
  have hn := Lib.bytesWorld_at_new w e s
  have hlt : j < s.size := by rw [← size_list]; exact (List.getElem?_eq_some_iff.1 hj).1
  refine ⟨(rowB_of_string w e s).1.hcell j c hj, ?_⟩
  simp only [World.frozen?, hn]
  have hsz : (Lib.bytesCells w e s).size = grownCap w s.size 0 e := by
    have hge := grownCap_ge w s.size 0 e
    unfold Lib.bytesCells
    rw [Array.size_append, Array.size_map, Array.size_replicate]
    show s.size + _ = _
    omega
  have hge := grownCap_ge w s.size 0 e
  simp
  omega
theorem bytesAt_set {w : World} {g : Nat} {l : List UInt8} (h : BytesAt w g l) (i : Nat) (d : UInt8) (hi : i < l.length) : BytesAt (w.setCell ⟨g, i, none⟩ (.int .u8 (d.toNat : Int))) g (l.set i d) := by
  intro j c hj
  have hjl : j < l.length := by have := (List.getElem?_eq_some_iff.1 hj).1; simpa using this
  have hold := h j (l[j]'hjl) (List.getElem?_eq_getElem hjl)
  constructor
  · by_cases e : i = j
    · subst e
      have hc : c = d := by simpa [hi] using hj.symm
      rw [hc]
      exact World.cell?_setCell_same _ _ _ hold.1
    · rw [World.cell?_setCell_other _ _ _ _ (by intro h; injection h with h1 h2; exact e h2)]
      rw [List.getElem?_set_ne e] at hj
      exact (h j c hj).1
  · have := World.frozen?_setCells g [Value.int .u8 (d.toNat : Int)] i w ⟨g, j, none⟩
    exact this.trans hold.2
set_option maxHeartbeats 2000000 in
theorem spaced_any (s : ByteArray) (w : World) (hs : s.size ≤ 140737488351232) :
    Calls Tryz.prog 75 #[.string s] w fun e w' => e = .returned (.string ⟨(spc s.data.toList).toArray⟩) ∧ Below w.heap.size w w' := by
  obtain ⟨L, hL⟩ : ∃ L, w.heap.size = L := ⟨_, rfl⟩
  have hr0 := bytesAt_string w 5 s
  have hb0 := (rowB_of_string w 5 s).2
  have hcv := Lib.run_convert_string_bytes (P := Tryz.prog) w 9 94 5 s Tryz.underlying9 Tryz.underlying94 Tryz.underlying5
  rw [hL] at hr0 hb0 hcv
  obtain ⟨W0, hW0⟩ : ∃ W0, Lib.bytesWorld w 5 s = W0 := ⟨_, rfl⟩
  rw [hW0] at hr0 hb0 hcv
  have HR0 := Lib.hid hr0; have HB0 := Lib.hid hb0
  clear hr0 hb0 hW0
  go_enter Tryz.func75, Tryz.ntmps75
  go_wp2
  go_loopw [4] (fun iv wr => ∃ i : Nat, iv = .int .i64 i ∧ i ≤ s.size ∧ BytesAt wr L (swapL 43 32 (s.data.toList.take i) ++ s.data.toList.drop i) ∧ Below L w wr) (fun i _ => s.size - (intOf i).toNat)
  case atStart => exact ⟨0, rfl, Nat.zero_le _, by simpa [swapL] using HR0.out, HB0.out⟩
  case round =>
    obtain ⟨i, rfl, hi, hba, hb⟩ := hrel
    by_cases hlt : i < s.size
    · obtain ⟨c, hc⟩ : ∃ c, s[i]'hlt = c := ⟨_, rfl⟩
      have hgc := list_get s i hlt
      rw [hc] at hgc
      have hcell := hba i c (swap_mid _ i c hgc)
      obtain ⟨c1, c2⟩ := hcell
      have hsp := swap_split s.data.toList i c hgc
      have hil : i < (swapL 43 32 (s.data.toList.take i) ++ s.data.toList.drop i).length := (List.getElem?_eq_some_iff.1 (swap_mid _ i c hgc)).1
      have k0 : (0 : Int) ≤ (i : Int) := by omega
      have k1 : (i : Int) < (s.size : Int) := by omega
      by_cases h43 : c = 43
      · subst h43
        have hset := bytesAt_set hba i 32 hil
        rw [if_pos rfl] at hsp
        rw [← hsp] at hset
        have HS := Lib.hid hset; have HB := Lib.hid hb
        clear hset hsp hba hgc hil hb hcv
        go_wp2
        go_roundw
        case rel => exact ⟨i + 1, by go_num, by omega, HS.out, HB.out.setCell (by show L ≤ L; omega) _⟩
        case measure => simp [intOf]; omega
      · have hne : ((c.toNat : Int) == 43) = false := by
          have : c.toNat ≠ 43 := fun e => h43 (UInt8.toNat_inj.1 (by rw [e]; rfl))
          simp; omega
        rw [if_neg h43] at hsp
        have hsame : (swapL 43 32 (s.data.toList.take i) ++ s.data.toList.drop i).set i c = swapL 43 32 (s.data.toList.take i) ++ s.data.toList.drop i := by
          apply List.ext_getElem?
          intro j
          by_cases e : i = j
          · subst e; rw [List.getElem?_set_self hil, swap_mid _ i c hgc]
          · rw [List.getElem?_set_ne e]
        rw [hsame] at hsp
        rw [← hsp] at hba
        have HS := Lib.hid hba; have HB := Lib.hid hb
        clear hsp hba hgc hil hb hcv hsame h43
        go_wp2
        go_roundw
        case rel => exact ⟨i + 1, by go_num, by omega, HS.out, HB.out⟩
        case measure => simp [intOf]; omega
    · obtain rfl : i = s.size := by omega
      rw [List.drop_eq_nil_of_le (by rw [size_list]; omega), List.append_nil, List.take_of_length_le (by rw [size_list]; omega)] at hba
      have hll : (swapL 43 32 s.data.toList).length = s.size := by simp [swapL, size_list]
      have hst := run_str_cells (P := Tryz.prog) wr 94 5 Tryz.underlying94 Tryz.underlying5 L 0 (grownCap w s.size 0 5) s.size (swapL 43 32 s.data.toList) hll (fun j h => by rw [Nat.zero_add]; exact (hba j _ (List.getElem?_eq_getElem h)).1) 9 Tryz.underlying9
      have hsz : (⟨(swapL 43 32 s.data.toList).toArray⟩ : ByteArray).size ≤ 140737488351232 := by rw [← size_list]; show (swapL 43 32 s.data.toList).toArray.toList.length ≤ _; simp only [List.toList_toArray]; omega
      have HB := Lib.hid hb
      clear hba hcv hll hb
      go_wp2_with fail
      refine (rdecode5_any ⟨(swapL 43 32 s.data.toList).toArray⟩ _ hsz).mono ?_
      rintro e w2 ⟨rfl, hb2⟩
      go_wp2
      go_ret
      exact ⟨rfl, by rw [hL]; exact HB.out.trans (hb2.mono (by have := HB.out.size; omega))⟩
end Go.Proofs.YtlfdeenekjklgaaGreatDoor
namespace Go.Proofs.YtlfdeenekjklgaaGreatDoor
open Go.RowKit
set_option linter.unusedSimpArgs false
set_option linter.unusedVariables false
set_option maxRecDepth 1000000
theorem infoStr : (Tryz.prog.info? 9).map (fun i => (i.zero, i.size, i.bytes)) = some (some (.string ByteArray.empty), 1, 16) := by kernel_rfl
theorem info_partsS (h : (Tryz.prog.info? 9).map (fun i => (i.zero, i.size, i.bytes)) = some (some (.string ByteArray.empty), 1, 16)) : ∃ i, Tryz.prog.info? 9 = some i ∧ i.zero = some (.string ByteArray.empty) ∧ i.size = 1 ∧ i.bytes = 16 := by
  obtain ⟨i, hi, he⟩ := Option.map_eq_some_iff.1 h
  simp only [Prod.mk.injEq] at he
  exact ⟨i, hi, he.1, he.2.1, he.2.2⟩
theorem cut_rest (c : UInt8) (l : List UInt8) (h : (Lib.cut l [c]).2.2 = true) : (Lib.cut l [c]).1.length + 1 + (Lib.cut l [c]).2.1.length = l.length := by
  have hge : -1 ≤ Lib.index l [c] := by rw [Lib.index_one]; exact Lib.indexByte_ge _ _
  by_cases hi : Lib.index l [c] = -1
  · have e : Lib.cut l [c] = (l, [], false) := by unfold Lib.cut; rw [if_neg (by omega)]
    rw [e] at h; cases h
  · obtain ⟨i, hi2⟩ : ∃ i : Nat, Lib.index l [c] = i := ⟨(Lib.index l [c]).toNat, by omega⟩
    have e : Lib.cut l [c] = (l.take i, l.drop (i + 1), true) := by unfold Lib.cut; rw [hi2, if_pos (by omega)]; simp
    have hlt : i < l.length := by
      rcases Nat.lt_or_ge i l.length with h1 | h1
      · exact h1
      · exfalso
        have h3 : Lib.index l [c] < l.length := by
          rcases Nat.lt_or_ge (Lib.index l [c]).toNat l.length with h4 | h4
          · omega
          · have h5 := index_lt c l hi
            omega
        omega
    rw [e]
    simp only [List.length_take, List.length_drop]
    omega
set_option maxHeartbeats 4000000 in
theorem rsplit_any (s : ByteArray) (c : UInt8) (w : World) (hs : s.size ≤ 1099511627776) :
    Calls Tryz.prog 73 #[.string s, .int .u8 (c.toNat : Int)] w fun e w' => ∃ v, e = .returned v ∧ w'.ownsRow w.heap.size 9 1 v (Lib.split s.data.toList [c]).length (strV (Lib.split s.data.toList [c])) ∧ Below w.heap.size w w' := by
  obtain ⟨i0, hi, hz0, hz1, hz2⟩ := info_partsS infoStr
  go_enter Tryz.func73, Tryz.ntmps73
  go_wp2
  go_loopw [0, 5] (fun sv v wr => ∃ (t : ByteArray) (done : List (List UInt8)), sv = .string t ∧ done.length + t.size ≤ s.size ∧ done ++ Lib.split t.data.toList [c] = Lib.split s.data.toList [c] ∧ wr.ownsRow w.heap.size 9 1 v done.length (strV done) ∧ Below w.heap.size w wr)
    (fun sv _ _ => match sv with | .string t => t.size | _ => 0)
  case atStart => exact ⟨s, [], rfl, by simp, rfl, World.ownsRow_made w #[] 0 (Nat.le_refl _) (by simp) rfl, (Below.refl _ w).alloc (Nat.le_refl _) _⟩
  case round =>
    obtain ⟨t, done, rfl, hdl, hsp, hown, hbw⟩ := hrel
    have hts : t.size ≤ 140737488351232 := by omega
    obtain ⟨⟨a, r, more⟩, hct⟩ : ∃ q, Lib.cut t.data.toList [c] = q := ⟨_, rfl⟩
    have hstep := split_step c t.data.toList
    rw [hct] at hstep
    have hrest := cut_rest c t.data.toList
    rw [hct, size_list] at hrest
    have hr2 : more = true → a.length + 1 + r.length = t.size := hrest
    have hst2 : more = true → Lib.split t.data.toList [c] = a :: Lib.split r [c] := fun h => by rw [hstep]; exact if_pos h
    have hst3 : more = false → Lib.split t.data.toList [c] = [t.data.toList] := fun h => by rw [hstep]; exact if_neg (by rw [h]; simp)
    have HRE := Lib.hid (And.intro hr2 (And.intro hst2 hst3)); clear hrest hr2 hst2 hst3
    have hsm : done.length + 1 ≤ maxLen := by unfold maxLen; omega
    have hsm2 : (done.length + 1) * 16 ≤ 140737488355328 := by omega
    have HC := Lib.hid (And.intro hct (And.intro hstep (And.intro hsp hdl)))
    clear hct hstep hsp hdl
    go_wp2_with fail
    refine (cut_any t c _ hts).mono ?_
    rintro e w1 ⟨rfl, n1, rfl⟩
    rw [HC.out.1]
    have hown2 : (wr.drewN n1).ownsRow w.heap.size 9 1 _ done.length (strV done) := hown
    have hbw2 := below_drewN hbw n1
    have hbs2 := hbw2.size
    obtain ⟨W1, hW1⟩ : ∃ W1, wr.drewN n1 = W1 := ⟨_, rfl⟩
    rw [hW1] at hown2 hbw2 hbs2 ⊢
    clear hW1 hown hbw
    cases more with
    | true =>
      go_wp2_with (at_builtin; refine wpList_append_own _ rfl (.tmp 17) (.tmp 19) 89 rfl w.heap.size 9 i0 (.string ByteArray.empty) 1 16 Tryz.underlying89 hi hz0 hz1 hz2 rfl (by decide) _ _ _ rfl (hown2.alloc _) ⟨W1.heap.size, 0, none⟩ 1 1 [.string ⟨a.toArray⟩] rfl rfl (cells_new _ _ _) (by simp [Value.oneCell']) hsm hsm2 ?d0 ?_)
      case d0 => simp; omega
      intro v1 w7 hI1 hg7 _
      have hb8 := (hbw2.alloc (by omega) _).grown hg7 (by simp; omega) (fun j hj => (hown2.lt j hj).1)
      have HI1 := Lib.hid hI1; have HB8 := Lib.hid hb8
      clear hI1 hb8 hg7 hown2 hbw2
      go_wp2
      go_roundw
      case rel =>
        have h1 := HRE.out.1 (by first | rfl | trivial)
        refine ⟨⟨r.toArray⟩, done ++ [a], rfl, ?_, ?_, ?_, HB8.out⟩
        · have h2 := HC.out.2.2.2
          rw [← size_list (⟨r.toArray⟩ : ByteArray)]
          simp only [List.length_append, List.length_cons, List.length_nil, List.toList_toArray]
          omega
        · have h3 := HRE.out.2.1 (by first | rfl | trivial)
          rw [← HC.out.2.2.1, h3]
          simp
        · have := HI1.out
          simp only [strV, List.length_append, List.length_cons, List.length_nil, List.map_append, List.map_cons, List.map_nil]
          exact this
      case measure =>
        have h1 := HRE.out.1 (by first | rfl | trivial)
        show (⟨r.toArray⟩ : ByteArray).size < t.size
        rw [← size_list (⟨r.toArray⟩ : ByteArray)]
        simp only [List.toList_toArray]
        omega
    | false =>
      go_wp2_with (at_builtin; refine wpList_append_own _ rfl (.tmp 17) (.tmp 19) 89 rfl w.heap.size 9 i0 (.string ByteArray.empty) 1 16 Tryz.underlying89 hi hz0 hz1 hz2 rfl (by decide) _ _ _ rfl (hown2.alloc _) ⟨W1.heap.size, 0, none⟩ 1 1 [.string ⟨a.toArray⟩] rfl rfl (cells_new _ _ _) (by simp [Value.oneCell']) hsm hsm2 ?d1 ?_)
      case d1 => simp; omega
      intro v1 w7 hI1 hg7 _
      have hb8 := (hbw2.alloc (by omega) _).grown hg7 (by simp; omega) (fun j hj => (hown2.lt j hj).1)
      have HI1 := Lib.hid hI1; have HB8 := Lib.hid hb8
      clear hI1 hb8 hg7 hown2 hbw2
      go_wp2
      go_ret
      have h3 := HRE.out.2.2 (by first | rfl | trivial)
      have ha : a = t.data.toList := by
        have := HC.out.1
        unfold Lib.cut at this
        split at this
        · injection this with _ h; injection h with _ h; cases h
        · injection this with h _; exact h.symm
      refine ⟨v1, rfl, ?_, HB8.out⟩
      have := HI1.out
      rw [← HC.out.2.2.1, h3, ← ha]
      simp only [strV, List.length_append, List.length_cons, List.length_nil, List.map_append, List.map_cons, List.map_nil]
      exact this
end Go.Proofs.YtlfdeenekjklgaaGreatDoor
