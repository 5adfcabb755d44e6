/- RDig, Bry, RPairs, RPairs15, PairsT: texts of the seat, one behind the other (a claim holds at most sixty). Conditions: each theorem names its own. -/
import Derived.Test.YtlfdeenekjklgaaGreatDoorPk19
import Derived.Test.YtlfdeenekjklgaaGreatDoorPk23
import Derived.Maps.AppendAt
namespace Go.Proofs.YtlfdeenekjklgaaGreatDoor
open Go.RowKit
set_option linter.unusedSimpArgs false
set_option linter.unusedVariables false
set_option maxRecDepth 1000000
theorem dec_len20 : ∀ (k n : Nat), n < 10 ^ (k + 1) → (Lib.decDigits n).length ≤ k + 1
  | 0, n, h => by rw [Lib.decDigits, dif_pos (by omega)]; simp
  | k + 1, n, h => by
    rw [Lib.decDigits]
    split
    · simp
    · rw [List.length_append]
      have := dec_len20 k (n / 10) (by rw [Nat.pow_succ] at h; omega)
      simp only [List.length_singleton]
      omega
theorem dec_step (m : Nat) (o : List UInt8) (h0 : m ≠ 0) : Lib.decDigits m ++ o = (if m / 10 = 0 then [] else Lib.decDigits (m / 10)) ++ (UInt8.ofNat (48 + m % 10) :: o) := by
  rw [Lib.decDigits]
  by_cases h : m < 10
  · rw [dif_pos h, if_pos (by omega), Nat.mod_eq_of_lt h]; rfl
  · rw [dif_neg h, if_neg (by omega)]; simp
def DecR (n m : Nat) (o : List UInt8) : Prop := (if m = 0 then [] else Lib.decDigits m) ++ o = Lib.decDigits n
theorem DecR.len {n m : Nat} {o : List UInt8} (h : DecR n m o) (hn : n ≤ 4611703610613432320) : o.length ≤ 20 := by
  have h1 := congrArg List.length h
  rw [List.length_append] at h1
  have := dec_len20 19 n (Nat.lt_of_le_of_lt hn (by decide))
  omega
theorem DecR.step {n m : Nat} {o : List UInt8} (h : DecR n m o) (h0 : m ≠ 0) : DecR n (m / 10) (UInt8.ofNat (48 + m % 10) :: o) := by
  unfold DecR at h ⊢
  rw [if_neg h0, dec_step m o h0] at h
  exact h
theorem digit_cell (d : Nat) (h : d < 10) : IntKind.u8.wrap ((48 + d : Nat) : Int) = ((UInt8.ofNat (48 + d)).toNat : Int) := by
  rw [IntWalk.u8_in _ (by omega)]
  simp; omega
theorem cat_one (c : UInt8) (o : List UInt8) : (⟨#[c]⟩ : ByteArray) ++ (⟨o.toArray⟩ : ByteArray) = ⟨(c :: o).toArray⟩ := by
  refine ba_ext ?_
  simp
theorem w64_small (q : Nat) (h : q ≤ 4611703610613432320) : wrap64 (q : Int) = (q : Int) := IntWalk.wrap64_in _ (by omega)
set_option maxHeartbeats 2000000 in
theorem rdigits_any (n : Nat) (w : World) (hn : n ≤ 4611703610613432320) :
    Calls Tryz.prog 18 #[.int .i64 (n : Int)] w fun e w' => e = .returned (.string ⟨(Lib.decDigits n).toArray⟩) ∧ Below w.heap.size w w' := by
  by_cases h0 : n = 0
  · subst h0
    have hd : Lib.decDigits 0 = [48] := by rw [Lib.decDigits, dif_pos (by omega)]; rfl
    have HD := Lib.hid hd; clear hd
    go_enter Tryz.func18, Tryz.ntmps18
    go_wp2
    go_ret
    rw [HD.out]
    exact ⟨rfl, Below.refl _ _⟩
  · have b0 : ((n : Int) == 0) = false := by simp; omega
    have k0 : (0 : Int) ≤ (n : Int) := Int.natCast_nonneg _
    have hst : DecR n n [] := by unfold DecR; rw [if_neg h0, List.append_nil]
    have HST := Lib.hid (And.intro hst hn)
    clear hst h0 hn
    go_enter Tryz.func18, Tryz.ntmps18
    go_wp2
    go_loopw [0, 4] (fun mv ov wr => ∃ (m : Nat) (o : List UInt8), mv = .int .i64 m ∧ ov = .string ⟨o.toArray⟩ ∧ m ≤ n ∧ DecR n m o ∧ Below w.heap.size w wr) (fun mv _ _ => (intOf mv).toNat)
    case atStart => exact ⟨n, [], rfl, rfl, Nat.le_refl _, HST.out.1, Below.refl _ _⟩
    case round =>
      obtain ⟨m, o, rfl, rfl, hmn, hR, hb⟩ := hrel
      by_cases hm : m = 0
      · subst hm
        have hf : o = Lib.decDigits n := hR
        have HF := Lib.hid hf; clear hf
        clear hR
        go_wp2
        go_ret
        rw [← HF.out]
        exact ⟨rfl, hb⟩
      · have b1 : ((m : Int) != 0) = true := by simp; omega
        have m0 : (0 : Int) ≤ (m : Int) := Int.natCast_nonneg _
        have hlen := hR.len HST.out.2
        have hR2 := hR.step hm
        obtain ⟨d, hd⟩ : ∃ d, m % 10 = d := ⟨_, rfl⟩
        obtain ⟨q, hq⟩ : ∃ q, m / 10 = q := ⟨_, rfl⟩
        have e1 : (m : Int) % 10 = (d : Int) := by omega
        have e2 : (m : Int) / 10 = (q : Int) := by omega
        have d0 : (0 : Int) ≤ (d : Int) := Int.natCast_nonneg _
        have d1 : (d : Int) < 10 := by omega
        have hdl : d < 10 := by omega
        have hqm : q < m := by omega
        rw [hd, hq] at hR2
        obtain ⟨c, hc⟩ : ∃ c, UInt8.ofNat (48 + d) = c := ⟨_, rfl⟩
        have e4 := digit_cell d hdl
        rw [hc] at e4
        rw [hc] at hR2
        have e3 : IntKind.u8.wrap (48 + (d : Int)) = (c.toNat : Int) := by rw [← e4]; congr 1
        have hcells := cells_new wr 5 (Lib.byteCells [c])
        have hcv := run_str_cells (P := Tryz.prog) (wr.alloc (.cells #[.int .u8 (c.toNat : Int)] 5)) 94 5 Tryz.underlying94 Tryz.underlying5 wr.heap.size 0 1 1 [c] rfl (fun j hj => by
          obtain rfl : j = 0 := by simp at hj; omega
          rw [Lib.cell_of_heap (heap_alloc_new wr _)]; rfl) 9 Tryz.underlying9
        have hz : ¬ 9223372036854775807 < 1 + o.length ∧ ¬ 9223372036854775807 < o.length + 1 := by omega
        have hb2 : Below w.heap.size w (wr.alloc (.cells #[.int .u8 (c.toNat : Int)] 5)) := hb.alloc hb.size _
        have hwq := w64_small q (by have := HST.out.2; omega)
        have hqn : q ≤ n := by omega
        have HX := Lib.hid (And.intro hR2 (And.intro hb2 (And.intro hwq (And.intro hqn hqm))))
        clear hwq hqn hqm hmn
        clear hR hR2 hb2 hd hq hc e4 hcells hm hb
        go_wp2
        refine ⟨⟨q, c :: o, by rw [HX.out.2.2.1], by rw [cat_one], HX.out.2.2.2.1, HX.out.1, HX.out.2.1⟩, ?_⟩
        rw [HX.out.2.2.1]
        have := HX.out.2.2.2.2
        simp [intOf]
        omega
end Go.Proofs.YtlfdeenekjklgaaGreatDoor
namespace Go.Proofs.YtlfdeenekjklgaaGreatDoor
open Go.RowKit
set_option linter.unusedSimpArgs false
set_option linter.unusedVariables false
set_option maxRecDepth 1000000
theorem form_l (d : List UInt8) : (⟨#[102, 111, 114, 109]⟩ : ByteArray) ++ (⟨d.toArray⟩ : ByteArray) = ⟨(102 :: 111 :: 114 :: 109 :: d).toArray⟩ := by
  refine ba_ext ?_
  simp
theorem dec_bd (n : Nat) (h : n ≤ 4611703610613432320) : (Lib.decDigits n).length ≤ 20 := dec_len20 19 n (Nat.lt_of_le_of_lt h (by decide))
theorem form_bd (n : Nat) (h : n ≤ 20) : ¬ 9223372036854775807 < 4 + n ∧ ¬ 9223372036854775807 < n + 4 ∧ ¬ 9223372036854775807 < 2 + (4 + n) ∧ ¬ 9223372036854775807 < 2 + (n + 4) ∧ ¬ 9223372036854775807 < n + 1 + 1 + 1 + 1 ∧ ¬ 9223372036854775807 < 2 + (n + 1 + 1 + 1 + 1) := by omega
theorem w64big (i : Nat) (h : i ≤ 4611703610613432320) : wrap64 ((i : Int) + 1) = (i : Int) + 1 := by unfold wrap64; omega
theorem sstood_form (v : Value) (l : List Prt) (d : List UInt8) (m : Int) (w : World) (hT : totQ l ≤ 1048576) (hN : l.length ≤ 1048576) (h : PrtsIn w v l) (hm : w.cell? ⟨2, 0, none⟩ = some (.int .i64 m)) :
    Calls Tryz.prog 47 #[v, .string ((⟨#[45, 45]⟩ : ByteArray) ++ ((⟨#[102, 111, 114, 109]⟩ : ByteArray) ++ (⟨d.toArray⟩ : ByteArray)))] w fun e w' => e = .returned (.bool (stood l (45 :: 45 :: 102 :: 111 :: 114 :: 109 :: d))) ∧ Below w.heap.size w w' := by
  rw [form_l, dash_l]
  exact sstood_any v l _ m w (Nat.le_trans hT (by decide)) (Nat.le_trans hN (by decide)) h hm
theorem rstood_form (v : Value) (l : List Prt) (d : List UInt8) (w : World) (hT : totQ l ≤ 1048576) (hN : l.length ≤ 1048576) (hd : d.length ≤ 20) (h : PrtsIn w v l) :
    Calls Tryz.prog 53 #[v, .string ((⟨#[102, 111, 114, 109]⟩ : ByteArray) ++ (⟨d.toArray⟩ : ByteArray))] w fun e w' => e = .returned (.bool (stood l (45 :: 45 :: 102 :: 111 :: 114 :: 109 :: d))) ∧ Below w.heap.size w w' := by
  rw [form_l]
  exact rstood_any v l _ w (Nat.le_trans hT (by decide)) (Nat.le_trans hN (by decide)) (by simp only [List.length_cons]; omega) h
set_option maxHeartbeats 2000000 in
theorem sbry_any (v : Value) (l : List Prt) (m : Int) (N : Nat) (w : World) (hT : totQ l ≤ 1048576) (hN : l.length ≤ 1048576) (hNb : N ≤ 4611703610613432320) (hno : stood l (45 :: 45 :: mkN N) = false) (hyes : ∀ j, j < N → stood l (45 :: 45 :: mkN j) = true)
    (h : PrtsIn w v l) (hp : PowAt w) (hm : w.cell? ⟨2, 0, none⟩ = some (.int .i64 m)) :
    Calls Tryz.prog 20 #[v] w fun e w' => e = .returned (.string ⟨(mkN N).toArray⟩) ∧ Below w.heap.size w w' := by
  have HH := Lib.hid (And.intro hT (And.intro hN (And.intro h (And.intro hp hm))))
  have HN := Lib.hid (And.intro hNb (And.intro hno hyes))
  clear hT hN h hp hm hNb hno hyes
  go_enter Tryz.func20, Tryz.ntmps20
  go_wp2
  go_loopw [3] (fun iv wr => ∃ i : Nat, iv = .int .i64 i ∧ i ≤ N ∧ Below w.heap.size w wr) (fun iv _ => N - (intOf iv).toNat)
  case atStart => exact ⟨0, rfl, Nat.zero_le _, Below.refl _ _⟩
  case round =>
    obtain ⟨i, rfl, hi, hb⟩ := hrel
    have hib := Nat.le_trans hi HN.out.1
    have hwi := w64big i hib
    obtain ⟨d, hd⟩ : ∃ d, Lib.decDigits i = d := ⟨_, rfl⟩
    have hdl := dec_bd i hib
    rw [hd] at hdl
    have hf := form_bd _ hdl
    have hmk : mkN i = 102 :: 111 :: 114 :: 109 :: d := by unfold mkN; rw [hd]
    have hc := odigits_any i wr hib (HH.out.2.2.2.1.below hb)
    rw [hd] at hc
    have HC := Lib.hid hc
    have HW := Lib.hid hwi
    have HB := Lib.hid hb
    have HI := Lib.hid hi
    have HM := Lib.hid hmk
    clear hc hwi hb hi hib hd hdl hmk
    go_wp2_with fail
    refine (HC.out).mono ?_
    rintro e w1 ⟨rfl, hb1⟩
    have hb2 := HB.out.trans (hb1.mono HB.out.size)
    have hmx := mx_later (B := 0) HH.out.2.2.2.2 hb2
    have HB2 := Lib.hid hb2
    have HX := Lib.hid hmx
    clear hb1 hb2 hmx
    go_wp2_with fail
    refine (sstood_form v l d m w1 HH.out.1 HH.out.2.1 (HH.out.2.2.1.below HB2.out) HX.out).mono ?_
    rintro e w2 ⟨rfl, hb3⟩
    rw [← HM.out]
    have hb4 := HB2.out.trans (hb3.mono HB2.out.size)
    have HB4 := Lib.hid hb4
    clear hb3 hb4
    cases hst : stood l (45 :: 45 :: mkN i) with
    | false =>
      have hiN : i = N := by
        rcases Nat.lt_or_ge i N with h1 | h1
        · rw [HN.out.2.2 i h1] at hst; cases hst
        · have := HI.out; omega
      have HE := Lib.hid hiN
      clear hst hiN
      go_wp2
      go_ret
      rw [form_l, ← HM.out, HE.out]
      exact ⟨rfl, HB4.out⟩
    | true =>
      have hiN : i < N := by
        rcases Nat.lt_or_ge i N with h1 | h1
        · exact h1
        · have := HI.out
          obtain rfl : i = N := by omega
          rw [HN.out.2.1] at hst; cases hst
      have HE := Lib.hid hiN
      clear hst hiN
      go_wp2
      have hwi := HW.out
      have hlt := HE.out
      go_roundw
      case rel => (try rw [hwi]); clear hwi; exact ⟨i + 1, by go_num, hlt, HB4.out⟩
      case measure => (try rw [hwi]); clear hwi; simp [intOf]; omega
set_option maxHeartbeats 2000000 in
theorem rbry_any (v : Value) (l : List Prt) (N : Nat) (w : World) (hT : totQ l ≤ 1048576) (hN : l.length ≤ 1048576) (hNb : N ≤ 4611703610613432320) (hno : stood l (45 :: 45 :: mkN N) = false) (hyes : ∀ j, j < N → stood l (45 :: 45 :: mkN j) = true)
    (h : PrtsIn w v l) :
    Calls Tryz.prog 23 #[v] w fun e w' => e = .returned (.string ⟨(mkN N).toArray⟩) ∧ Below w.heap.size w w' := by
  have HH := Lib.hid (And.intro hT (And.intro hN h))
  have HN := Lib.hid (And.intro hNb (And.intro hno hyes))
  clear hT hN h hNb hno hyes
  go_enter Tryz.func23, Tryz.ntmps23
  go_wp2
  go_loopw [3] (fun iv wr => ∃ i : Nat, iv = .int .i64 i ∧ i ≤ N ∧ Below w.heap.size w wr) (fun iv _ => N - (intOf iv).toNat)
  case atStart => exact ⟨0, rfl, Nat.zero_le _, Below.refl _ _⟩
  case round =>
    obtain ⟨i, rfl, hi, hb⟩ := hrel
    have hib := Nat.le_trans hi HN.out.1
    have hwi := w64big i hib
    obtain ⟨d, hd⟩ : ∃ d, Lib.decDigits i = d := ⟨_, rfl⟩
    have hdl := dec_bd i hib
    rw [hd] at hdl
    have hf := form_bd _ hdl
    have hmk : mkN i = 102 :: 111 :: 114 :: 109 :: d := by unfold mkN; rw [hd]
    have hc := rdigits_any i wr hib
    rw [hd] at hc
    have HC := Lib.hid hc
    have HW := Lib.hid hwi
    have HB := Lib.hid hb
    have HI := Lib.hid hi
    have HM := Lib.hid hmk
    have HL := Lib.hid hdl
    clear hc hwi hb hi hib hd hdl hmk
    go_wp2_with fail
    refine (HC.out).mono ?_
    rintro e w1 ⟨rfl, hb1⟩
    have hb2 := HB.out.trans (hb1.mono HB.out.size)
    have HB2 := Lib.hid hb2
    clear hb1 hb2
    go_wp2_with fail
    refine (rstood_form v l d w1 HH.out.1 HH.out.2.1 HL.out (HH.out.2.2.below HB2.out)).mono ?_
    rintro e w2 ⟨rfl, hb3⟩
    rw [← HM.out]
    have hb4 := HB2.out.trans (hb3.mono HB2.out.size)
    have HB4 := Lib.hid hb4
    clear hb3 hb4
    cases hst : stood l (45 :: 45 :: mkN i) with
    | false =>
      have hiN : i = N := by
        rcases Nat.lt_or_ge i N with h1 | h1
        · rw [HN.out.2.2 i h1] at hst; cases hst
        · have := HI.out; omega
      have HE := Lib.hid hiN
      clear hst hiN
      go_wp2
      go_ret
      rw [form_l, ← HM.out, HE.out]
      exact ⟨rfl, HB4.out⟩
    | true =>
      have hiN : i < N := by
        rcases Nat.lt_or_ge i N with h1 | h1
        · exact h1
        · have := HI.out
          obtain rfl : i = N := by omega
          rw [HN.out.2.1] at hst; cases hst
      have HE := Lib.hid hiN
      clear hst hiN
      go_wp2
      have hwi := HW.out
      have hlt := HE.out
      go_roundw
      case rel => (try rw [hwi]); clear hwi; exact ⟨i + 1, by go_num, hlt, HB4.out⟩
      case measure => (try rw [hwi]); clear hwi; simp [intOf]; omega
end Go.Proofs.YtlfdeenekjklgaaGreatDoor
namespace Go.Proofs.YtlfdeenekjklgaaGreatDoor
open Go.RowKit
set_option linter.unusedSimpArgs false
set_option linter.unusedVariables false
set_option maxRecDepth 1000000
theorem infoRPar : (Tryz.prog.info? 85).map (fun i => (i.zero, i.size, i.bytes)) = some (some (.agg #[.string ByteArray.empty, .string ByteArray.empty, .bool false]), 3, 40) := by kernel_rfl
theorem info_partsP (h : (Tryz.prog.info? 85).map (fun i => (i.zero, i.size, i.bytes)) = some (some (.agg #[.string ByteArray.empty, .string ByteArray.empty, .bool false]), 3, 40)) : ∃ i, Tryz.prog.info? 85 = some i ∧ i.zero = some (.agg #[.string ByteArray.empty, .string ByteArray.empty, .bool false]) ∧ i.size = 3 ∧ i.bytes = 40 := by
  obtain ⟨i, hi, he⟩ := Option.map_eq_some_iff.1 h
  simp only [Prod.mk.injEq] at he
  exact ⟨i, hi, he.1, he.2.1, he.2.2⟩
theorem parsOf_append (a b : List (List UInt8)) : parsOf (a ++ b) = parsOf a ++ parsOf b := by
  induction a with
  | nil => rfl
  | cons p r ih =>
    simp only [List.cons_append, parsOf, ih]
    by_cases h : p = []
    · rw [if_pos h, if_pos h]
    · rw [if_neg h, if_neg h]; rfl
theorem parsOf_len (a : List (List UInt8)) : (parsOf a).length ≤ a.length := by
  induction a with
  | nil => exact Nat.le_refl _
  | cons p r ih =>
    simp only [parsOf]
    by_cases h : p = []
    · rw [if_pos h]; simp; omega
    · rw [if_neg h]; simp; omega
theorem split_len (c : UInt8) (n : Nat) : ∀ (l : List UInt8), l.length ≤ n → (Lib.split l [c]).length ≤ l.length + 1 ∧ Lib.split l [c] ≠ [] ∧ ∀ p ∈ Lib.split l [c], p.length ≤ l.length := by
  induction n with
  | zero =>
    intro l hl
    obtain rfl : l = [] := List.eq_nil_of_length_eq_zero (by omega)
    rw [split_step, cut_none c [] (fun j hj => by simp at hj)]
    simp
  | succ n ih =>
    intro l hl
    rw [split_step]
    by_cases h : (Lib.cut l [c]).2.2 = true
    · rw [if_pos h]
      have hc := cut_rest c l h
      obtain ⟨h1, h2, h3⟩ := ih (Lib.cut l [c]).2.1 (by omega)
      refine ⟨by simp only [List.length_cons]; omega, by simp, fun p hp => ?_⟩
      rcases List.mem_cons.1 hp with rfl | hp
      · omega
      · have := h3 p hp; omega
    · rw [if_neg h]
      exact ⟨by simp, by simp, fun p hp => by obtain rfl : p = l := by simpa using hp
                                              exact Nat.le_refl _⟩
theorem cut_len (c : UInt8) (l : List UInt8) : (Lib.cut l [c]).1.length ≤ l.length ∧ (Lib.cut l [c]).2.1.length ≤ l.length := by
  by_cases h : (Lib.cut l [c]).2.2 = true
  · have := cut_rest c l h; omega
  · unfold Lib.cut at h ⊢
    split
    · rename_i hi; rw [if_pos hi] at h; exact absurd rfl h
    · exact ⟨Nat.le_refl _, Nat.zero_le _⟩
theorem le_i (i n s : Nat) (h : i < n) (hn : n ≤ s + 1) (hs : s ≤ 1099511627776) : i ≤ 2199023255552 := by omega
theorem le_i1 (i n s : Nat) (h : i < n) (hn : n ≤ s + 1) : i ≤ s + 1 := by omega
theorem small40 (a n s : Nat) (ha : a ≤ n) (hn : n ≤ s + 1) (hs : s ≤ 1099511627776) : a + 1 ≤ maxLen ∧ (a + 1) * 40 ≤ 140737488355328 ∧ s ≤ 140737488351232 := by unfold maxLen; omega
theorem le_mem (p s : Nat) (h : p ≤ s) (hs : s ≤ 1099511627776) : p ≤ 140737488351232 := by omega
set_option maxHeartbeats 4000000 in
theorem rpairs5_any (s : ByteArray) (w : World) (hs : s.size ≤ 1099511627776) :
    Calls Tryz.prog 32 #[.string s] w fun e w' => ∃ v, e = .returned v ∧ w'.ownsRow w.heap.size 85 3 v (parsOf (Lib.split s.data.toList [38])).length (parsV (parsOf (Lib.split s.data.toList [38]))) ∧ Below w.heap.size w w' := by
  obtain ⟨i0, hi, hz0, hz1, hz2⟩ := info_partsP infoRPar
  obtain ⟨L, hL⟩ : ∃ L, w.heap.size = L := ⟨_, rfl⟩
  obtain ⟨pc, hpc⟩ : ∃ pc, Lib.split s.data.toList [38] = pc := ⟨_, rfl⟩
  have hsl := split_len 38 s.data.toList.length s.data.toList (Nat.le_refl _)
  rw [hpc, size_list] at hsl
  go_enter Tryz.func32, Tryz.ntmps32
  go_wp2_with fail
  refine (rsplit_any s 38 _ hs).mono ?_
  rintro e w1 ⟨v1, rfl, hown1, hb1⟩
  rw [hpc] at hown1
  obtain ⟨g, cap, rfl, hg, hat⟩ := strs_of_own hown1 hsl.2.1
  have hgL : L < g := by simp at hg; omega
  have hmade := World.ownsRow_made (e := 85) (size := 3) w #[] 0 (Nat.le_refl _) (by simp) rfl
  have hout := hmade.kept (grown_of_below hb1) (Or.inr (by simp [Value.ownBlock]))
  rw [hL] at hout
  have hb1' : Below L w w1 := by rw [← hL]; exact ((Below.refl _ w).alloc (Nat.le_refl _) _).trans (hb1.mono (by simp))
  have HOUT := Lib.hid hout; have HAT := Lib.hid hat; have HB1 := Lib.hid hb1'; have HSL := Lib.hid (And.intro hsl hpc); have HG := Lib.hid hg
  clear hout hat hb1' hsl hpc hmade hown1 hb1 hg
  go_wp2
  go_loopw [5, 3] (fun iv v wr => ∃ i : Nat, iv = .int .i64 i ∧ i ≤ pc.length ∧ v.ownBlock ≠ some g ∧ wr.ownsRow L 85 3 v (parsOf (pc.take i)).length (parsV (parsOf (pc.take i))) ∧ StrsAt wr g pc ∧ Below L w wr)
    (fun i _ _ => pc.length - (intOf i).toNat)
  case atStart => exact ⟨0, rfl, Nat.zero_le _, by simp [Value.ownBlock]; omega, HOUT.out, HAT.out, HB1.out⟩
  case round =>
    clear HOUT HAT HB1
    obtain ⟨i, rfl, hi1, hne, hown, hat, hb⟩ := hrel
    by_cases hlt : i < pc.length
    · obtain ⟨p, hp⟩ : ∃ p, pc[i]? = some p := ⟨_, List.getElem?_eq_getElem hlt⟩
      have hcell := hat.2 i p hp
      obtain ⟨P, hP⟩ : ∃ P, (⟨p.toArray⟩ : ByteArray) = P := ⟨_, rfl⟩
      have hPl : P.data.toList = p := by rw [← hP]
      rw [hP] at hcell
      clear hP
      have htk : pc.take (i + 1) = pc.take i ++ [p] := by rw [List.take_add_one, hp]; rfl
      have hpl : p.length ≤ s.size := by rw [← size_list]; have := HSL.out.1.2.2 p (List.mem_of_getElem? hp); rw [size_list]; exact this
      have hlen := parsOf_len (pc.take i)
      rw [List.length_take, Nat.min_eq_left hi1] at hlen
      have hsmall := small40 (parsOf (pc.take i)).length i s.size hlen (le_i1 i pc.length s.size hlt HSL.out.1.1) hs
      have k0 : (0 : Int) ≤ (i : Int) := by omega
      have k1 : (i : Int) < (pc.length : Int) := by omega
      have hwi := wrap64_small i (le_i i pc.length s.size hlt HSL.out.1.1 hs)
      have hLw : L ≤ wr.heap.size := by have h5 : g < wr.heap.size := hat.1; omega
      by_cases hpe : p = []
      · have hemp2 : P.toList.isEmpty = true := by rw [ByteArray.toList_eq, hPl, hpe]; rfl
        have hst : parsOf (pc.take (i + 1)) = parsOf (pc.take i) := by rw [htk, parsOf_append, hpe]; simp [parsOf]
        have HX := Lib.hid (And.intro hst (And.intro hne (And.intro hown (And.intro hat hb))))
        clear hst htk hne hown hat hb hpl hlen hsmall hp hpe hPl
        go_wp2
        go_roundw
        case rel => (try rw [hwi]); clear hwi; exact ⟨i + 1, by go_num, by omega, HX.out.2.1, by rw [HX.out.1]; exact HX.out.2.2.1, HX.out.2.2.2.1, HX.out.2.2.2.2⟩
        case measure => (try rw [hwi]); clear hwi; simp [intOf]; omega
      · have hemp2 : P.toList.isEmpty = false := by
          rw [ByteArray.toList_eq, hPl]
          cases p with
          | nil => exact absurd rfl hpe
          | cons => rfl
        have hst : parsOf (pc.take (i + 1)) = parsOf (pc.take i) ++ [parOf p] := by rw [htk, parsOf_append]; simp [parsOf, hpe]
        have HX := Lib.hid (And.intro hst (And.intro hp hpl))
        clear hst htk hlen hp hpl
        obtain ⟨⟨ca, cb, cm⟩, hct⟩ : ∃ q, Lib.cut p [61] = q := ⟨_, rfl⟩
        have hcl := cut_len 61 p
        rw [hct] at hcl
        have hpo : parOf p = (spc ca, spc cb, cm) := by unfold parOf; rw [hct]
        have hsp : p.length ≤ s.size := HX.out.2.2
        have zp : P.size ≤ 140737488351232 := by rw [← size_list, hPl]; exact le_mem _ _ hsp hs
        have za : (⟨ca.toArray⟩ : ByteArray).size ≤ 140737488351232 := by rw [← size_list]; exact le_mem _ _ (Nat.le_trans hcl.1 hsp) hs
        have zb : (⟨cb.toArray⟩ : ByteArray).size ≤ 140737488351232 := by rw [← size_list]; exact le_mem _ _ (Nat.le_trans hcl.2 hsp) hs
        have HCT := Lib.hid (And.intro hct hpo); have HPL := Lib.hid hPl
        clear hct hcl hpo hsp hPl hpe
        go_wp2_with fail
        refine (cut_any P 61 _ zp).mono ?_
        rintro e w2 ⟨rfl, n2, rfl⟩
        rw [HPL.out, HCT.out.1]
        go_wp2_with fail
        refine (spaced_any ⟨ca.toArray⟩ _ za).mono ?_
        rintro e w3 ⟨rfl, hb3⟩
        go_wp2_with fail
        refine (spaced_any ⟨cb.toArray⟩ _ zb).mono ?_
        rintro e w4 ⟨rfl, hb4⟩
        have hb5 : Below wr.heap.size wr w4 := (below_drewN (Below.refl wr.heap.size wr) n2).trans (hb3.trans (hb4.mono hb3.size))
        have hown4 := hown.kept (grown_of_below hb5) (Classical.em _)
        have hat4 := strsAt_grown hat (grown_of_below hb5) (by simp)
        have hb6 : Below L w w4 := hb.trans (hb5.mono hLw)
        have hs5 := hb5.size
        have hbs4 : L ≤ w4.heap.size := Nat.le_trans hLw hs5
        have HAT := Lib.hid hat4; have HNE := Lib.hid hne
        clear hat hown hb hb3 hb4 hb5 hat4 hne
        go_wp2_with (at_builtin; refine wpList_append_own_at _ rfl (.tmp 32) (.tmp 39) 37 rfl L 85 i0 (.agg #[.string ByteArray.empty, .string ByteArray.empty, .bool false]) 3 40 Tryz.underlying37 hi hz0 hz1 hz2 rfl (by decide) _ _ _ rfl (hown4.alloc _) ⟨w4.heap.size, 0, none⟩ 1 1 [.string ⟨(spc ca).toArray⟩, .string ⟨(spc cb).toArray⟩, .bool cm] rfl rfl (cells_new _ _ _) (by simp [Value.oneCell']) hsmall.1 hsmall.2.1 ?d0 ?_)
        case d0 => clear hwi; simp; omega
        intro v1 w7 hI1 hg7 _ hloc
        have hb8 := (hb6.alloc hbs4 _).grown hg7 (by clear hwi; simp; omega) (fun j hj => (hown4.lt j hj).1)
        have hat8 : StrsAt w7 g pc := strsAt_grown (row := _) (strsAt_below HAT.out ((Below.refl w4.heap.size w4).alloc (Nat.le_refl _) _) HAT.out.1) hg7 (fun e => HNE.out e.symm)
        have hne8 : v1.ownBlock ≠ some g := by
          rcases hloc with h | h
          · rw [h]; exact HNE.out
          · rw [h]; intro e; injection e with e; have h5 : g < w4.heap.size := HAT.out.1; clear hwi; first | omega | (rw [World.size_alloc] at e; omega)
        rw [show [Value.string ⟨(spc ca).toArray⟩, .string ⟨(spc cb).toArray⟩, .bool cm] = parV (parOf p) from by rw [HCT.out.2]; rfl, ← parsV_snoc] at hI1
        have HI1 := Lib.hid hI1; have HB8 := Lib.hid (And.intro hb8 (And.intro hat8 hne8))
        clear hI1 hb8 hg7 hown4 hb6 hat8 hne8 hloc
        go_wp2
        go_roundw
        case rel =>
          try rw [hwi]
          clear hwi
          refine ⟨i + 1, by go_num, by omega, HB8.out.2.2, ?_, HB8.out.2.1, HB8.out.1⟩
          rw [HX.out.1, List.length_append]
          exact HI1.out
        case measure => (try rw [hwi]); clear hwi; simp [intOf]; omega
    · obtain rfl : i = pc.length := by omega
      rw [List.take_length] at hown
      have HX := Lib.hid (And.intro hown hb)
      clear hown hb hat hne
      go_wp2
      go_ret
      refine ⟨_, rfl, ?_, by rw [hL]; exact HX.out.2⟩
      rw [hL, HSL.out.2]
      exact HX.out.1
end Go.Proofs.YtlfdeenekjklgaaGreatDoor
namespace Go.Proofs.YtlfdeenekjklgaaGreatDoor
open Go.RowKit
set_option linter.unusedSimpArgs false
set_option linter.unusedVariables false
set_option maxRecDepth 1000000
theorem own_mono {w : World} {base base' : Nat} {e : TypeId} {size : Nat} {v : Value} {n : Nat} {xs : List Value} (h : w.ownsRow base e size v n xs) (hb : base' ≤ base) : w.ownsRow base' e size v n xs :=
  ⟨h.1, h.2.imp id (fun ⟨g, cap, cur, a, b, c⟩ => ⟨g, cap, cur, a, Nat.le_trans hb b, c⟩)⟩
def PairsPost (s : ByteArray) (T : TypeId) (w : World) (e : Ending) (w' : World) : Prop := ∃ v, e = .returned (.tuple #[v, .int .i64 ((prsP s.data.toList).2.1 : Nat), .int .i64 ((prsP s.data.toList).2.2 : Nat)]) ∧ w'.ownsRow w.heap.size T 3 v (prsP s.data.toList).1.length (parsV (prsP s.data.toList).1) ∧ Below w.heap.size w w'
theorem le_4047 (n : Nat) (h : n ≤ 1099511627776) : n ≤ 140737488351232 := by omega
theorem rpairs15_any (s : ByteArray) (w : World) (hs : s.size ≤ 1099511627776) : Calls Tryz.prog 13 #[.string s] w (PairsPost s 85 w) := by
  have hs47 := le_4047 _ hs
  obtain ⟨⟨x, at_, no⟩, hd⟩ : ∃ q, pdec s.data.toList = q := ⟨_, rfl⟩
  by_cases h0 : no = 0
  · have hp : prsP s.data.toList = (parsOf (Lib.split s.data.toList [38]), 0, 0) := by unfold prsP; rw [hd]; rw [if_neg (by simp [h0])]
    have hz : ((no : Int) != 0) = false := by simp [h0]
    have HP := Lib.hid (And.intro hp hd); clear hp hd h0
    go_enter Tryz.func13, Tryz.ntmps13
    go_wp2_with fail
    refine (rdecode5_any s _ hs47).mono ?_
    rintro e w1 ⟨rfl, hb1⟩
    rw [HP.out.2]
    go_wp2_with fail
    refine (rpairs5_any s _ hs).mono ?_
    rintro e w2 ⟨v, rfl, hown, hb2⟩
    go_wp2
    go_ret3
    unfold PairsPost
    rw [HP.out.1]
    exact ⟨v, rfl, own_mono hown hb1.size, hb1.trans (hb2.mono hb1.size)⟩
  · have hp : prsP s.data.toList = ([], at_, 51) := by unfold prsP; rw [hd]; rw [if_pos (by simpa using h0)]
    have hz : ((no : Int) != 0) = true := by simp; omega
    have HP := Lib.hid (And.intro hp hd); clear hp hd h0
    go_enter Tryz.func13, Tryz.ntmps13
    go_wp2_with fail
    refine (rdecode5_any s _ hs47).mono ?_
    rintro e w1 ⟨rfl, hb1⟩
    rw [HP.out.2]
    go_wp2
    go_ret3
    unfold PairsPost
    rw [HP.out.1]
    exact ⟨_, rfl, own_mono (World.ownsRow_made (e := 85) (size := 3) w1 #[] 0 (Nat.le_refl _) (by simp) rfl) hb1.size, hb1.alloc hb1.size _⟩
end Go.Proofs.YtlfdeenekjklgaaGreatDoor
namespace Go.Proofs.YtlfdeenekjklgaaGreatDoor
open Go.RowKit
set_option linter.unusedSimpArgs false
set_option linter.unusedVariables false
set_option maxRecDepth 1000000
theorem le_3132 (n : Nat) (h : n ≤ 2147483648) : n < 4294967281 := by omega
theorem le_3147 (n c : Nat) (h : n ≤ 2147483648) (hc : c ≤ n) : n + c * 1 ≤ 140737488355328 := by omega
theorem le_31_47 (n : Nat) (h : n ≤ 2147483648) : n ≤ 140737488351232 := by omega
theorem swapL_len (a b : UInt8) (l : List UInt8) : (swapL a b l).length = l.length := by simp [swapL]
theorem text_any (s : ByteArray) (m : Int) (w : World) (hs : s.size ≤ 2147483648) (hm : w.cell? ⟨2, 0, none⟩ = some (.int .i64 m)) :
    Calls Tryz.prog 38 #[.string s] w fun e w' => e = .returned (.string ⟨(spc s.data.toList).toArray⟩) ∧ Below w.heap.size w w' := by
  have h32 := le_3132 _ hs
  have hcnt : Lib.countB s ⟨#[43]⟩ ≤ s.size := Lib.countB_le ⟨#[43]⟩ (by decide) s.size s (Nat.le_refl _)
  have hlen := le_3147 s.size _ hs hcnt
  have hsz : (⟨(swapL 43 32 s.data.toList).toArray⟩ : ByteArray).size ≤ 140737488351232 := by rw [← size_list]; show (swapL 43 32 s.data.toList).length ≤ _; rw [swapL_len, size_list]; exact le_31_47 _ hs
  go_enter Tryz.func38, Tryz.ntmps38
  go_wp2_with fail
  refine (Tryz.strings_ReplaceAll s ⟨#[43]⟩ ⟨#[32]⟩ m _ h32 hm (by decide) hlen).mono ?_
  rintro e w1 ⟨rfl, hb1⟩
  rw [show Lib.replaceAll s.data.toList (⟨#[43]⟩ : ByteArray).data.toList (⟨#[32]⟩ : ByteArray).data.toList = swapL 43 32 s.data.toList from replaceAll_swap 43 32 _]
  go_wp2_with fail
  refine (tdecode_any ⟨(swapL 43 32 s.data.toList).toArray⟩ _ hsz).mono ?_
  rintro e w2 ⟨rfl, hb2⟩
  go_wp2
  go_ret
  exact ⟨rfl, hb1.trans (hb2.mono hb1.size)⟩
end Go.Proofs.YtlfdeenekjklgaaGreatDoor
