/- The walks of accept.named, accept.codingLiking and the reference's CodingLiking: the plain functions namP, codP, codG. Conditions: at most 2^30 words; names of at most 2^40 bytes. -/
import Derived.Test.YthnniiakmjonjaaDoorSam
import Derived.Test.YthnniiakmjonjaaDoorCodP
import Derived.Test.YthnniiakmjonjaaDoorMda
namespace Go.Proofs.YthnniiakmjonjaaDoor
open Go.RowKit
set_option linter.unusedSimpArgs false
set_option linter.unusedVariables false
set_option maxRecDepth 1000000
theorem wIs_step (n : List UInt8) (l : List Wgt) (i : Nat) (p : Wgt) (h : l[i]? = some p) (ha : (l.take i).any (wIs n) = false) (hp : wIs n p = false) : (l.take (i + 1)).any (wIs n) = false := by rw [take_any _ _ _ _ h, ha, hp]; rfl
def nmV (o : Option Int) : Value := .tuple #[.int .i64 (o.getD 0), .bool o.isSome]
def WLen (l : List Wgt) : Prop := ∀ (i : Nat) (p : Wgt), l[i]? = some p → p.1.length ≤ 1099511627776
set_option maxHeartbeats 4000000 in
theorem named_any (v : Value) (l : List Wgt) (n : List UInt8) (w : World) (hN : l.length ≤ 1073741824) (hs : WLen l) (hn : n.length ≤ 1099511627776) (h : WgtsIn w v l) :
    Calls Tryd.prog 101 #[v, .string ⟨n.toArray⟩] w fun e w' => e = .returned (nmV (namP n l)) ∧ Below w.heap.size w w' := by
  obtain ⟨ao, cap, rfl, hat⟩ := h
  have HAT := Lib.hid hat; have HS := Lib.hid hs; have HN := Lib.hid hn
  clear hat hs hn
  go_enter Tryd.func101, Tryd.ntmps101
  go_wp2
  go_loopw [10] (fun iv wr => ∃ i : Nat, iv = .int .i64 i ∧ i ≤ l.length ∧ (l.take i).any (wIs n) = false ∧ Below w.heap.size w wr) (fun iv _ => l.length - (intOf iv).toNat)
  case atStart => exact ⟨0, rfl, Nat.zero_le _, rfl, Below.refl _ _⟩
  case round =>
    obtain ⟨i, rfl, hi, hno, hb⟩ := hrel
    by_cases hlt : i < l.length
    · obtain ⟨p, hp⟩ : ∃ p, l[i]? = some p := ⟨_, List.getElem?_eq_getElem hlt⟩
      obtain ⟨g, o, rfl, _, c0, c1⟩ := HAT.out.below hb i p hp
      have k0 : (0 : Int) ≤ (i : Int) := Int.natCast_nonneg _
      have k1 : (i : Int) < (l.length : Int) := by omega
      have hwi := wrap64_small i (small30 i _ hi hN)
      have hpl := HS.out i p hp
      obtain ⟨p1, p2⟩ := p
      simp only at c0 c1 hpl
      have hb2 := hb.alloc hb.size (.cells #[.string ⟨p1.toArray⟩, .int .i64 p2] 85)
      have S1 := fun w => osame_any p1 n w hpl HN.out
      have HB2 := Lib.hid hb2; have HW := Lib.hid hwi; have HNO := Lib.hid hno; have HP := Lib.hid hp
      clear hb hb2 hwi hno hp hpl
      cases hsm : sameL p1 n with
      | false =>
        have HST := Lib.hid (wIs_step n l i _ HP.out HNO.out (show wIs n (p1, p2) = false from hsm))
        rw [hsm] at S1
        have HS1 := Lib.hid S1
        clear S1 hsm
        go_wp2_with fail
        refine (HS1.out _).mono ?_
        rintro e w3 ⟨rfl, hb3⟩
        have HB3 := Lib.hid (HB2.out.trans (hb3.mono HB2.out.size))
        clear hb3
        go_wp2
        have hwi := HW.out
        go_roundw
        case rel => (try rw [hwi]); clear hwi; exact ⟨i + 1, by go_num, hlt, HST.out, HB3.out⟩
        case measure => (try rw [hwi]); clear hwi; simp [intOf]; omega
      | true =>
        have HST := Lib.hid (namP_at n l i _ HP.out HNO.out (show wIs n (p1, p2) = true from hsm))
        rw [hsm] at S1
        have HS1 := Lib.hid S1
        clear S1 hsm
        go_wp2_with fail
        refine (HS1.out _).mono ?_
        rintro e w3 ⟨rfl, hb3⟩
        have HB3 := Lib.hid (HB2.out.trans (hb3.mono HB2.out.size))
        have e1 : w3.cell? ⟨wr.heap.size, 1, none⟩ = some (.int .i64 p2) := ((blkIs_new wr #[.string ⟨p1.toArray⟩, .int .i64 p2] 85).later hb3).cell 1 _ rfl
        clear hb3
        go_wp2
        go_ret2
        rw [HST.out]
        exact ⟨rfl, HB3.out⟩
    · obtain rfl : i = l.length := by omega
      have hd : decide (l.length < l.length) = false := decide_eq_false (Nat.lt_irrefl _)
      rw [List.take_length] at hno
      have HX := Lib.hid (And.intro (namP_end n l hno) hb)
      clear hno hb
      go_wp2
      go_ret2
      rw [HX.out.1]
      exact ⟨rfl, HX.out.2⟩
set_option maxHeartbeats 4000000 in
theorem codingLiking_any (v : Value) (l : List Wgt) (n : List UInt8) (w : World) (hN : l.length ≤ 1073741824) (hs : WLen l) (hn : n.length ≤ 1099511627776) (h : WgtsIn w v l) :
    Calls Tryd.prog 63 #[v, .string ⟨n.toArray⟩] w fun e w' => e = .returned (.int .i64 (codP l n)) ∧ Below w.heap.size w w' := by
  have h1 := named_any v l n w hN hs hn h
  cases hnm : namP n l with
  | some q =>
    rw [hnm, show nmV (some q) = .tuple #[.int .i64 q, .bool true] from rfl] at h1
    have H1 := Lib.hid h1; have HR := Lib.hid (codP_name l n q hnm)
    clear h1 hnm
    go_enter Tryd.func63, Tryd.ntmps63
    go_wp2_with fail
    refine (H1.out).mono ?_
    rintro e w1 ⟨rfl, hb1⟩
    have HB := Lib.hid hb1
    clear hb1
    go_wp2
    go_ret
    rw [HR.out]
    exact ⟨rfl, HB.out⟩
  | none =>
    rw [hnm, show nmV none = .tuple #[.int .i64 0, .bool false] from rfl] at h1
    have h2 := fun w1 (hb : Below w.heap.size w w1) => named_any v l [42] w1 hN hs (by simp) (h.below hb)
    cases hst : namP [42] l with
    | some q =>
      simp only [hst] at h2
      rw [show nmV (some q) = .tuple #[.int .i64 q, .bool true] from rfl] at h2
      have H1 := Lib.hid h1; have H2 := Lib.hid h2; have HR := Lib.hid (codP_star l n q hnm hst)
      clear h1 h2 hnm hst
      go_enter Tryd.func63, Tryd.ntmps63
      go_wp2_with fail
      refine (H1.out).mono ?_
      rintro e w1 ⟨rfl, hb1⟩
      have HB := Lib.hid hb1
      clear hb1
      go_wp2_with fail
      refine (H2.out _ HB.out).mono ?_
      rintro e w2 ⟨rfl, hb2⟩
      have HB2 := Lib.hid (HB.out.trans (hb2.mono HB.out.size))
      clear hb2
      go_wp2
      go_ret
      rw [HR.out]
      exact ⟨rfl, HB2.out⟩
    | none =>
      simp only [hst] at h2
      rw [show nmV none = .tuple #[.int .i64 0, .bool false] from rfl] at h2
      have h3 := fun w => osame_any n ideL w hn (by decide)
      cases hid3 : sameL n ideL
      all_goals
        have HR := Lib.hid ((codP_none l n hnm hst).trans (by rw [hid3]))
        simp only [hid3] at h3
        have H1 := Lib.hid h1; have H2 := Lib.hid h2; have H3 := Lib.hid h3
        clear h1 h2 h3 hid3
        go_enter Tryd.func63, Tryd.ntmps63
        go_wp2_with fail
        refine (H1.out).mono ?_
        rintro e w1 ⟨rfl, hb1⟩
        have HB := Lib.hid hb1
        clear hb1
        go_wp2_with fail
        refine (H2.out _ HB.out).mono ?_
        rintro e w2 ⟨rfl, hb2⟩
        have HB2 := Lib.hid (HB.out.trans (hb2.mono HB.out.size))
        clear hb2
        go_wp2_with fail
        refine (H3.out _).mono ?_
        rintro e w3 ⟨rfl, hb3⟩
        have HB3 := Lib.hid (HB2.out.trans (hb3.mono HB2.out.size))
        clear hb3
        go_wp2
        go_ret
        rw [HR.out]
        exact ⟨rfl, HB3.out⟩
end Go.Proofs.YthnniiakmjonjaaDoor
