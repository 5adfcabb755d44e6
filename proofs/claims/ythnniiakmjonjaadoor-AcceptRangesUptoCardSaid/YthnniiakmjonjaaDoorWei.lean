/- The walks of weight, accept's and the reference's: the plain function wtP. Conditions: at most 2^30 parameters, names and values of less than 2^32 - 15 bytes; bytealg's MaxLen holds an int; a parameter without '=' has no value. -/
import Derived.Test.YthnniiakmjonjaaDoorSam
import Derived.Test.YthnniiakmjonjaaDoorCodP
import Derived.Test.YthnniiakmjonjaaDoorMda
import Derived.Test.YthnniiakmjonjaaDoorRQua
namespace Go.Proofs.YthnniiakmjonjaaDoor
open Go.RowKit
set_option linter.unusedSimpArgs false
set_option linter.unusedVariables false
set_option maxRecDepth 1000000
def PLen (l : List Par) : Prop := ∀ (i : Nat) (p : Par), l[i]? = some p → p.1.length ≤ 1099511627776 ∧ p.2.1.length < 4294967281
def wtV (v : Value) (r : List Par × Nat × Nat) : Value := .tuple #[v, .int .i64 (r.2.1 : Nat), .int .i64 (r.2.2 : Nat)]
theorem isQ_step (l : List Par) (i : Nat) (p : Par) (h : l[i]? = some p) (ha : (l.take i).any isQ = false) (hp : isQ p = false) : (l.take (i + 1)).any isQ = false := by rw [take_any _ _ _ _ h, ha, hp]; rfl
theorem isQ_low (p : Par) : isQ p = (lowL p.1 == [113]) := by unfold isQ sameL; rw [beq_dec, show lowL [113] = [113] from rfl]
theorem wt_take_len (l : List Par) (i : Nat) (h : i ≤ l.length) : (l.take i).length = i := by rw [List.length_take]; omega
set_option maxHeartbeats 4000000 in
theorem oweight_any (ao : Option Addr) (cap : Nat) (l : List Par) (m : Int) (w : World) (hN : l.length ≤ 1073741824) (hc : l.length ≤ cap) (hs : PLen l) (h : ParAt w ao l) (hm : w.cell? ⟨1, 0, none⟩ = some (.int .i64 m)) :
    Calls Tryd.prog 77 #[.slice ao l.length cap] w fun e w' => ∃ c, e = .returned (wtV (.slice ao (wtP l).1.length c) (wtP l)) ∧ Below w.heap.size w w' := by
  have HAT := Lib.hid h; have HS := Lib.hid hs; have HM := Lib.hid hm
  clear h hs hm
  go_enter Tryd.func77, Tryd.ntmps77
  go_wp2
  go_loopw [11] (fun iv wr => ∃ i : Nat, iv = .int .i64 i ∧ i ≤ l.length ∧ (l.take i).any isQ = false ∧ Below w.heap.size w wr) (fun iv _ => l.length - (intOf iv).toNat)
  case atStart => exact ⟨0, rfl, Nat.zero_le _, rfl, Below.refl _ _⟩
  case round =>
    obtain ⟨i, rfl, hi, hno, hb⟩ := hrel
    by_cases hlt : i < l.length
    · obtain ⟨p, hp⟩ : ∃ p, l[i]? = some p := ⟨_, List.getElem?_eq_getElem hlt⟩
      obtain ⟨g, o, rfl, _, c0, c1, c2⟩ := HAT.out.below hb i p hp
      have k0 : (0 : Int) ≤ (i : Int) := Int.natCast_nonneg _
      have k1 : (i : Int) < (l.length : Int) := by omega
      have k2 : (i : Int) ≤ (cap : Int) := by omega
      have hwi := wrap64_small i (small30 i _ hi hN)
      have hpl := HS.out i p hp
      obtain ⟨p1, p2, p3⟩ := p
      simp only at c0 c1 c2 hpl
      have hb2 := hb.alloc hb.size (parO (p1, p2, p3) 80)
      have S1 := fun w => osame_any p1 [113] w hpl.1 (by simp)
      have HB2 := Lib.hid hb2; have HW := Lib.hid hwi; have HNO := Lib.hid hno; have HP := Lib.hid hp
      cases hsm : sameL p1 [113] with
      | false =>
        have HST := Lib.hid (isQ_step l i _ hp hno (show isQ (p1, p2, p3) = false from hsm))
        rw [hsm] at S1
        have HS1 := Lib.hid S1
        clear S1 hsm hb hb2 hwi hno hp hpl
        go_wp2_with fail
        refine (HS1.out _).mono ?_
        rintro e w3 ⟨rfl, hb3⟩
        have HB3 := Lib.hid (HB2.out.trans (hb3.mono HB2.out.size))
        clear hb3
        go_wp2
        have hwi := HW.out
        go_roundw
        case rel => (try rw [hwi]); clear hwi; exact ⟨i + 1, by go_num, hlt, HST.out, HB3.out⟩
        case measure => (try rw [hwi]); clear hwi; simp [intOf]; omega
      | true =>
        have hwt := wtP_at l i _ hp hno (show isQ (p1, p2, p3) = true from hsm)
        rw [hsm] at S1
        have hq := fun w1 (h1 : Below w.heap.size w w1) => oqual_any ⟨p2.toArray⟩ m w1 (by rw [size_mk]; exact hpl.2) (mx_later (B := 0) HM.out h1)
        unfold QuPost at hq
        simp only [show (⟨p2.toArray⟩ : ByteArray).data.toList = p2 from rfl] at hq
        obtain ⟨⟨qa, qb⟩, hqq⟩ : ∃ r, quR p2 = r := ⟨_, rfl⟩
        simp only [hqq] at hq
        rw [show ((p1, p2, p3) : Par).2.1 = p2 from rfl, hqq] at hwt
        have HWT := Lib.hid hwt; have HQ := Lib.hid hq
        have HTL := Lib.hid (wt_take_len l i hi)
        have HS1 := Lib.hid S1
        clear S1 hsm hb hb2 hwi hno hp hpl hwt hq hqq
        go_wp2_with fail
        refine (HS1.out _).mono ?_
        rintro e w3 ⟨rfl, hb3⟩
        have HB3 := Lib.hid (HB2.out.trans (hb3.mono HB2.out.size))
        have e1 : w3.cell? ⟨wr.heap.size, 1, none⟩ = some (.string ⟨p2.toArray⟩) := ((blkIs_new wr #[.string ⟨p1.toArray⟩, .string ⟨p2.toArray⟩, .bool p3] 80).later hb3).cell 1 _ rfl
        clear hb3
        go_wp2_with fail
        refine (HQ.out _ HB3.out).mono ?_
        rintro e w4 ⟨rfl, hb4⟩
        have HB4 := Lib.hid (HB3.out.trans (hb4.mono HB3.out.size))
        clear hb4 e1
        go_wp2
        go_ret3
        rw [HWT.out]
        exact ⟨_, by rw [HTL.out]; rfl, HB4.out⟩
    · obtain rfl : i = l.length := by omega
      have hd : decide (l.length < l.length) = false := decide_eq_false (Nat.lt_irrefl _)
      rw [List.take_length] at hno
      have HX := Lib.hid (And.intro (wtP_end l hno) hb)
      clear hno hb
      go_wp2
      go_ret3
      rw [HX.out.1]
      exact ⟨_, rfl, HX.out.2⟩
set_option maxHeartbeats 4000000 in
theorem rweight_any (v : Value) (l : List Par) (w : World) (hN : l.length ≤ 1073741824) (hs : PLen l) (hnv : noV l) (h : ParsIn w v l) :
    Calls Tryd.prog 79 #[v] w fun e w' => ∃ v', e = .returned (wtV v' (wtP l)) ∧ w'.ownsRow w.heap.size 109 3 v' (wtP l).1.length (parsV (wtP l).1) ∧ Below w.heap.size w w' := by
  obtain ⟨ao, cap, rfl, hat⟩ := h
  obtain ⟨i0, hi0, hz0, hz1, hz2⟩ := info_partsRO infoRParO
  have hbb : Below w.heap.size w (w.alloc (.cells #[] 109)) := (Below.refl _ w).alloc (Nat.le_refl _) _
  have hrm : (w.alloc (.cells #[] 109)).ownsRow w.heap.size 109 3 (.slice (some ⟨w.heap.size, 0, none⟩) 0 0) 0 [] := World.ownsRow_made w #[] 0 (Nat.le_refl _) (by simp) rfl
  have HAT := Lib.hid hat; have HS := Lib.hid hs; have HV := Lib.hid hnv
  clear hat hs hnv
  go_enter Tryd.func79, Tryd.ntmps79
  go_wp2
  go_loopw [6, 5] (fun iv v wr => ∃ i : Nat, iv = .int .i64 i ∧ i ≤ l.length ∧ (l.take i).any isQ = false ∧ wr.ownsRow w.heap.size 109 3 v i (parsV (l.take i)) ∧ Below w.heap.size w wr) (fun iv _ _ => l.length - (intOf iv).toNat)
  case atStart => exact ⟨0, rfl, Nat.zero_le _, rfl, hrm, hbb⟩
  case round =>
    clear hbb hrm
    obtain ⟨i, rfl, hi, hno, hown, hb⟩ := hrel
    by_cases hlt : i < l.length
    · obtain ⟨p, hp⟩ : ∃ p, l[i]? = some p := ⟨_, List.getElem?_eq_getElem hlt⟩
      obtain ⟨g, o, rfl, hgl, c0, c1, c2⟩ := HAT.out.below hb i p hp
      have k0 : (0 : Int) ≤ (i : Int) := Int.natCast_nonneg _
      have k1 : (i : Int) < (l.length : Int) := by omega
      have hwi := wrap64_small i (small30 i _ hi hN)
      have hbd := par_bd i l.length hlt hN
      have hsn := parsV_take l i p hp
      have hpl := HS.out i p hp
      have hpv := HV.out p (List.mem_of_getElem? hp)
      have hq0 := isQ_low p
      obtain ⟨p1, p2, p3⟩ := p
      simp only at c0 c1 c2 hpl hsn hpv hq0
      have S1 := fun w => rlower_any ⟨p1.toArray⟩ w (by rw [size_mk]; exact hpl.1)
      simp only [show (⟨p1.toArray⟩ : ByteArray).data.toList = p1 from rfl] at S1
      obtain ⟨lw, hlw⟩ : ∃ x, lowL p1 = x := ⟨_, rfl⟩
      rw [hlw] at hq0
      simp only [hlw] at S1
      have HB := Lib.hid hb; have HW := Lib.hid hwi; have HNO := Lib.hid hno; have HP := Lib.hid hp; have HO := Lib.hid hown; have HS1 := Lib.hid S1; have HSN := Lib.hid hsn
      have HTL := Lib.hid (wt_take_len l i hi)
      clear S1 hb hwi hno hp hown hsn hlw
      cases hsm : (lw == [113]) with
      | false =>
        have HST := Lib.hid (isQ_step l i _ HP.out HNO.out (hq0.trans hsm))
        clear hpl hpv hq0
        go_wp2_with fail
        refine (HS1.out _).mono ?_
        rintro e w3 ⟨rfl, hb3⟩
        have hb3' := HB.out.trans (hb3.mono HB.out.size)
        have HO3 := Lib.hid (own_later HO.out hb3)
        have d0 : w3.cell? ⟨g, o + i * 3, none⟩ = some (.string ⟨p1.toArray⟩) := by rw [hb3.cell (p := ⟨g, o + i * 3, none⟩) hgl]; exact c0
        have d1 : w3.cell? ⟨g, o + i * 3 + 1, none⟩ = some (.string ⟨p2.toArray⟩) := by rw [hb3.cell (p := ⟨g, o + i * 3 + 1, none⟩) hgl]; exact c1
        have d2 : w3.cell? ⟨g, o + i * 3 + 2, none⟩ = some (.bool p3) := by rw [hb3.cell (p := ⟨g, o + i * 3 + 2, none⟩) hgl]; exact c2
        have HB3 := Lib.hid hb3'
        have hbz := hb3'.size
        clear hb3 c0 c1 c2 hb3'
        go_wp2_with (at_builtin; refine wpList_append_own _ rfl (.tmp 42) (.tmp 47) 28 rfl w.heap.size 109 i0 (.agg #[.string ByteArray.empty, .string ByteArray.empty, .bool false]) 3 40 Tryd.underlying28 hi0 hz0 hz1 hz2 rfl (by decide) _ _ _ rfl (HO3.out.alloc _) ⟨w3.heap.size, 0, none⟩ 1 1 [.string ⟨p1.toArray⟩, .string ⟨p2.toArray⟩, .bool p3] rfl rfl (cells_new w3 109 _) (by simp [Value.oneCell']) hbd.1 hbd.2 ?dd ?_)
        case dd => simp; omega
        intro v1 w4 hI1 hg1 _
        have hb4 : Below w.heap.size w w4 := (HB3.out.alloc hbz _).grown hg1 (by simp; omega) (fun k hk => (HO3.out.lt k hk).1)
        have HI1 := Lib.hid hI1; have HB4 := Lib.hid hb4
        clear hI1 hg1 hb4 d0 d1 d2
        go_wp2
        have hwi := HW.out
        go_roundw
        case rel =>
          (try rw [hwi]); clear hwi
          refine ⟨i + 1, by go_num, hlt, HST.out, ?_, HB4.out⟩
          rw [HSN.out]
          exact HI1.out
        case measure => (try rw [hwi]); clear hwi; simp [intOf]; omega
      | true =>
        have hwt := wtP_at l i _ HP.out HNO.out (hq0.trans hsm)
        cases p3 with
        | false =>
          have hv0 := hpv rfl
          subst hv0
          rw [show quR ((p1, ([] : List UInt8), false) : Par).2.1 = (0, 71) from rfl] at hwt
          have HWT := Lib.hid hwt
          clear hpl hpv hq0 hwt
          go_wp2_with fail
          refine (HS1.out _).mono ?_
          rintro e w3 ⟨rfl, hb3⟩
          have HB3 := Lib.hid (HB.out.trans (hb3.mono HB.out.size))
          have HO3 := Lib.hid (own_later HO.out hb3)
          have d2 : w3.cell? ⟨g, o + i * 3 + 2, none⟩ = some (.bool false) := by rw [hb3.cell (p := ⟨g, o + i * 3 + 2, none⟩) hgl]; exact c2
          clear hb3 c0 c1 c2
          go_wp2
          go_ret3
          rw [HWT.out]
          exact ⟨_, rfl, by rw [HTL.out]; exact HO3.out, HB3.out⟩
        | true =>
          have hq := fun w1 => rqual_any ⟨p2.toArray⟩ w1 (by rw [size_mk]; exact Nat.le_trans (Nat.le_of_lt hpl.2) (by decide))
          simp only [show (⟨p2.toArray⟩ : ByteArray).data.toList = p2 from rfl] at hq
          obtain ⟨⟨qa, qb⟩, hqq⟩ : ∃ r, quR p2 = r := ⟨_, rfl⟩
          simp only [hqq] at hq
          rw [show ((p1, p2, true) : Par).2.1 = p2 from rfl, hqq] at hwt
          have HWT := Lib.hid hwt; have HQ := Lib.hid hq
          clear hpl hpv hq0 hwt hq hqq
          go_wp2_with fail
          refine (HS1.out _).mono ?_
          rintro e w3 ⟨rfl, hb3⟩
          have HB3 := Lib.hid (HB.out.trans (hb3.mono HB.out.size))
          have HO3 := Lib.hid (own_later HO.out hb3)
          have d1 : w3.cell? ⟨g, o + i * 3 + 1, none⟩ = some (.string ⟨p2.toArray⟩) := by rw [hb3.cell (p := ⟨g, o + i * 3 + 1, none⟩) hgl]; exact c1
          have d2 : w3.cell? ⟨g, o + i * 3 + 2, none⟩ = some (.bool true) := by rw [hb3.cell (p := ⟨g, o + i * 3 + 2, none⟩) hgl]; exact c2
          clear hb3 c0 c1 c2
          go_wp2_with fail
          refine (HQ.out _).mono ?_
          rintro e w4 ⟨rfl, hw4⟩
          rw [hw4]
          clear hw4 d1 d2
          go_wp2
          go_ret3
          rw [HWT.out]
          exact ⟨_, rfl, by rw [HTL.out]; exact HO3.out, HB3.out⟩
    · obtain rfl : i = l.length := by omega
      have hd : decide (l.length < l.length) = false := decide_eq_false (Nat.lt_irrefl _)
      rw [List.take_length] at hno hown
      have HX := Lib.hid (And.intro (wtP_end l hno) (And.intro hown hb))
      clear hno hb hown
      go_wp2
      go_ret3
      rw [HX.out.1]
      exact ⟨_, rfl, HX.out.2⟩
end Go.Proofs.YthnniiakmjonjaaDoor
