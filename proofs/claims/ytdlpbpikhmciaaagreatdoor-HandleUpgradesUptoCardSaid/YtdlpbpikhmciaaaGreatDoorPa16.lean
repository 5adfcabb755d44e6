/- handle.Plain and the reference's Plain at every list of fields. Conditions: the list is small; strconv's table holds what the text lays. -/
import Derived.Test.YtdlpbpikhmciaaaGreatDoorPk09
import Derived.Test.YtdlpbpikhmciaaaGreatDoorPk10
import Derived.Test.YtdlpbpikhmciaaaGreatDoorPk12
import Derived.Test.YtdlpbpikhmciaaaGreatDoorPa15
import Derived.Lib.ItoaLen
namespace Go.Proofs.YtdlpbpikhmciaaaGreatDoor
open Go.RowKit
set_option linter.unusedSimpArgs false
set_option linter.unusedVariables false
set_option maxRecDepth 1000000
def stL : List UInt8 := [83, 116, 97, 116, 117, 115, 32]
def plT (st : Int) : List UInt8 := if rsn st = [] then stL ++ Lib.itoa st else rsn st
def PlnIs (T : TypeId) (st : Int) (l : List Fld) (w : World) (e : Ending) (w' : World) : Prop :=
  ∃ fv, e = .returned (.agg (rC st ⟨#[]⟩ fv ⟨(plT st ++ [10]).toArray⟩)) ∧ w'.ownsRow w.heap.size T 2 fv (l.length + 1) (fldsV ((ctL, tpL) :: l)) ∧ Below w.heap.size w w'
theorem rdigits_all (n : Int) (w : World) (h0 : -9223372036854775808 ≤ n) (h1 : n ≤ 9223372036854775807) :
    Calls Tryz.prog 23 #[.int .i64 n] w fun e w' => e = .returned (.string ⟨(Lib.itoa n).toArray⟩) ∧ Below w.heap.size w w' := by
  by_cases h : n < 0
  · have e : n = -((n.natAbs : Nat) : Int) := by omega
    have := rdigitsM_any n.natAbs w (by omega) (by omega)
    rw [← e, ← Lib.itoa_neg n.natAbs (by omega), ← e] at this
    exact this
  · have e : ((n.natAbs : Nat) : Int) = n := by omega
    have := rdigitsN_any n.natAbs w (by omega)
    rw [e, ← Lib.itoa_nonneg n.natAbs, e] at this
    exact this
theorem fldsV_one (l : List Fld) : ∀ u ∈ fldsV l, u.oneCell' = true := by
  intro u hu
  obtain ⟨p, _, hp⟩ := List.mem_flatMap.1 hu
  simp only [fldV, List.mem_cons, List.not_mem_nil, or_false] at hp
  rcases hp with rfl | rfl <;> rfl
theorem addF (b o j : Nat) : (⟨b, o, none⟩ : Addr).add j = ⟨b, o + j, none⟩ := by unfold Addr.add; split <;> simp_all
theorem fldAt_news {w : World} {ad : Addr} {l : List Fld} (h : FldAt w (some ad) l) : ∀ j u, (fldsV l)[j]? = some u → w.cell? (ad.add j) = some u := by
  intro j u hj
  have hlt := (List.getElem?_eq_some_iff.1 hj).1
  rw [fldsV_len] at hlt
  obtain ⟨i, r, hi, hr, rfl⟩ : ∃ i r, i < l.length ∧ r < 2 ∧ j = i * 2 + r := ⟨j / 2, j % 2, by omega, by omega, by omega⟩
  have hp : l[i]? = some (l[i]'hi) := List.getElem?_eq_getElem hi
  obtain ⟨b, o, e, _, c0, c1⟩ := h i _ hp
  injection e with e
  subst e
  obtain ⟨g0, g1⟩ := fldsV_get l i _ hp
  rw [addF]
  match r, hr with
  | 0, _ =>
    rw [Nat.add_zero, g0] at hj
    rw [show o + (i * 2 + 0) = o + i * 2 by omega, c0, hj]
  | 1, _ =>
    rw [g1] at hj
    rw [show o + (i * 2 + 1) = o + i * 2 + 1 by omega, c1, hj]
theorem fldAt_none {w : World} {ao : Option Addr} {l : List Fld} (h : FldAt w ao l) : ao = none → l.length = 0 := fun e => by
  cases hl : l with
  | nil => rfl
  | cons p r =>
    obtain ⟨b, o, e2, _⟩ := h 0 p (by rw [hl]; rfl)
    rw [e] at e2
    cases e2
theorem own_two {L : Nat} (T : TypeId) (w : World) (a b : Value) (hL : L ≤ w.heap.size) : (w.alloc (.cells #[a, b] T)).ownsRow L T 2 (.slice (some ⟨w.heap.size, 0, none⟩) 1 1) 1 [a, b] :=
  ⟨rfl, .inr ⟨w.heap.size, 1, #[a, b], rfl, hL, heap_alloc_new w _, Nat.le_refl _, by decide, rfl, rfl⟩⟩
theorem infoAF : (Tryz.prog.info? 43).map (fun i => (i.zero, i.size, i.bytes)) = some (some (.agg #[.string ByteArray.empty, .string ByteArray.empty]), 2, 32) := by kernel_rfl
theorem infoAF_parts : ∃ i, Tryz.prog.info? 43 = some i ∧ i.zero = some (.agg #[.string ByteArray.empty, .string ByteArray.empty]) ∧ i.size = 2 ∧ i.bytes = 32 := by
  obtain ⟨i, hi, he⟩ := Option.map_eq_some_iff.1 infoAF
  simp only [Prod.mk.injEq] at he
  exact ⟨i, hi, he.1, he.2.1, he.2.2⟩
theorem bd_pl (n : Nat) (h : n ≤ 1048576) : 1 + n ≤ maxLen ∧ (1 + n) * 32 ≤ 140737488355328 := by unfold maxLen; omega
theorem rsn_len (st : Int) : (rsn st).length ≤ 64 := by
  unfold rsn
  have : ∀ (l : List (Nat × List UInt8)), (∀ p ∈ l, p.2.length ≤ 64) → (lkI st l).length ≤ 64 := by
    intro l
    induction l with
    | nil => intro _; simp [lkI]
    | cons p r ih =>
      intro h
      obtain ⟨k, t⟩ := p
      show (if st = (k : Int) then t else lkI st r).length ≤ 64
      split
      · exact h (k, t) (by simp)
      · exact ih fun q hq => h q (by simp [hq])
  exact this _ (by decide)
set_option maxHeartbeats 2000000 in
theorem rplainType_any (w : World) : Calls Tryz.prog 42 #[] w fun e w' => e = .returned (.agg #[.string ⟨ctL.toArray⟩, .string ⟨tpL.toArray⟩]) ∧ Below w.heap.size w w' := by
  obtain ⟨p, hp⟩ : ∃ p, w.heap.size = p := ⟨_, rfl⟩
  go_enter Tryz.func42, Tryz.ntmps42
  go_wp2
  refine bodyPost_ret (v := .agg #[.string ⟨ctL.toArray⟩, .string ⟨tpL.toArray⟩]) ?r rfl ⟨rfl, ?b⟩
  case r => exact results_cell_row rfl _ _ p 59 _ (0, 0) _ rfl (by rw [← hp]; exact blkIs_new w _ _) Tryz.underlying59 rfl (by kernel_rfl)
  case b => exact below1 w _
set_option maxHeartbeats 8000000 in
theorem oplain18_any (st : Int) (v : Value) (l : List Fld) (w : World) (hN : l.length ≤ 1048576) (h0 : -9223372036854775808 ≤ st) (h1 : st ≤ 9223372036854775807) (hP : PowAt w) (h : FldsIn w v l) :
    Calls Tryz.prog 16 #[.int .i64 st, v] w (PlnIs 43 st l w) := by
  obtain ⟨ao, cap, rfl, hat⟩ := h
  obtain ⟨i0, hi0, hz0, hz1, hz2⟩ := infoAF_parts
  obtain ⟨p, hp⟩ : ∃ p, w.heap.size = p := ⟨_, rfl⟩
  obtain ⟨W2, hW2⟩ : ∃ W2, w.alloc (.cells zR 46) = W2 := ⟨_, rfl⟩
  have hb2 : Below w.heap.size w W2 := by rw [← hW2]; exact below1 _ _
  have hP2 : BlkIs W2 p zR 46 := by rw [← hW2, ← hp]; exact blkIs_new _ _ _
  have HW2 := Lib.hid hW2; have HPP := Lib.hid hp
  have HI2 := Lib.hid (And.intro hb2 (And.intro hP2 (hat.below hb2)))
  have HNO := Lib.hid (fldAt_none hat); have HLN := Lib.hid hN; have HST := Lib.hid (And.intro h0 h1)
  have HPW := Lib.hid hP; clear hP
  have hrl := rsn_len st
  clear hW2 hb2 hP2 hat hN h0 h1
  go_enter Tryz.func16, Tryz.ntmps16
  go_upto_region 1 with fail
  rw [HW2.out]
  go_wp2_with fail
  refine (oreason_any st _).mono ?_
  rintro e w3 ⟨rfl, hb3⟩
  have HI3 := Lib.hid (And.intro (HI2.out.1.trans (hb3.mono HI2.out.1.size)) (And.intro (HI2.out.2.1.later hb3) (HI2.out.2.2.below hb3)))
  clear hb3
  obtain ⟨R, hR⟩ : ∃ R, rsn st = R := ⟨_, rfl⟩
  rw [hR] at hrl ⊢
  by_cases hr : R = []
  · subst hr
    have HR := Lib.hid hR
    clear hR hrl
    go_wp2_with fail
    refine (oitoa_any st w3 HST.out.1 HST.out.2 (HPW.out.below HI3.out.1)).mono ?_
    rintro e w5 ⟨rfl, hb5⟩
    have HI4 := Lib.hid (And.intro (HI3.out.1.trans (hb5.mono HI3.out.1.size)) (And.intro (HI3.out.2.1.later hb5) (HI3.out.2.2.below hb5)))
    clear hb5
    have hil := Lib.itoa_length_le st HST.out.1 HST.out.2
    obtain ⟨I, hI⟩ : ∃ I, Lib.itoa st = I := ⟨_, rfl⟩
    rw [hI] at hil ⊢
    have hl0 : ¬ 9223372036854775807 < 7 + I.length := by omega
    obtain ⟨B, hB⟩ : ∃ B, stL ++ I = B := ⟨_, rfl⟩
    have hBl : B.length ≤ 28 := by rw [← hB, List.length_append]; show 7 + I.length ≤ 28; omega
    have e0 : (⟨#[83, 116, 97, 116, 117, 115, 32]⟩ : ByteArray) ++ ⟨I.toArray⟩ = ⟨B.toArray⟩ := by rw [← hB]; exact ba_ext (by simp [stL])
    have HIB := Lib.hid (And.intro hI hB)
    clear hI hB hil
    have hl1 : ¬ 9223372036854775807 < B.length + 1 := by omega
    obtain ⟨D, hD⟩ : ∃ D, B ++ [10] = D := ⟨_, rfl⟩
    have e1 : (⟨List.toArray B⟩ : ByteArray) ++ ⟨#[10]⟩ = ⟨D.toArray⟩ := by rw [← hD]; exact ba_ext (by simp)
    have HD := Lib.hid (show plT st ++ [10] = D by rw [← hD]; congr 1; unfold plT; rw [if_pos HR.out, HIB.out.1, HIB.out.2])
    clear hD
    have HI5 := HI4
    go_upto_region 4 with fail
    obtain ⟨g, hg⟩ : ∃ g, w5.heap.size = g := ⟨_, rfl⟩
    have hown0 := own_two (L := w.heap.size) 43 w5 (.string ⟨ctL.toArray⟩) (.string ⟨tpL.toArray⟩) HI5.out.1.size
    rw [hg] at hown0
    have hn1 : ∀ ad, ao = some ad → ∀ j u, (fldsV l)[j]? = some u → (w5.alloc (.cells #[.string ⟨ctL.toArray⟩, .string ⟨tpL.toArray⟩] 43)).cell? (ad.add j) = some u := fun ad e => fldAt_news (by rw [← e]; exact HI5.out.2.2.below (below1 w5 _))
    have HB6 := Lib.hid (HI5.out.1.alloc HI5.out.1.size (.cells #[.string ⟨ctL.toArray⟩, .string ⟨tpL.toArray⟩] 43))
    have HP6 := Lib.hid (HI5.out.2.1.alloc (.cells #[.string ⟨ctL.toArray⟩, .string ⟨tpL.toArray⟩] 43))
    go_wp2_with (at_builtin; refine wpList_append_opt rfl _ _ 41 rfl w.heap.size 43 i0 (.agg #[.string ByteArray.empty, .string ByteArray.empty]) 2 32 Tryz.underlying41 hi0 hz0 hz1 hz2 rfl (by decide) g 1 1 _ rfl hown0 ao l.length cap (fldsV l) rfl (fldsV_len l) HNO.out hn1 (fldsV_one l) ?d1 ?d2 ?d3 ?_)
    case d1 => exact (bd_pl l.length HLN.out).1
    case d2 => exact (bd_pl l.length HLN.out).2
    case d3 => have := HI5.out.1.size; (try simp); omega
    intro v1 w8 ho hgr
    obtain ⟨g1, c1, rfl⟩ : ∃ g1 c1, v1 = .slice (some ⟨g1, 0, none⟩) (1 + l.length) c1 := by
      rcases ho.2 with ⟨_, h0⟩ | ⟨g1, c1, cur, hv, _⟩
      · omega
      · exact ⟨g1, c1, hv⟩
    have hpg : p ≠ g := fun e => by have := HI5.out.2.1.lt; omega
    have hgw : w.heap.size ≤ g := by have := HI5.out.1.size; omega
    have hb8 : Below w.heap.size w w8 := HB6.out.grown hgr (by have := HI5.out.1.size; simp; omega) (fun j hj => by have : g = j := (by simpa using hj); omega)
    have hP8 : BlkIs w8 p zR 46 := HP6.out.grown hgr (fun e => hpg (by injection e with e; exact e.symm))
    have hv : (Value.slice (some ⟨g1, 0, none⟩) (1 + l.length) c1).ownBlock ≠ some p := own_blk ho hP8 (by decide)
    have y0 := hP8.free 0
    have y1 := hP8.free 1
    have y2 := hP8.free 2
    have y3 := hP8.free 3
    have z0 : w8.cell? ⟨p, 0, none⟩ = some (.int .i64 0) := hP8.cell 0 _ rfl
    have z1 : w8.cell? ⟨p, 1, none⟩ = some (.string ⟨#[]⟩) := hP8.cell 1 _ rfl
    have z2 : w8.cell? ⟨p, 2, none⟩ = some (.slice none 0 0) := hP8.cell 2 _ rfl
    have z3 : w8.cell? ⟨p, 3, none⟩ = some (.string ⟨#[]⟩) := hP8.cell 3 _ rfl
    have HF := Lib.hid (And.intro (fourSet hP8 rfl (.int .i64 st) (.string ⟨#[]⟩) (Value.slice (some ⟨g1, 0, none⟩) (1 + l.length) c1) (.string ⟨D.toArray⟩)) (And.intro (fourBelow hb8 (Nat.le_of_eq HPP.out) (.int .i64 st) (.string ⟨#[]⟩) (Value.slice (some ⟨g1, 0, none⟩) (1 + l.length) c1) (.string ⟨D.toArray⟩)) (own_setOther (own_setOther (own_setOther (own_setOther (j := 0) (u := .int .i64 st) ho hv) hv (j := 1) (u := .string ⟨#[]⟩)) hv (j := 2) (u := Value.slice (some ⟨g1, 0, none⟩) (1 + l.length) c1)) hv (j := 3) (u := .string ⟨D.toArray⟩))))
    clear hP8 hb8 ho hgr hown0 hn1 hgw hpg hv
    go_wp2
    refine bodyPost_ret (v := .agg (rC st ⟨#[]⟩ (Value.slice (some ⟨g1, 0, none⟩) (1 + l.length) c1) ⟨D.toArray⟩)) ?r rfl ⟨Value.slice (some ⟨g1, 0, none⟩) (1 + l.length) c1, by rw [HD.out], ?o, HF.out.2.1⟩
    case r => exact results_cell_row rfl _ _ p 46 _ (0, 0) _ rfl HF.out.1 Tryz.underlying46 rfl (by kernel_rfl)
    case o => rw [HPP.out, Nat.add_comm l.length 1]; exact HF.out.2.2
  · have b1 : decide (R = []) = false := decide_eq_false hr
    have b2 : R.isEmpty = false := by cases R with | nil => exact absurd rfl hr | cons a b => rfl
    have HR := Lib.hid hR
    have HI4 := HI3
    obtain ⟨w5, rfl⟩ : ∃ w5, w5 = w3 := ⟨_, rfl⟩
    clear HI3 hR
    have hl1 : ¬ 9223372036854775807 < R.length + 1 := by omega
    obtain ⟨D, hD⟩ : ∃ D, R ++ [10] = D := ⟨_, rfl⟩
    have e1 : (⟨List.toArray R⟩ : ByteArray) ++ ⟨#[10]⟩ = ⟨D.toArray⟩ := by rw [← hD]; exact ba_ext (by simp)
    have HD := Lib.hid (show plT st ++ [10] = D by rw [← hD]; congr 1; unfold plT; rw [if_neg (by rw [HR.out]; exact hr), HR.out])
    clear hD
    have HI5 := HI4
    go_upto_region 4 with fail
    obtain ⟨g, hg⟩ : ∃ g, w5.heap.size = g := ⟨_, rfl⟩
    have hown0 := own_two (L := w.heap.size) 43 w5 (.string ⟨ctL.toArray⟩) (.string ⟨tpL.toArray⟩) HI5.out.1.size
    rw [hg] at hown0
    have hn1 : ∀ ad, ao = some ad → ∀ j u, (fldsV l)[j]? = some u → (w5.alloc (.cells #[.string ⟨ctL.toArray⟩, .string ⟨tpL.toArray⟩] 43)).cell? (ad.add j) = some u := fun ad e => fldAt_news (by rw [← e]; exact HI5.out.2.2.below (below1 w5 _))
    have HB6 := Lib.hid (HI5.out.1.alloc HI5.out.1.size (.cells #[.string ⟨ctL.toArray⟩, .string ⟨tpL.toArray⟩] 43))
    have HP6 := Lib.hid (HI5.out.2.1.alloc (.cells #[.string ⟨ctL.toArray⟩, .string ⟨tpL.toArray⟩] 43))
    go_wp2_with (at_builtin; refine wpList_append_opt rfl _ _ 41 rfl w.heap.size 43 i0 (.agg #[.string ByteArray.empty, .string ByteArray.empty]) 2 32 Tryz.underlying41 hi0 hz0 hz1 hz2 rfl (by decide) g 1 1 _ rfl hown0 ao l.length cap (fldsV l) rfl (fldsV_len l) HNO.out hn1 (fldsV_one l) ?d1 ?d2 ?d3 ?_)
    case d1 => exact (bd_pl l.length HLN.out).1
    case d2 => exact (bd_pl l.length HLN.out).2
    case d3 => have := HI5.out.1.size; (try simp); omega
    intro v1 w8 ho hgr
    obtain ⟨g1, c1, rfl⟩ : ∃ g1 c1, v1 = .slice (some ⟨g1, 0, none⟩) (1 + l.length) c1 := by
      rcases ho.2 with ⟨_, h0⟩ | ⟨g1, c1, cur, hv, _⟩
      · omega
      · exact ⟨g1, c1, hv⟩
    have hpg : p ≠ g := fun e => by have := HI5.out.2.1.lt; omega
    have hgw : w.heap.size ≤ g := by have := HI5.out.1.size; omega
    have hb8 : Below w.heap.size w w8 := HB6.out.grown hgr (by have := HI5.out.1.size; simp; omega) (fun j hj => by have : g = j := (by simpa using hj); omega)
    have hP8 : BlkIs w8 p zR 46 := HP6.out.grown hgr (fun e => hpg (by injection e with e; exact e.symm))
    have hv : (Value.slice (some ⟨g1, 0, none⟩) (1 + l.length) c1).ownBlock ≠ some p := own_blk ho hP8 (by decide)
    have y0 := hP8.free 0
    have y1 := hP8.free 1
    have y2 := hP8.free 2
    have y3 := hP8.free 3
    have z0 : w8.cell? ⟨p, 0, none⟩ = some (.int .i64 0) := hP8.cell 0 _ rfl
    have z1 : w8.cell? ⟨p, 1, none⟩ = some (.string ⟨#[]⟩) := hP8.cell 1 _ rfl
    have z2 : w8.cell? ⟨p, 2, none⟩ = some (.slice none 0 0) := hP8.cell 2 _ rfl
    have z3 : w8.cell? ⟨p, 3, none⟩ = some (.string ⟨#[]⟩) := hP8.cell 3 _ rfl
    have HF := Lib.hid (And.intro (fourSet hP8 rfl (.int .i64 st) (.string ⟨#[]⟩) (Value.slice (some ⟨g1, 0, none⟩) (1 + l.length) c1) (.string ⟨D.toArray⟩)) (And.intro (fourBelow hb8 (Nat.le_of_eq HPP.out) (.int .i64 st) (.string ⟨#[]⟩) (Value.slice (some ⟨g1, 0, none⟩) (1 + l.length) c1) (.string ⟨D.toArray⟩)) (own_setOther (own_setOther (own_setOther (own_setOther (j := 0) (u := .int .i64 st) ho hv) hv (j := 1) (u := .string ⟨#[]⟩)) hv (j := 2) (u := Value.slice (some ⟨g1, 0, none⟩) (1 + l.length) c1)) hv (j := 3) (u := .string ⟨D.toArray⟩))))
    clear hP8 hb8 ho hgr hown0 hn1 hgw hpg hv
    go_wp2
    refine bodyPost_ret (v := .agg (rC st ⟨#[]⟩ (Value.slice (some ⟨g1, 0, none⟩) (1 + l.length) c1) ⟨D.toArray⟩)) ?r rfl ⟨Value.slice (some ⟨g1, 0, none⟩) (1 + l.length) c1, by rw [HD.out], ?o, HF.out.2.1⟩
    case r => exact results_cell_row rfl _ _ p 46 _ (0, 0) _ rfl HF.out.1 Tryz.underlying46 rfl (by kernel_rfl)
    case o => rw [HPP.out, Nat.add_comm l.length 1]; exact HF.out.2.2
set_option maxHeartbeats 8000000 in
theorem rplain18_any (st : Int) (v : Value) (l : List Fld) (w : World) (hN : l.length ≤ 1048576) (h0 : -9223372036854775808 ≤ st) (h1 : st ≤ 9223372036854775807) (h : FldsIn w v l) :
    Calls Tryz.prog 17 #[.int .i64 st, v] w (PlnIs 59 st l w) := by
  obtain ⟨ao, cap, rfl, hat⟩ := h
  obtain ⟨i0, hi0, hz0, hz1, hz2⟩ := infoF18_parts
  obtain ⟨p, hp⟩ : ∃ p, w.heap.size = p := ⟨_, rfl⟩
  obtain ⟨W2, hW2⟩ : ∃ W2, w.alloc (.cells zR 50) = W2 := ⟨_, rfl⟩
  have hb2 : Below w.heap.size w W2 := by rw [← hW2]; exact below1 _ _
  have hP2 : BlkIs W2 p zR 50 := by rw [← hW2, ← hp]; exact blkIs_new _ _ _
  have HW2 := Lib.hid hW2; have HPP := Lib.hid hp
  have HI2 := Lib.hid (And.intro hb2 (And.intro hP2 (hat.below hb2)))
  have HNO := Lib.hid (fldAt_none hat); have HLN := Lib.hid hN; have HST := Lib.hid (And.intro h0 h1)
  skip
  have hrl := rsn_len st
  clear hW2 hb2 hP2 hat hN h0 h1
  go_enter Tryz.func17, Tryz.ntmps17
  go_upto_region 1 with fail
  rw [HW2.out]
  go_wp2_with fail
  refine (rreason_any st _ HST.out.2).mono ?_
  rintro e w3 ⟨rfl, hb3⟩
  have HI3 := Lib.hid (And.intro (HI2.out.1.trans (hb3.mono HI2.out.1.size)) (And.intro (HI2.out.2.1.later hb3) (HI2.out.2.2.below hb3)))
  clear hb3
  obtain ⟨R, hR⟩ : ∃ R, rsn st = R := ⟨_, rfl⟩
  rw [hR] at hrl ⊢
  by_cases hr : R = []
  · subst hr
    have HR := Lib.hid hR
    clear hR hrl
    go_wp2_with fail
    refine (rdigits_all st w3 HST.out.1 HST.out.2).mono ?_
    rintro e w5 ⟨rfl, hb5⟩
    have HI4 := Lib.hid (And.intro (HI3.out.1.trans (hb5.mono HI3.out.1.size)) (And.intro (HI3.out.2.1.later hb5) (HI3.out.2.2.below hb5)))
    clear hb5
    have hil := Lib.itoa_length_le st HST.out.1 HST.out.2
    obtain ⟨I, hI⟩ : ∃ I, Lib.itoa st = I := ⟨_, rfl⟩
    rw [hI] at hil ⊢
    have hl0 : ¬ 9223372036854775807 < 7 + I.length := by omega
    obtain ⟨B, hB⟩ : ∃ B, stL ++ I = B := ⟨_, rfl⟩
    have hBl : B.length ≤ 28 := by rw [← hB, List.length_append]; show 7 + I.length ≤ 28; omega
    have e0 : (⟨#[83, 116, 97, 116, 117, 115, 32]⟩ : ByteArray) ++ ⟨I.toArray⟩ = ⟨B.toArray⟩ := by rw [← hB]; exact ba_ext (by simp [stL])
    have HIB := Lib.hid (And.intro hI hB)
    clear hI hB hil
    have hl1 : ¬ 9223372036854775807 < B.length + 1 := by omega
    obtain ⟨D, hD⟩ : ∃ D, B ++ [10] = D := ⟨_, rfl⟩
    have e1 : (⟨List.toArray B⟩ : ByteArray) ++ ⟨#[10]⟩ = ⟨D.toArray⟩ := by rw [← hD]; exact ba_ext (by simp)
    have HD := Lib.hid (show plT st ++ [10] = D by rw [← hD]; congr 1; unfold plT; rw [if_pos HR.out, HIB.out.1, HIB.out.2])
    clear hD
    go_wp2_with fail
    refine (rplainType_any _).mono ?_
    rintro e w7 ⟨rfl, hb7⟩
    have HI5 := Lib.hid (And.intro (HI4.out.1.trans (hb7.mono HI4.out.1.size)) (And.intro (HI4.out.2.1.later hb7) (HI4.out.2.2.below hb7)))
    clear hb7
    obtain ⟨g, hg⟩ : ∃ g, w7.heap.size = g := ⟨_, rfl⟩
    have hown0 := own_two (L := w.heap.size) 59 w7 (.string ⟨ctL.toArray⟩) (.string ⟨tpL.toArray⟩) HI5.out.1.size
    rw [hg] at hown0
    have hn1 : ∀ ad, ao = some ad → ∀ j u, (fldsV l)[j]? = some u → (w7.alloc (.cells #[.string ⟨ctL.toArray⟩, .string ⟨tpL.toArray⟩] 59)).cell? (ad.add j) = some u := fun ad e => fldAt_news (by rw [← e]; exact HI5.out.2.2.below (below1 w7 _))
    have HB6 := Lib.hid (HI5.out.1.alloc HI5.out.1.size (.cells #[.string ⟨ctL.toArray⟩, .string ⟨tpL.toArray⟩] 59))
    have HP6 := Lib.hid (HI5.out.2.1.alloc (.cells #[.string ⟨ctL.toArray⟩, .string ⟨tpL.toArray⟩] 59))
    go_wp2_with (at_builtin; refine wpList_append_opt rfl _ _ 48 rfl w.heap.size 59 i0 (.agg #[.string ByteArray.empty, .string ByteArray.empty]) 2 32 Tryz.underlying48 hi0 hz0 hz1 hz2 rfl (by decide) g 1 1 _ rfl hown0 ao l.length cap (fldsV l) rfl (fldsV_len l) HNO.out hn1 (fldsV_one l) ?d1 ?d2 ?d3 ?_)
    case d1 => exact (bd_pl l.length HLN.out).1
    case d2 => exact (bd_pl l.length HLN.out).2
    case d3 => have := HI5.out.1.size; (try simp); omega
    intro v1 w8 ho hgr
    obtain ⟨g1, c1, rfl⟩ : ∃ g1 c1, v1 = .slice (some ⟨g1, 0, none⟩) (1 + l.length) c1 := by
      rcases ho.2 with ⟨_, h0⟩ | ⟨g1, c1, cur, hv, _⟩
      · omega
      · exact ⟨g1, c1, hv⟩
    have hpg : p ≠ g := fun e => by have := HI5.out.2.1.lt; omega
    have hgw : w.heap.size ≤ g := by have := HI5.out.1.size; omega
    have hb8 : Below w.heap.size w w8 := HB6.out.grown hgr (by have := HI5.out.1.size; simp; omega) (fun j hj => by have : g = j := (by simpa using hj); omega)
    have hP8 : BlkIs w8 p zR 50 := HP6.out.grown hgr (fun e => hpg (by injection e with e; exact e.symm))
    have hv : (Value.slice (some ⟨g1, 0, none⟩) (1 + l.length) c1).ownBlock ≠ some p := own_blk ho hP8 (by decide)
    have y0 := hP8.free 0
    have y1 := hP8.free 1
    have y2 := hP8.free 2
    have y3 := hP8.free 3
    have z0 : w8.cell? ⟨p, 0, none⟩ = some (.int .i64 0) := hP8.cell 0 _ rfl
    have z1 : w8.cell? ⟨p, 1, none⟩ = some (.string ⟨#[]⟩) := hP8.cell 1 _ rfl
    have z2 : w8.cell? ⟨p, 2, none⟩ = some (.slice none 0 0) := hP8.cell 2 _ rfl
    have z3 : w8.cell? ⟨p, 3, none⟩ = some (.string ⟨#[]⟩) := hP8.cell 3 _ rfl
    have HF := Lib.hid (And.intro (fourSet hP8 rfl (.int .i64 st) (.string ⟨#[]⟩) (Value.slice (some ⟨g1, 0, none⟩) (1 + l.length) c1) (.string ⟨D.toArray⟩)) (And.intro (fourBelow hb8 (Nat.le_of_eq HPP.out) (.int .i64 st) (.string ⟨#[]⟩) (Value.slice (some ⟨g1, 0, none⟩) (1 + l.length) c1) (.string ⟨D.toArray⟩)) (own_setOther (own_setOther (own_setOther (own_setOther (j := 0) (u := .int .i64 st) ho hv) hv (j := 1) (u := .string ⟨#[]⟩)) hv (j := 2) (u := Value.slice (some ⟨g1, 0, none⟩) (1 + l.length) c1)) hv (j := 3) (u := .string ⟨D.toArray⟩))))
    clear hP8 hb8 ho hgr hown0 hn1 hgw hpg hv
    go_wp2
    refine bodyPost_ret (v := .agg (rC st ⟨#[]⟩ (Value.slice (some ⟨g1, 0, none⟩) (1 + l.length) c1) ⟨D.toArray⟩)) ?r rfl ⟨Value.slice (some ⟨g1, 0, none⟩) (1 + l.length) c1, by rw [HD.out], ?o, HF.out.2.1⟩
    case r => exact results_cell_row rfl _ _ p 50 _ (0, 0) _ rfl HF.out.1 Tryz.underlying50 rfl (by kernel_rfl)
    case o => rw [HPP.out, Nat.add_comm l.length 1]; exact HF.out.2.2
  · have b1 : decide (R = []) = false := decide_eq_false hr
    have b2 : R.isEmpty = false := by cases R with | nil => exact absurd rfl hr | cons a b => rfl
    have HR := Lib.hid hR
    have HI4 := HI3
    obtain ⟨w5, rfl⟩ : ∃ w5, w5 = w3 := ⟨_, rfl⟩
    clear HI3 hR
    have hl1 : ¬ 9223372036854775807 < R.length + 1 := by omega
    obtain ⟨D, hD⟩ : ∃ D, R ++ [10] = D := ⟨_, rfl⟩
    have e1 : (⟨List.toArray R⟩ : ByteArray) ++ ⟨#[10]⟩ = ⟨D.toArray⟩ := by rw [← hD]; exact ba_ext (by simp)
    have HD := Lib.hid (show plT st ++ [10] = D by rw [← hD]; congr 1; unfold plT; rw [if_neg (by rw [HR.out]; exact hr), HR.out])
    clear hD
    go_wp2_with fail
    refine (rplainType_any _).mono ?_
    rintro e w7 ⟨rfl, hb7⟩
    have HI5 := Lib.hid (And.intro (HI4.out.1.trans (hb7.mono HI4.out.1.size)) (And.intro (HI4.out.2.1.later hb7) (HI4.out.2.2.below hb7)))
    clear hb7
    obtain ⟨g, hg⟩ : ∃ g, w7.heap.size = g := ⟨_, rfl⟩
    have hown0 := own_two (L := w.heap.size) 59 w7 (.string ⟨ctL.toArray⟩) (.string ⟨tpL.toArray⟩) HI5.out.1.size
    rw [hg] at hown0
    have hn1 : ∀ ad, ao = some ad → ∀ j u, (fldsV l)[j]? = some u → (w7.alloc (.cells #[.string ⟨ctL.toArray⟩, .string ⟨tpL.toArray⟩] 59)).cell? (ad.add j) = some u := fun ad e => fldAt_news (by rw [← e]; exact HI5.out.2.2.below (below1 w7 _))
    have HB6 := Lib.hid (HI5.out.1.alloc HI5.out.1.size (.cells #[.string ⟨ctL.toArray⟩, .string ⟨tpL.toArray⟩] 59))
    have HP6 := Lib.hid (HI5.out.2.1.alloc (.cells #[.string ⟨ctL.toArray⟩, .string ⟨tpL.toArray⟩] 59))
    go_wp2_with (at_builtin; refine wpList_append_opt rfl _ _ 48 rfl w.heap.size 59 i0 (.agg #[.string ByteArray.empty, .string ByteArray.empty]) 2 32 Tryz.underlying48 hi0 hz0 hz1 hz2 rfl (by decide) g 1 1 _ rfl hown0 ao l.length cap (fldsV l) rfl (fldsV_len l) HNO.out hn1 (fldsV_one l) ?d1 ?d2 ?d3 ?_)
    case d1 => exact (bd_pl l.length HLN.out).1
    case d2 => exact (bd_pl l.length HLN.out).2
    case d3 => have := HI5.out.1.size; (try simp); omega
    intro v1 w8 ho hgr
    obtain ⟨g1, c1, rfl⟩ : ∃ g1 c1, v1 = .slice (some ⟨g1, 0, none⟩) (1 + l.length) c1 := by
      rcases ho.2 with ⟨_, h0⟩ | ⟨g1, c1, cur, hv, _⟩
      · omega
      · exact ⟨g1, c1, hv⟩
    have hpg : p ≠ g := fun e => by have := HI5.out.2.1.lt; omega
    have hgw : w.heap.size ≤ g := by have := HI5.out.1.size; omega
    have hb8 : Below w.heap.size w w8 := HB6.out.grown hgr (by have := HI5.out.1.size; simp; omega) (fun j hj => by have : g = j := (by simpa using hj); omega)
    have hP8 : BlkIs w8 p zR 50 := HP6.out.grown hgr (fun e => hpg (by injection e with e; exact e.symm))
    have hv : (Value.slice (some ⟨g1, 0, none⟩) (1 + l.length) c1).ownBlock ≠ some p := own_blk ho hP8 (by decide)
    have y0 := hP8.free 0
    have y1 := hP8.free 1
    have y2 := hP8.free 2
    have y3 := hP8.free 3
    have z0 : w8.cell? ⟨p, 0, none⟩ = some (.int .i64 0) := hP8.cell 0 _ rfl
    have z1 : w8.cell? ⟨p, 1, none⟩ = some (.string ⟨#[]⟩) := hP8.cell 1 _ rfl
    have z2 : w8.cell? ⟨p, 2, none⟩ = some (.slice none 0 0) := hP8.cell 2 _ rfl
    have z3 : w8.cell? ⟨p, 3, none⟩ = some (.string ⟨#[]⟩) := hP8.cell 3 _ rfl
    have HF := Lib.hid (And.intro (fourSet hP8 rfl (.int .i64 st) (.string ⟨#[]⟩) (Value.slice (some ⟨g1, 0, none⟩) (1 + l.length) c1) (.string ⟨D.toArray⟩)) (And.intro (fourBelow hb8 (Nat.le_of_eq HPP.out) (.int .i64 st) (.string ⟨#[]⟩) (Value.slice (some ⟨g1, 0, none⟩) (1 + l.length) c1) (.string ⟨D.toArray⟩)) (own_setOther (own_setOther (own_setOther (own_setOther (j := 0) (u := .int .i64 st) ho hv) hv (j := 1) (u := .string ⟨#[]⟩)) hv (j := 2) (u := Value.slice (some ⟨g1, 0, none⟩) (1 + l.length) c1)) hv (j := 3) (u := .string ⟨D.toArray⟩))))
    clear hP8 hb8 ho hgr hown0 hn1 hgw hpg hv
    go_wp2
    refine bodyPost_ret (v := .agg (rC st ⟨#[]⟩ (Value.slice (some ⟨g1, 0, none⟩) (1 + l.length) c1) ⟨D.toArray⟩)) ?r rfl ⟨Value.slice (some ⟨g1, 0, none⟩) (1 + l.length) c1, by rw [HD.out], ?o, HF.out.2.1⟩
    case r => exact results_cell_row rfl _ _ p 50 _ (0, 0) _ rfl HF.out.1 Tryz.underlying50 rfl (by kernel_rfl)
    case o => rw [HPP.out, Nat.add_comm l.length 1]; exact HF.out.2.2
end Go.Proofs.YtdlpbpikhmciaaaGreatDoor
