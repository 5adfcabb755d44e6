/- The walk of HandlePlains. -/
import Derived.Test.YtdlpbpikhmciaaaGreatDoorHdSm
import Derived.Test.YtdlpbpikhmciaaaGreatDoorHdW
namespace Go.Proofs.YtdlpbpikhmciaaaGreatDoor
open Go.RowKit
set_option linter.unusedSimpArgs false
set_option linter.unusedVariables false
set_option maxRecDepth 1000000
def spaF : Fld := ([115, 112, 97, 114, 101], [])
theorem fldAt_pre {w : World} {ao : Option Addr} {l x : List Fld} (h : FldAt w ao (l ++ x)) : FldAt w ao l := fun i p hp =>
  h i p (by rw [List.getElem?_append_left (List.getElem?_eq_some_iff.1 hp).1]; exact hp)
theorem totF_app (a b : List Fld) : totF (a ++ b) = totF a + totF b := by
  induction a with
  | nil => simp [totF]
  | cons p r ih => show p.1.length + p.2.length + totF (r ++ b) = p.1.length + p.2.length + totF r + totF b; rw [ih]; omega
theorem bd_hp (n : Nat) (h : n ≤ 1048576) : 0 + n ≤ maxLen ∧ (0 + n) * 32 ≤ 140737488355328 ∧ n + 1 ≤ maxLen ∧ (n + 1) * 32 ≤ 140737488355328 := by unfold maxLen; omega
set_option maxHeartbeats 16000000 in
theorem handlePlains_any (st : Int) (v : Value) (l : List Fld) (w : World) (h0 : -9223372036854775808 ≤ st) (h1 : st ≤ 9223372036854775807) (hN : totF l + l.length ≤ 1048576) (hP : PowAt w) (h : FldsIn w v l) :
    Calls Tryz.prog 5 #[.int .i64 st, v] w fun e w' => e = .returned (.bool true) ∧ Below w.heap.size w w' := by
  obtain ⟨ao, cap, rfl, hat⟩ := h
  obtain ⟨i0, hi0, hz0, hz1, hz2⟩ := infoAF_parts
  obtain ⟨j0, hj0, hy0, hy1, hy2⟩ := infoF18_parts
  have HAT := Lib.hid hat; have HPW := Lib.hid hP; have HST := Lib.hid (And.intro h0 h1); have HN := Lib.hid hN
  have hln : l.length ≤ 1048576 := by omega
  have HNO := Lib.hid (fldAt_none hat)
  clear hat hP h0 h1 hN
  go_enter Tryz.func5, Tryz.ntmps5
  go_wp2_with fail
  refine (awake18_any w).mono ?_
  rintro e w1 ⟨rfl, hb1⟩
  obtain ⟨B, hB⟩ : ∃ B, w1.heap.size = B := ⟨_, rfl⟩
  have HB1 := Lib.hid (And.intro hb1 hB)
  have hat1 := HAT.out.below hb1
  have hr0 : (w1.alloc (.cells #[] 43)).ownsRow B 43 2 (.slice (some ⟨B, 0, none⟩) 0 0) 0 [] := by rw [← hB]; exact World.ownsRow_made w1 #[] 0 (Nat.le_refl _) (by simp) rfl
  have HR0 := Lib.hid hr0
  have HA1 := Lib.hid hat1
  clear hb1 hr0 hat1
  have hn1 : ∀ ad, ao = some ad → ∀ j u, (fldsV l)[j]? = some u → (w1.alloc (.cells #[] 43)).cell? (ad.add j) = some u := fun ad e => fldAt_news (by rw [← e]; exact HA1.out.below (below1 w1 (.cells #[] 43)))
  go_wp2_with (at_builtin; refine wpList_append_opt rfl _ _ 41 rfl B 43 i0 (.agg #[.string ByteArray.empty, .string ByteArray.empty]) 2 32 Tryz.underlying41 hi0 hz0 hz1 hz2 rfl (by decide) B 0 0 _ rfl HR0.out ao l.length cap (fldsV l) rfl (fldsV_len l) HNO.out hn1 (fldsV_one l) ?d1 ?d2 ?d3 ?_)
  case d1 => exact (bd_hp l.length (by omega)).1
  case d2 => exact (bd_hp l.length (by omega)).2.1
  case d3 => simp; omega
  intro v1 w2 ho2 hg2
  have hb2 : Below w.heap.size w w2 := (HB1.out.1.alloc HB1.out.1.size _).grown hg2 (by have := HB1.out.1.size; simp; omega) (fun j hj => by have : B = j := (by simpa using hj); have := HB1.out.1.size; omega)
  have hB2 : B ≤ w2.heap.size := by have := hg2.size; simp at this; omega
  have HO2 := Lib.hid ho2; have HB2 := Lib.hid (And.intro hb2 hB2)
  clear ho2 hg2 hb2 hB2 hn1
  go_wp2_with (at_builtin; refine wpList_append_own _ rfl _ _ 41 rfl B 43 i0 (.agg #[.string ByteArray.empty, .string ByteArray.empty]) 2 32 Tryz.underlying41 hi0 hz0 hz1 hz2 rfl (by decide) _ _ _ rfl (HO2.out.alloc _) ⟨w2.heap.size, 0, none⟩ 1 1 [.string ⟨spaF.1.toArray⟩, .string ⟨#[]⟩] rfl rfl (cells_new _ _ _) (by simp [Value.oneCell']) ?d1 ?d2 ?d3 ?_)
  case d1 => exact (bd_hp l.length (by omega)).2.2.1
  case d2 => exact (bd_hp l.length (by omega)).2.2.2
  case d3 => have := HB2.out.2; simp; omega
  intro v2 w3 ho3 hg3 _
  have hb3 : Below w.heap.size w w3 := (HB2.out.1.alloc HB2.out.1.size _).grown hg3 (by have := HB2.out.1.size; simp; omega) (fun j hj => by have := (HO2.out.lt j hj).1; have := HB1.out.1.size; omega)
  obtain ⟨g, cap2, rfl⟩ : ∃ g cap2, v2 = .slice (some ⟨g, 0, none⟩) (l.length + 1) cap2 := by
    rcases ho3.2 with ⟨_, h0⟩ | ⟨g, cap, cur, hv, _⟩
    · omega
    · exact ⟨g, cap, hv⟩
  have hcap : l.length + 1 ≤ cap2 := by
    rcases ho3.2 with ⟨hv, _⟩ | ⟨g', cap', cur, hv, _, _, hc, _⟩
    · cases hv
    · injection hv with _ _ hv; subst hv; exact hc
  have ho3' : w3.ownsRow B 43 2 (.slice (some ⟨g, 0, none⟩) (l.length + 1) cap2) (l.length + 1) (fldsV (l ++ [spaF])) := by rw [fldsV_snoc]; exact ho3
  have hlA : (l ++ [spaF]).length = l.length + 1 := by simp
  have hfa : FldAt w3 (some ⟨g, 0, none⟩) (l ++ [spaF]) := by
    obtain ⟨ao', cap', e, hh⟩ := fldAt_own ho3'
    injection e with e
    rw [← e] at hh
    exact hh
  have HO3 := Lib.hid hfa; have HB3 := Lib.hid hb3
  have k0 : (0 : Int) ≤ (l.length : Int) := Int.natCast_nonneg _
  have k1 : (l.length : Int) ≤ (cap2 : Int) := by omega
  clear ho3 ho3' hg3 hb3 hfa
  have hO := oplain18_any st (.slice (some ⟨g, 0, none⟩) l.length cap2) l w3 (by omega) HST.out.1 HST.out.2 (HPW.out.below HB3.out) ⟨_, cap2, rfl, fldAt_pre HO3.out⟩
  have HOP := Lib.hid hO
  clear hO
  go_wp2_with fail
  refine (HOP.out).mono ?_
  rintro e w4 ⟨fv, rfl, hof, hb4⟩
  have HB4 := Lib.hid (HB3.out.trans (hb4.mono HB3.out.size))
  have HO4 := Lib.hid (HO3.out.below hb4)
  have HF4 := Lib.hid (show FldsIn w4 fv ((ctL, tpL) :: l) from fldsIn_own hof)
  clear hb4 hof HOP
  have hP4 := fields18_any (.slice ao l.length cap) l w4 (by omega) ⟨_, cap, rfl, HAT.out.below HB4.out⟩
  have HP4 := Lib.hid hP4
  clear hP4
  go_wp2_with fail
  refine (HP4.out).mono ?_
  rintro e w5 ⟨v5, rfl, ho5, hb5⟩
  have hR5 := rplain18_any st v5 l w5 (by omega) HST.out.1 HST.out.2 (fldsIn_own ho5)
  have HR5 := Lib.hid hR5
  have HB5 := Lib.hid (HB4.out.trans (hb5.mono HB4.out.size))
  have HO5 := Lib.hid (HO4.out.below hb5)
  have HF5 := Lib.hid (HF4.out.below hb5)
  clear hb5 ho5 hR5 HP4
  go_wp2_with fail
  refine (HR5.out).mono ?_
  rintro e w6 ⟨fv', rfl, hof', hb6⟩
  have HB6 := Lib.hid (HB5.out.trans (hb6.mono HB5.out.size))
  have HO6 := Lib.hid (HO5.out.below hb6)
  have HS6 := Lib.hid (same18_any st ⟨(plT st ++ [10]).toArray⟩ fv fv' ((ctL, tpL) :: l) w6 (by show l.length + 1 ≤ _; omega) (HF5.out.below hb6) (fldsIn_own hof'))
  clear hb6 hof' HR5
  go_wp2_with fail
  refine (HS6.out).mono ?_
  rintro e w7 ⟨rfl, hb7⟩
  have HB7 := Lib.hid (HB6.out.trans (hb7.mono HB6.out.size))
  have HO7 := Lib.hid (HO6.out.below hb7)
  clear hb7 HS6
  obtain ⟨s1, hs1⟩ : ∃ s : ByteArray, ⟨(jnF acL l).toArray⟩ = s := ⟨_, rfl⟩
  obtain ⟨s2, hs2⟩ : ∃ s : ByteArray, ⟨(jnF aeL l).toArray⟩ = s := ⟨_, rfl⟩
  obtain ⟨s3, hs3⟩ : ∃ s : ByteArray, ⟨(jnF alL l).toArray⟩ = s := ⟨_, rfl⟩
  obtain ⟨x1, hx1⟩ : ∃ x, hsF acL l = x := ⟨_, rfl⟩
  obtain ⟨x2, hx2⟩ : ∃ x, hsF aeL l = x := ⟨_, rfl⟩
  obtain ⟨x3, hx3⟩ : ∃ x, hsF alL l = x := ⟨_, rfl⟩
  have HE := Lib.hid (show wshC l = #[.string s1, .string s2, .string s3, .bool x1, .bool x2, .bool x3] by rw [← hs1, ← hs2, ← hs3, ← hx1, ← hx2, ← hx3]; rfl)
  clear hs1 hs2 hs3 hx1 hx2 hx3
  have HOW := Lib.hid (HE.out ▸ owish_any (.slice (some ⟨g, 0, none⟩) l.length cap2) l w7 (by omega) (by have := HN.out; omega) ⟨_, cap2, rfl, fldAt_pre HO7.out⟩)
  go_wp2_with fail
  refine (HOW.out).mono ?_
  rintro e w8 ⟨rfl, hb8⟩
  have HB8 := Lib.hid (HB7.out.trans (hb8.mono HB7.out.size))
  have HO8 := Lib.hid (HO7.out.below hb8)
  clear hb8 HOW
  have HP8 := Lib.hid (fields18_any (.slice ao l.length cap) l w8 (by omega) ⟨_, cap, rfl, HAT.out.below HB8.out⟩)
  go_wp2_with fail
  refine (HP8.out).mono ?_
  rintro e w9 ⟨v9, rfl, ho9, hb9⟩
  have HB9 := Lib.hid (HB8.out.trans (hb9.mono HB8.out.size))
  have HO9 := Lib.hid (HO8.out.below hb9)
  have HRW := Lib.hid (HE.out ▸ rwish_any v9 l w9 (by omega) (by have := HN.out; omega) (fldsIn_own ho9))
  clear hb9 ho9 HP8
  go_wp2_with fail
  refine (HRW.out).mono ?_
  rintro e wa ⟨rfl, hba⟩
  have HBa := Lib.hid (HB9.out.trans (hba.mono HB9.out.size))
  have HOa := Lib.hid (HO9.out.below hba)
  clear hba HRW
  obtain ⟨wb, hwb⟩ : ∃ W, (wa.alloc (.cells #[.string s1, .string s2, .string s3, .bool x1, .bool x2, .bool x3] 54)).alloc (.cells #[.string s1, .string s2, .string s3, .bool x1, .bool x2, .bool x3] 56) = W := ⟨_, rfl⟩
  obtain ⟨p, hp⟩ : ∃ p, wa.heap.size = p := ⟨_, rfl⟩
  obtain ⟨q, hq⟩ : ∃ q, p + 1 = q := ⟨_, rfl⟩
  have hPb : BlkIs wb p #[.string s1, .string s2, .string s3, .bool x1, .bool x2, .bool x3] 54 := by rw [← hwb, ← hp]; exact (blkIs_new wa _ _).alloc _
  have hQb : BlkIs wb q #[.string s1, .string s2, .string s3, .bool x1, .bool x2, .bool x3] 56 := by
    have := blkIs_new (wa.alloc (.cells #[.string s1, .string s2, .string s3, .bool x1, .bool x2, .bool x3] 54)) #[.string s1, .string s2, .string s3, .bool x1, .bool x2, .bool x3] 56
    rw [World.size_alloc, hwb, hp, hq] at this
    exact this
  have hbb : Below wa.heap.size wa wb := by rw [← hwb]; exact (below1 wa _).alloc (by simp) _
  have HBb := Lib.hid (HBa.out.trans (hbb.mono HBa.out.size))
  have HOb := Lib.hid (HOa.out.below hbb)
  have HWb := Lib.hid hwb; have HPb := Lib.hid (And.intro hPb hQb)
  have HPQ := Lib.hid (And.intro hp hq)
  clear hwb hPb hQb hbb hp hq
  go_upto_region 7 with fail
  rw [HWb.out, HPQ.out.1, HPQ.out.2]
  have p0 : wb.cell? ⟨p, 0, none⟩ = some (.string s1) := HPb.out.1.cell 0 _ rfl
  have p1 : wb.cell? ⟨p, 1, none⟩ = some (.string s2) := HPb.out.1.cell 1 _ rfl
  have p2 : wb.cell? ⟨p, 2, none⟩ = some (.string s3) := HPb.out.1.cell 2 _ rfl
  have p3 : wb.cell? ⟨p, 3, none⟩ = some (.bool x1) := HPb.out.1.cell 3 _ rfl
  have p4 : wb.cell? ⟨p, 4, none⟩ = some (.bool x2) := HPb.out.1.cell 4 _ rfl
  have p5 : wb.cell? ⟨p, 5, none⟩ = some (.bool x3) := HPb.out.1.cell 5 _ rfl
  have q0 : wb.cell? ⟨q, 0, none⟩ = some (.string s1) := HPb.out.2.cell 0 _ rfl
  have q1 : wb.cell? ⟨q, 1, none⟩ = some (.string s2) := HPb.out.2.cell 1 _ rfl
  have q2 : wb.cell? ⟨q, 2, none⟩ = some (.string s3) := HPb.out.2.cell 2 _ rfl
  have q3 : wb.cell? ⟨q, 3, none⟩ = some (.bool x1) := HPb.out.2.cell 3 _ rfl
  have q4 : wb.cell? ⟨q, 4, none⟩ = some (.bool x2) := HPb.out.2.cell 4 _ rfl
  have q5 : wb.cell? ⟨q, 5, none⟩ = some (.bool x3) := HPb.out.2.cell 5 _ rfl
  have HPc := Lib.hid (fields18_any (.slice ao l.length cap) l wb (by omega) ⟨_, cap, rfl, HAT.out.below HBb.out⟩)
  go_wp2_with fail
  clear p0 p1 p2 p3 p4 p5 q0 q1 q2 q3 q4 q5
  refine (HPc.out).mono ?_
  rintro e wc ⟨vc, rfl, hoc, hbc⟩
  have HBc := Lib.hid (HBb.out.trans (hbc.mono HBb.out.size))
  have HOc := Lib.hid (HOb.out.below hbc)
  have hzc := hbc.size
  have HRC := Lib.hid hoc; have HBC := Lib.hid hbc
  clear hbc HPc hoc
  go_wp2_with (at_builtin; refine wpList_append_own _ rfl _ _ 48 rfl wb.heap.size 59 j0 (.agg #[.string ByteArray.empty, .string ByteArray.empty]) 2 32 Tryz.underlying48 hj0 hy0 hy1 hy2 rfl (by decide) _ _ _ rfl (HRC.out.alloc _) ⟨wc.heap.size, 0, none⟩ 1 1 [.string ⟨spaF.1.toArray⟩, .string ⟨#[]⟩] rfl rfl (cells_new _ _ _) (by simp [Value.oneCell']) ?d1 ?d2 ?d3 ?_)
  case d1 => exact (bd_hp l.length (by omega)).2.2.1
  case d2 => exact (bd_hp l.length (by omega)).2.2.2
  case d3 => simp; omega
  intro vd wd hod hgd _
  have hbd : Below wb.heap.size wc wd := ((below1 wc _).mono hzc).grown hgd (by simp; omega) (fun j hj => (HRC.out.lt j hj).1)
  have hod' : wd.ownsRow wb.heap.size 59 2 vd (l ++ [spaF]).length (fldsV (l ++ [spaF])) := by rw [fldsV_snoc, hlA]; exact hod
  have hbt := HBC.out.trans hbd
  have HZ := Lib.hid (sameF18_any (.slice (some ⟨g, 0, none⟩) (l.length + 1) cap2) vd (l ++ [spaF]) wd (by rw [hlA]; omega) ⟨_, cap2, by rw [hlA], HOb.out.below hbt⟩ (fldsIn_own hod'))
  have HBd := Lib.hid (HBb.out.trans (hbt.mono HBb.out.size))
  clear hod hod' hgd hbd hbt
  go_wp2_with fail
  refine (HZ.out).mono ?_
  rintro e we ⟨rfl, hbe⟩
  have HBe := Lib.hid (HBd.out.trans (hbe.mono HBd.out.size))
  clear hbe HZ
  go_wp2
  go_ret
  exact ⟨rfl, HBe.out⟩
end Go.Proofs.YtdlpbpikhmciaaaGreatDoor
