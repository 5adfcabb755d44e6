/- The walk of the reference's field of layer 15: what a line makes of a part, as the plain hdStep. Conditions: fewer than 2^33 bytes. -/
import Derived.Test.YtlfdeenekjklgaaGreatDoorPa32
import Derived.Test.YtlfdeenekjklgaaGreatDoorPa34
import Derived.Test.YtlfdeenekjklgaaGreatDoorPa15
namespace Go.Proofs.YtlfdeenekjklgaaGreatDoor
open Go.RowKit
set_option linter.unusedSimpArgs false
set_option linter.unusedVariables false
set_option maxRecDepth 1000000
theorem results_cell_tmp3 {fn : Func} {p u v x : Tmp} {ty : TypeId} (h : fn.results = #[.cell p ty, .tmp u, .tmp v, .tmp x]) (tmps : Array Value) (P : Program) (w : World) :
    (results fn tmps).run P w = ((asAddr (tmps.getD p undef)).run P w).andThen fun a w₁ => ((loadVar ty a).run P w₁).andThen fun y w₂ => .ok (.tuple #[y, tmps.getD u undef, tmps.getD v undef, tmps.getD x undef]) w₂ := by
  simp only [results, h]
  simp [Sem.run_bind, Result.andThen]
set_option maxHeartbeats 2000000 in
theorem rsame0_any (a b : List UInt8) (w : World) (ha : a.length ≤ 1099511627776) (hb : b.length ≤ 1099511627776) :
    Calls Tryz.prog 70 #[.string ⟨a.toArray⟩, .string ⟨b.toArray⟩] w fun e w' => e = .returned (.bool (lowL a == lowL b)) ∧ Below w.heap.size w w' := by
  have h1 := fun w => rlower_any ⟨a.toArray⟩ w (by rw [size_mk]; exact ha)
  have h2 := fun w => rlower_any ⟨b.toArray⟩ w (by rw [size_mk]; exact hb)
  rw [show (⟨a.toArray⟩ : ByteArray).data.toList = a from rfl] at h1
  rw [show (⟨b.toArray⟩ : ByteArray).data.toList = b from rfl] at h2
  obtain ⟨x, hx⟩ : ∃ x, lowL a = x := ⟨_, rfl⟩
  obtain ⟨y, hy⟩ : ∃ y, lowL b = y := ⟨_, rfl⟩
  rw [hx] at h1 ⊢
  rw [hy] at h2 ⊢
  have H1 := Lib.hid h1; have H2 := Lib.hid h2
  clear h1 h2 hx hy ha hb
  go_enter Tryz.func70, Tryz.ntmps70
  go_wp2_with fail
  refine (H1.out _).mono ?_
  rintro e w1 ⟨rfl, hb1⟩
  go_wp2_with fail
  refine (H2.out _).mono ?_
  rintro e w2 ⟨rfl, hb2⟩
  have HB := Lib.hid (hb1.trans (hb2.mono hb1.size))
  clear hb1 hb2
  go_wp2
  go_ret
  exact ⟨rfl, HB.out⟩
theorem own_sliceF {w : World} {base n size : Nat} {T : TypeId} {v : Value} {xs : List Value} (h : w.ownsRow base T size v n xs) : ∃ av cv, v = .slice av n cv := by
  rcases h.2 with ⟨rfl, h0⟩ | ⟨g, cap, cur, rfl, _⟩
  · exact ⟨none, 0, by rw [h0]⟩
  · exact ⟨_, cap, rfl⟩
/-- What field answers. -/
def FldPost (st : HdSt) (line : List UInt8) (w : World) (e : Ending) (w' : World) : Prop :=
  ∃ (P : Prt) (n t : Bool), e = .returned (.tuple #[.agg (prtC P), .bool n, .bool t, .int .i64 ((hdStep st line).2 : Nat)]) ∧ ((hdStep st line).2 = 0 → (hdStep st line).1 = ⟨P, n, t⟩) ∧ Below w.heap.size w w'
abbrev RprIs (W : World) (b : Nat) (p : Prt) : Prop := BlkIs W b (prtC p) 77
theorem fl_leaf {w W : World} {r : Nat} (hR : RprIs W r p00) (hb : Below w.heap.size w W) (hr : w.heap.size ≤ r) (P : Prt) :
    ∃ W', ((((W.setCell ⟨r, 0, none⟩ (.string ⟨P.name.toArray⟩)).setCell ⟨r, 1, none⟩ (.string ⟨P.file.toArray⟩)).setCell ⟨r, 2, none⟩ (.string ⟨P.media.toArray⟩)).setCell ⟨r, 3, none⟩ (.string ⟨P.body.toArray⟩)).setCell ⟨r, 4, none⟩ (.bool P.has) = W' ∧ RprIs W' r P ∧ Below w.heap.size w W' :=
  ⟨_, rfl, (((BlkIs.set (BlkIs.set hR 0 _) 1 _).set 2 _).set 3 _).set 4 _, ((((hb.setCell (p := ⟨r, 0, none⟩) hr _).setCell (p := ⟨r, 1, none⟩) hr _).setCell (p := ⟨r, 2, none⟩) hr _).setCell (p := ⟨r, 3, none⟩) hr _).setCell (p := ⟨r, 4, none⟩) hr _⟩
theorem low_ct : lowL [67, 111, 110, 116, 101, 110, 116, 45, 84, 121, 112, 101] = ctN := by decide
theorem low_cd : lowL [67, 111, 110, 116, 101, 110, 116, 45, 68, 105, 115, 112, 111, 115, 105, 116, 105, 111, 110] = cdN := by decide
set_option maxHeartbeats 8000000 in
theorem rfield_any (p : Prt) (nm ty : Bool) (line : List UInt8) (w : World) (hs : line.length ≤ 8589934592) :
    Calls Tryz.prog 30 #[.agg (prtC p), .bool nm, .bool ty, .string ⟨line.toArray⟩] w (FldPost ⟨p, nm, ty⟩ line w) := by
  have hlen := plR_len line
  obtain ⟨⟨N, V, e0⟩, hNV⟩ : ∃ r, plR line = r := ⟨_, rfl⟩
  rw [hNV] at hlen
  simp only at hlen
  unfold prtC
  obtain ⟨b, hB⟩ : ∃ b, w.heap.size = b := ⟨_, rfl⟩
  obtain ⟨r, hr⟩ : ∃ r, b + 1 = r := ⟨_, rfl⟩
  obtain ⟨w2, hw2⟩ : ∃ w2, (w.alloc (.cells #[.string ⟨p.name.toArray⟩, .string ⟨p.file.toArray⟩, .string ⟨p.media.toArray⟩, .string ⟨p.body.toArray⟩, .bool p.has] 77)).alloc (.cells #[.string ⟨#[]⟩, .string ⟨#[]⟩, .string ⟨#[]⟩, .string ⟨#[]⟩, .bool false] 77) = w2 := ⟨_, rfl⟩
  have hp2 : RprIs w2 b p := by rw [← hw2, ← hB]; exact BlkIs.alloc (blkIs_new w _ _) _
  have hr2 : RprIs w2 r p00 := by rw [← hw2, ← hr, ← hB, ← World.size_alloc w (.cells #[.string ⟨p.name.toArray⟩, .string ⟨p.file.toArray⟩, .string ⟨p.media.toArray⟩, .string ⟨p.body.toArray⟩, .bool p.has] 77)]; exact blkIs_new _ _ _
  have hb2 : Below w.heap.size w w2 := by rw [← hw2]; exact ((Below.refl _ w).alloc (Nat.le_refl _) _).alloc (by rw [World.size_alloc]; omega) _
  have HB := Lib.hid (And.intro (show w.heap.size ≤ b by omega) (And.intro (show w.heap.size ≤ r by omega) (show b ≠ r by omega)).1)
  have HBR := Lib.hid (show b ≠ r ∧ r ≠ b by omega)
  have HLN := Lib.hid (And.intro hlen hs)
  have H2 := Lib.hid (And.intro hp2 (And.intro hr2 hb2))
  have hpl := r6pl_any ⟨line.toArray⟩ w2 (by rw [size_mk]; omega)
  unfold PlPost plV at hpl
  rw [show (⟨line.toArray⟩ : ByteArray).data.toList = line from rfl, hNV] at hpl
  have HPL := Lib.hid hpl; have HNV := Lib.hid hNV
  have HW2 := Lib.hid hw2; have HSB := Lib.hid hB; have HSR := Lib.hid hr
  clear hpl hNV hw2 hB hr hp2 hr2 hb2 hlen hs
  go_enter Tryz.func30, Tryz.ntmps30
  go_upto_region 1 with fail
  simp only [HSB.out, HSR.out, HW2.out]
  go_wp2_with fail
  refine HPL.out.mono ?_
  rintro e w3 ⟨x0, rfl, hb3⟩
  obtain ⟨fb, hfb⟩ : ∃ fb, w3.heap.size = fb := ⟨_, rfl⟩
  obtain ⟨W4, hW4⟩ : ∃ W4, w3.alloc (.cells #[.string ⟨N.toArray⟩, .string ⟨V.toArray⟩] 127) = W4 := ⟨_, rfl⟩
  have hb34 : Below w3.heap.size w3 W4 := by rw [← hW4]; exact (Below.refl _ _).alloc (Nat.le_refl _) _
  have hb4 : Below w2.heap.size w2 W4 := hb3.trans (hb34.mono hb3.size)
  have hF4 : BlkIs W4 fb #[.string ⟨N.toArray⟩, .string ⟨V.toArray⟩] 127 := by rw [← hW4, ← hfb]; exact blkIs_new _ _ _
  have hp4 := BlkIs.later H2.out.1 hb4
  have hr4 := BlkIs.later H2.out.2.1 hb4
  have hB4 := H2.out.2.2.trans (hb4.mono H2.out.2.2.size)
  have H4 := Lib.hid (And.intro hp4 (And.intro hr4 (And.intro hF4 hB4)))
  have HW4 := Lib.hid hW4; have HFB := Lib.hid hfb
  clear hb3 hfb hW4 hb34 hb4 hF4 hp4 hr4 hB4 HPL
  go_upto_region 2 with fail
  simp only [HFB.out, HW4.out]
  have p0 := BlkIs.cell H4.out.1 0 _ rfl; have p1 := BlkIs.cell H4.out.1 1 _ rfl; have p2 := BlkIs.cell H4.out.1 2 _ rfl; have p3 := BlkIs.cell H4.out.1 3 _ rfl; have p4 := BlkIs.cell H4.out.1 4 _ rfl
  have a0 := BlkIs.cell H4.out.2.2.1 0 _ rfl; have a1 := BlkIs.cell H4.out.2.2.1 1 _ rfl
  by_cases he0 : e0 = 0
  · subst he0
    have hs1 := fun W => rsame0_any N [67, 111, 110, 116, 101, 110, 116, 45, 84, 121, 112, 101] W (by have := HLN.out; omega) (by decide)
    have hs2 := fun W => rsame0_any N [67, 111, 110, 116, 101, 110, 116, 45, 68, 105, 115, 112, 111, 115, 105, 116, 105, 111, 110] W (by have := HLN.out; omega) (by decide)
    rw [low_ct] at hs1
    rw [low_cd] at hs2
    obtain ⟨k, hk⟩ : ∃ k, lowL N = k := ⟨_, rfl⟩
    rw [hk] at hs1 hs2
    have HK := Lib.hid hk
    have HS1 := Lib.hid hs1; have HS2 := Lib.hid hs2
    clear hs1 hs2 hk
    go_wp2_with fail
    refine (HS1.out _).mono ?_
    rintro e w5 ⟨rfl, hb5⟩
    clear HS1 p0 p1 p2 p3 p4 a0 a1
    have hp5 := BlkIs.later H4.out.1 hb5
    have hr5 := BlkIs.later H4.out.2.1 hb5
    have hF5 := BlkIs.later H4.out.2.2.1 hb5
    have hB5 := H4.out.2.2.2.trans (hb5.mono H4.out.2.2.2.size)
    have H5 := Lib.hid (And.intro hp5 (And.intro hr5 (And.intro hF5 hB5)))
    have p0 := BlkIs.cell hp5 0 _ rfl; have p1 := BlkIs.cell hp5 1 _ rfl; have p2 := BlkIs.cell hp5 2 _ rfl; have p3 := BlkIs.cell hp5 3 _ rfl; have p4 := BlkIs.cell hp5 4 _ rfl
    have a0 := BlkIs.cell hF5 0 _ rfl; have a1 := BlkIs.cell hF5 1 _ rfl
    clear hb5 hp5 hr5 hF5 hB5 H4 H2
    by_cases hct : k = ctN
    · have b1 : (k == ctN) = true := beq_of_eq hct
      rw [b1]
      have HST := Lib.hid (hdStep_ct ⟨p, nm, ty⟩ line N V HNV.out (by rw [HK.out, hct]; decide) (by rw [HK.out, hct]))
      clear hct b1
      cases ty with
      | true =>
        have HS3 := Lib.hid (HST.out.trans (if_pos rfl))
        obtain ⟨W9, hW9, hR9, hb9⟩ := fl_leaf H5.out.2.1 H5.out.2.2.2 HB.out.2 p
        have f0 := BlkIs.free H5.out.2.1 0; have f1 := BlkIs.free H5.out.2.1 1; have f2 := BlkIs.free H5.out.2.1 2; have f3 := BlkIs.free H5.out.2.1 3; have f4 := BlkIs.free H5.out.2.1 4
        have g0 := BlkIs.cell H5.out.2.1 0 _ rfl; have g1 := BlkIs.cell H5.out.2.1 1 _ rfl; have g2 := BlkIs.cell H5.out.2.1 2 _ rfl; have g3 := BlkIs.cell H5.out.2.1 3 _ rfl; have g4 := BlkIs.cell H5.out.2.1 4 _ rfl
        have k0 := BlkIs.cell hR9 0 _ rfl; have k1 := BlkIs.cell hR9 1 _ rfl; have k2 := BlkIs.cell hR9 2 _ rfl; have k3 := BlkIs.cell hR9 3 _ rfl; have k4 := BlkIs.cell hR9 4 _ rfl
        have HW9 := Lib.hid hW9; have HB9 := Lib.hid hb9
        clear hW9 hR9 hb9
        go_wp2
        rw [HW9.out]
        clear f0 f1 f2 f3 f4 g0 g1 g2 g3 g4
        (try simp only [Exit.inBlock, Exit.then])
        refine bodyPost_ret (v := .tuple #[.agg (prtC p), .bool nm, .bool true, .int .i64 (152 : Nat)]) ?fl1 rfl ⟨p, nm, true, by rw [HS3.out], by rw [HS3.out]; exact (fun e => absurd (show 152 = 0 from e) (by decide)), HB9.out⟩
        case fl1 => rw [results_cell_tmp3 rfl]; go_simp
      | false =>
        have HS3 := Lib.hid (HST.out.trans (if_neg (by simp)))
        have f20 := BlkIs.free H5.out.1 2
        obtain ⟨w6, hw6⟩ : ∃ w6, w5.setCell ⟨b, 2, none⟩ (.string ⟨V.toArray⟩) = w6 := ⟨_, rfl⟩
        have hp6 : RprIs w6 b ⟨p.name, p.file, V, p.body, p.has⟩ := by rw [← hw6]; exact BlkIs.set H5.out.1 2 _
        have hg6 : w5.grownBy w6 (some b) := by rw [← hw6]; exact gb_set w5 b 2 _
        have hr6 := BlkIs.grown H5.out.2.1 hg6 (fun e => by injection e with e; exact HBR.out.1 e)
        have hB6 : Below w.heap.size w w6 := H5.out.2.2.2.grown hg6 H5.out.2.2.2.size (fun j e => by injection e with e; rw [← e]; exact HB.out.1)
        have HW6 := Lib.hid hw6
        have H6 := Lib.hid (And.intro hr6 hB6)
        have q0 := BlkIs.cell hp6 0 _ rfl; have q1 := BlkIs.cell hp6 1 _ rfl; have q2 := BlkIs.cell hp6 2 _ rfl; have q3 := BlkIs.cell hp6 3 _ rfl; have q4 := BlkIs.cell hp6 4 _ rfl
        clear hw6 hp6 hg6 hr6 hB6
        go_upto_region 8 with fail
        rw [HW6.out]
        clear p0 p1 p2 p3 p4 a0 a1 f20
        obtain ⟨W9, hW9, hR9, hb9⟩ := fl_leaf H6.out.1 H6.out.2 HB.out.2 ⟨p.name, p.file, V, p.body, p.has⟩
        have f0 := BlkIs.free H6.out.1 0; have f1 := BlkIs.free H6.out.1 1; have f2 := BlkIs.free H6.out.1 2; have f3 := BlkIs.free H6.out.1 3; have f4 := BlkIs.free H6.out.1 4
        have g0 := BlkIs.cell H6.out.1 0 _ rfl; have g1 := BlkIs.cell H6.out.1 1 _ rfl; have g2 := BlkIs.cell H6.out.1 2 _ rfl; have g3 := BlkIs.cell H6.out.1 3 _ rfl; have g4 := BlkIs.cell H6.out.1 4 _ rfl
        have k0 := BlkIs.cell hR9 0 _ rfl; have k1 := BlkIs.cell hR9 1 _ rfl; have k2 := BlkIs.cell hR9 2 _ rfl; have k3 := BlkIs.cell hR9 3 _ rfl; have k4 := BlkIs.cell hR9 4 _ rfl
        have HW9 := Lib.hid hW9; have HB9 := Lib.hid hb9
        clear hW9 hR9 hb9
        go_wp2
        rw [HW9.out]
        clear f0 f1 f2 f3 f4 g0 g1 g2 g3 g4
        (try simp only [Exit.inBlock, Exit.then])
        refine bodyPost_ret (v := .tuple #[.agg (prtC ⟨p.name, p.file, V, p.body, p.has⟩), .bool nm, .bool true, .int .i64 (0 : Nat)]) ?fl2 rfl ⟨⟨p.name, p.file, V, p.body, p.has⟩, nm, true, by rw [HS3.out], by rw [HS3.out]; exact (fun _ => rfl), HB9.out⟩
        case fl2 => rw [results_cell_tmp3 rfl]; go_simp
    · have b1 : (k == ctN) = false := beq_false_of_ne hct
      rw [b1]
      go_wp2_with fail
      refine (HS2.out _).mono ?_
      rintro e w6 ⟨rfl, hb6⟩
      clear HS2 p0 p1 p2 p3 p4 a0 a1
      have hp6 := BlkIs.later H5.out.1 hb6
      have hr6 := BlkIs.later H5.out.2.1 hb6
      have hF6 := BlkIs.later H5.out.2.2.1 hb6
      have hB6 := H5.out.2.2.2.trans (hb6.mono H5.out.2.2.2.size)
      have H6 := Lib.hid (And.intro hp6 (And.intro hr6 (And.intro hF6 hB6)))
      have p0 := BlkIs.cell hp6 0 _ rfl; have p1 := BlkIs.cell hp6 1 _ rfl; have p2 := BlkIs.cell hp6 2 _ rfl; have p3 := BlkIs.cell hp6 3 _ rfl; have p4 := BlkIs.cell hp6 4 _ rfl
      have a0 := BlkIs.cell hF6 0 _ rfl; have a1 := BlkIs.cell hF6 1 _ rfl
      clear hb6 hp6 hr6 hF6 hB6 H5 b1
      by_cases hcd : k = cdN
      · have b2 : (k == cdN) = true := beq_of_eq hcd
        rw [b2]
        have HST := Lib.hid (hdStep_cd ⟨p, nm, ty⟩ line N V HNV.out (by rw [HK.out, hcd]))
        clear hct hcd b2
        have hdis := rdis_any ⟨V.toArray⟩ w6 (by rw [size_mk]; have := HLN.out; omega)
        unfold DisPost at hdis
        rw [show (⟨V.toArray⟩ : ByteArray).data.toList = V from rfl] at hdis
        have hno := dsp_no p V
        have hyes := dsp_yes p V
        have hdl := dis_len V
        obtain ⟨⟨kw, l, g0⟩, hD⟩ : ∃ r, disR V = r := ⟨_, rfl⟩
        rw [hD] at hdis hno hyes hdl
        have HDIS := Lib.hid hdis; have HNO := Lib.hid hno; have HYES := Lib.hid hyes
        have HDL := Lib.hid (show l.length ≤ 8589934592 by have h1 := HLN.out; have h2 : l.length ≤ V.length := hdl; omega)
        clear hdis hno hyes hdl hD
        go_wp2_with fail
        refine HDIS.out.mono ?_
        rintro e w7 ⟨v7, rfl, ho7, hb7⟩
        simp only
        obtain ⟨ao, cap, rfl⟩ := own_sliceF ho7
        clear HDIS p0 p1 p2 p3 p4 a0 a1
        have hp7 := BlkIs.later H6.out.1 hb7
        have hr7 := BlkIs.later H6.out.2.1 hb7
        have hB7 := H6.out.2.2.2.trans (hb7.mono H6.out.2.2.2.size)
        have hlt6 : b < w6.heap.size := BlkIs.lt H6.out.1
        have H7 := Lib.hid (And.intro hp7 (And.intro hr7 (And.intro hB7 (And.intro ho7 hlt6))))
        have p0 := BlkIs.cell hp7 0 _ rfl; have p1 := BlkIs.cell hp7 1 _ rfl; have p2 := BlkIs.cell hp7 2 _ rfl; have p3 := BlkIs.cell hp7 3 _ rfl; have p4 := BlkIs.cell hp7 4 _ rfl
        clear hb7 hp7 hr7 hB7 ho7 hlt6 H6
        cases nm with
        | true =>
          have HS3 := Lib.hid (HST.out.trans (if_pos rfl))
          obtain ⟨W9, hW9, hR9, hb9⟩ := fl_leaf H7.out.2.1 H7.out.2.2.1 HB.out.2 p
          have f0 := BlkIs.free H7.out.2.1 0; have f1 := BlkIs.free H7.out.2.1 1; have f2 := BlkIs.free H7.out.2.1 2; have f3 := BlkIs.free H7.out.2.1 3; have f4 := BlkIs.free H7.out.2.1 4
          have g0 := BlkIs.cell H7.out.2.1 0 _ rfl; have g1 := BlkIs.cell H7.out.2.1 1 _ rfl; have g2 := BlkIs.cell H7.out.2.1 2 _ rfl; have g3 := BlkIs.cell H7.out.2.1 3 _ rfl; have g4 := BlkIs.cell H7.out.2.1 4 _ rfl
          have k0 := BlkIs.cell hR9 0 _ rfl; have k1 := BlkIs.cell hR9 1 _ rfl; have k2 := BlkIs.cell hR9 2 _ rfl; have k3 := BlkIs.cell hR9 3 _ rfl; have k4 := BlkIs.cell hR9 4 _ rfl
          have HW9 := Lib.hid hW9; have HB9 := Lib.hid hb9
          clear hW9 hR9 hb9
          go_wp2
          rw [HW9.out]
          clear f0 f1 f2 f3 f4 g0 g1 g2 g3 g4
          (try simp only [Exit.inBlock, Exit.then])
          refine bodyPost_ret (v := .tuple #[.agg (prtC p), .bool true, .bool ty, .int .i64 (152 : Nat)]) ?fl3 rfl ⟨p, true, ty, by rw [HS3.out], by rw [HS3.out]; exact (fun e => absurd (show 152 = 0 from e) (by decide)), HB9.out⟩
          case fl3 => rw [results_cell_tmp3 rfl]; go_simp
        | false =>
          have HS3 := Lib.hid (HST.out.trans (if_neg (by simp)))
          by_cases hg0 : g0 = 0
          · subst hg0
            by_cases hkw : kw = fdL
            · subst hkw
              have HY := Lib.hid (HYES.out ⟨rfl, rfl⟩)
              clear HNO HYES p0 p1 p2 p3 p4
              go_wp2
              go_loopw [19, 18] (fun iv nv wr => ∃ i : Nat, iv = .int .i64 i ∧ i ≤ l.length ∧ nv = .bool (dspL (l.take i) p).2 ∧ RprIs wr b (dspL (l.take i) p).1 ∧ w7.grownBy wr (some b)) (fun iv _ _ => l.length - (intOf iv).toNat)
              case atStart => exact ⟨0, rfl, Nat.zero_le _, rfl, H7.out.1, World.grownBy.refl _ _⟩
              case round =>
                obtain ⟨i, rfl, hi, rfl, hp, hgb⟩ := hrel
                have hrne : some b ≠ some r := fun e => by injection e with e; exact HBR.out.1 e
                have hr8 := BlkIs.grown H7.out.2.1 hgb hrne
                have hB8 : Below w.heap.size w wr := H7.out.2.2.1.grown hgb H7.out.2.2.1.size (fun j e => by injection e with e; rw [← e]; exact HB.out.1)
                have hob : (Value.slice ao l.length cap).ownBlock ≠ some b := fun e => by have := (H7.out.2.2.2.1.lt b e).1; have := H7.out.2.2.2.2; omega
                have hown := H7.out.2.2.2.1.kept hgb (.inr hob)
                have H8 := Lib.hid (And.intro hr8 (And.intro hB8 (And.intro hgb hp)))
                clear hr8 hB8 hrne hob hgb
                by_cases hlt : i < l.length
                · obtain ⟨x, hx⟩ : ∃ x, l[i]? = some x := ⟨_, List.getElem?_eq_getElem hlt⟩
                  obtain ⟨g, rfl⟩ : ∃ g, ao = some ⟨g, 0, none⟩ := by
                    rcases hown.2 with ⟨hv, h0⟩ | ⟨g, c, cur, hv, _⟩
                    · have : l.length = 0 := h0; omega
                    · injection hv with hv; exact ⟨g, hv⟩
                  obtain ⟨c0, c1, c2⟩ := par_cells hown i x hx
                  have htk := dspL_take l p i x hx
                  have hpp := H8.out.2.2.2
                  obtain ⟨⟨P, nd⟩, hP⟩ : ∃ st, dspL (l.take i) p = st := ⟨_, rfl⟩
                  rw [hP] at hpp htk ⊢
                  have k0 : (0 : Int) ≤ (i : Int) := Int.natCast_nonneg _
                  have k1 : (i : Int) < (l.length : Int) := by omega
                  have hwi := wrap64_small i (by have := HDL.out; omega)
                  obtain ⟨xn, xv, xh⟩ := x
                  have z0 := BlkIs.cell hpp 0 _ rfl
                  have z1 := BlkIs.cell hpp 1 _ rfl
                  have z4 := BlkIs.cell hpp 4 _ rfl
                  have y0 := BlkIs.free hpp 0
                  have y1 := BlkIs.free hpp 1
                  have y4 := BlkIs.free hpp 4
                  have HW := Lib.hid hwi; have HTK := Lib.hid htk; have HPP := Lib.hid hpp
                  clear hwi hx htk hP hpp hown hp
                  by_cases hn1 : xn = nmL
                  · have b1 : (xn == [110, 97, 109, 101]) = true := by rw [hn1]; rfl
                    have b3 : (xn == [102, 105, 108, 101, 110, 97, 109, 101]) = false := by rw [hn1]; rfl
                    have hT := dspS_name (P, nd) (xn, xv, xh) hn1
                    have hQ : RprIs (wr.setCell ⟨b, 0, none⟩ (.string ⟨xv.toArray⟩)) b ⟨xv, P.file, P.media, P.body, P.has⟩ := BlkIs.set HPP.out 0 _
                    have HT := Lib.hid hT; have HQ := Lib.hid hQ
                    have HG := Lib.hid (H8.out.2.2.1.trans (gb_set wr b 0 (.string ⟨xv.toArray⟩)))
                    have hgne : ¬ g = b := fun e => by have h1 := (H7.out.2.2.2.1.lt g rfl).1; have h2 := H7.out.2.2.2.2; omega
                    have hgne2 : ¬ b = g := fun e => hgne e.symm
                    clear hT hQ hn1
                    go_wp2
                    have hwi := HW.out
                    go_roundw
                    case rel => (try rw [hwi]); clear hwi; exact ⟨i + 1, by go_num, hlt, by rw [HTK.out, HT.out], by rw [HTK.out, HT.out]; exact HQ.out, HG.out⟩
                    case measure => (try rw [hwi]); clear hwi; simp [intOf]; omega
                  · have b1 : (xn == [110, 97, 109, 101]) = false := beq_false_of_ne hn1
                    by_cases hn2 : xn = flL
                    · have b2 : (xn == [102, 105, 108, 101, 110, 97, 109, 101]) = true := by rw [hn2]; rfl
                      have HT := Lib.hid (dspS_file (P, nd) (xn, xv, xh) hn1 hn2)
                      have hQ : RprIs ((wr.setCell ⟨b, 1, none⟩ (.string ⟨xv.toArray⟩)).setCell ⟨b, 4, none⟩ (.bool true)) b ⟨P.name, xv, P.media, P.body, true⟩ := BlkIs.set (BlkIs.set HPP.out 1 _) 4 _
                      have HQ := Lib.hid hQ
                      have HG := Lib.hid ((H8.out.2.2.1.trans (gb_set wr b 1 (.string ⟨xv.toArray⟩))).trans (gb_set _ b 4 (.bool true)))
                      clear hQ hn1 hn2
                      go_wp2
                      have hwi := HW.out
                      go_roundw
                      case rel => (try rw [hwi]); clear hwi; exact ⟨i + 1, by go_num, hlt, by rw [HTK.out, HT.out], by rw [HTK.out, HT.out]; exact HQ.out, HG.out⟩
                      case measure => (try rw [hwi]); clear hwi; simp [intOf]; omega
                    · have b2 : (xn == [102, 105, 108, 101, 110, 97, 109, 101]) = false := beq_false_of_ne hn2
                      have HT := Lib.hid (dspS_not (P, nd) (xn, xv, xh) hn1 hn2)
                      clear hn1 hn2
                      go_wp2
                      have hwi := HW.out
                      go_roundw
                      case rel => (try rw [hwi]); clear hwi; exact ⟨i + 1, by go_num, hlt, by rw [HTK.out, HT.out], by rw [HTK.out, HT.out]; exact HPP.out, H8.out.2.2.1⟩
                      case measure => (try rw [hwi]); clear hwi; simp [intOf]; omega
                · obtain rfl : l.length = i := by omega
                  have hd : decide (l.length < l.length) = false := decide_eq_false (Nat.lt_irrefl _)
                  have hpp := H8.out.2.2.2
                  rw [List.take_length] at hpp ⊢
                  have hy := HY.out
                  obtain ⟨⟨P, nd⟩, hP⟩ : ∃ st, dspL l p = st := ⟨_, rfl⟩
                  rw [hP] at hpp hy ⊢
                  have q0 := BlkIs.cell hpp 0 _ rfl; have q1 := BlkIs.cell hpp 1 _ rfl; have q2 := BlkIs.cell hpp 2 _ rfl; have q3 := BlkIs.cell hpp 3 _ rfl; have q4 := BlkIs.cell hpp 4 _ rfl
                  have HY2 := Lib.hid hy
                  clear hpp hy hown hp hP hlt HY
                  cases nd with
                  | true =>
                    have HS4 := Lib.hid (show hdStep ⟨p, false, ty⟩ line = (⟨P, true, ty⟩, 0) by rw [HS3.out, HY2.out]; rfl)
                    obtain ⟨W9, hW9, hR9, hb9⟩ := fl_leaf H8.out.1 H8.out.2.1 HB.out.2 P
                    have f0 := BlkIs.free H8.out.1 0; have f1 := BlkIs.free H8.out.1 1; have f2 := BlkIs.free H8.out.1 2; have f3 := BlkIs.free H8.out.1 3; have f4 := BlkIs.free H8.out.1 4
                    have g0 := BlkIs.cell H8.out.1 0 _ rfl; have g1 := BlkIs.cell H8.out.1 1 _ rfl; have g2 := BlkIs.cell H8.out.1 2 _ rfl; have g3 := BlkIs.cell H8.out.1 3 _ rfl; have g4 := BlkIs.cell H8.out.1 4 _ rfl
                    have k0 := BlkIs.cell hR9 0 _ rfl; have k1 := BlkIs.cell hR9 1 _ rfl; have k2 := BlkIs.cell hR9 2 _ rfl; have k3 := BlkIs.cell hR9 3 _ rfl; have k4 := BlkIs.cell hR9 4 _ rfl
                    have HW9 := Lib.hid hW9; have HB9 := Lib.hid hb9
                    clear hW9 hR9 hb9
                    go_wp2
                    rw [HW9.out]
                    clear f0 f1 f2 f3 f4 g0 g1 g2 g3 g4
                    (try simp only [Exit.inBlock, Exit.then])
                    refine bodyPost_ret (v := .tuple #[.agg (prtC P), .bool true, .bool ty, .int .i64 (0 : Nat)]) ?fl4 rfl ⟨P, true, ty, by rw [HS4.out], by rw [HS4.out]; exact (fun _ => rfl), HB9.out⟩
                    case fl4 => rw [results_cell_tmp3 rfl]; go_simp
                  | false =>
                    have HS4 := Lib.hid (show hdStep ⟨p, false, ty⟩ line = (⟨p, false, ty⟩, 152) by rw [HS3.out, HY2.out]; rfl)
                    obtain ⟨W9, hW9, hR9, hb9⟩ := fl_leaf H8.out.1 H8.out.2.1 HB.out.2 P
                    have f0 := BlkIs.free H8.out.1 0; have f1 := BlkIs.free H8.out.1 1; have f2 := BlkIs.free H8.out.1 2; have f3 := BlkIs.free H8.out.1 3; have f4 := BlkIs.free H8.out.1 4
                    have g0 := BlkIs.cell H8.out.1 0 _ rfl; have g1 := BlkIs.cell H8.out.1 1 _ rfl; have g2 := BlkIs.cell H8.out.1 2 _ rfl; have g3 := BlkIs.cell H8.out.1 3 _ rfl; have g4 := BlkIs.cell H8.out.1 4 _ rfl
                    have k0 := BlkIs.cell hR9 0 _ rfl; have k1 := BlkIs.cell hR9 1 _ rfl; have k2 := BlkIs.cell hR9 2 _ rfl; have k3 := BlkIs.cell hR9 3 _ rfl; have k4 := BlkIs.cell hR9 4 _ rfl
                    have HW9 := Lib.hid hW9; have HB9 := Lib.hid hb9
                    clear hW9 hR9 hb9
                    go_wp2
                    rw [HW9.out]
                    clear f0 f1 f2 f3 f4 g0 g1 g2 g3 g4
                    (try simp only [Exit.inBlock, Exit.then])
                    refine bodyPost_ret (v := .tuple #[.agg (prtC P), .bool false, .bool ty, .int .i64 (152 : Nat)]) ?fl5 rfl ⟨P, false, ty, by rw [HS4.out], by rw [HS4.out]; exact (fun e => absurd (show 152 = 0 from e) (by decide)), HB9.out⟩
                    case fl5 => rw [results_cell_tmp3 rfl]; go_simp
            · have hk2 : ¬ kw = [102, 111, 114, 109, 45, 100, 97, 116, 97] := hkw
              have hk3 : (kw == [102, 111, 114, 109, 45, 100, 97, 116, 97]) = false := beq_false_of_ne hk2
              have hk4 : (kw != [102, 111, 114, 109, 45, 100, 97, 116, 97]) = true := by simpa using hk2
              have HS4 := Lib.hid (show hdStep ⟨p, false, ty⟩ line = (⟨p, false, ty⟩, 152) by rw [HS3.out, HNO.out (fun e => hkw e.2)])
              clear hkw hk2 HNO HYES
              obtain ⟨W9, hW9, hR9, hb9⟩ := fl_leaf H7.out.2.1 H7.out.2.2.1 HB.out.2 p
              have f0 := BlkIs.free H7.out.2.1 0; have f1 := BlkIs.free H7.out.2.1 1; have f2 := BlkIs.free H7.out.2.1 2; have f3 := BlkIs.free H7.out.2.1 3; have f4 := BlkIs.free H7.out.2.1 4
              have g0 := BlkIs.cell H7.out.2.1 0 _ rfl; have g1 := BlkIs.cell H7.out.2.1 1 _ rfl; have g2 := BlkIs.cell H7.out.2.1 2 _ rfl; have g3 := BlkIs.cell H7.out.2.1 3 _ rfl; have g4 := BlkIs.cell H7.out.2.1 4 _ rfl
              have k0 := BlkIs.cell hR9 0 _ rfl; have k1 := BlkIs.cell hR9 1 _ rfl; have k2 := BlkIs.cell hR9 2 _ rfl; have k3 := BlkIs.cell hR9 3 _ rfl; have k4 := BlkIs.cell hR9 4 _ rfl
              have HW9 := Lib.hid hW9; have HB9 := Lib.hid hb9
              clear hW9 hR9 hb9
              go_wp2
              rw [HW9.out]
              clear f0 f1 f2 f3 f4 g0 g1 g2 g3 g4
              (try simp only [Exit.inBlock, Exit.then])
              refine bodyPost_ret (v := .tuple #[.agg (prtC p), .bool false, .bool ty, .int .i64 (152 : Nat)]) ?fl6 rfl ⟨p, false, ty, by rw [HS4.out], by rw [HS4.out]; exact (fun e => absurd (show 152 = 0 from e) (by decide)), HB9.out⟩
              case fl6 => rw [results_cell_tmp3 rfl]; go_simp
          · have n1 : ((g0 : Nat) : Int) ≠ 0 := by omega
            have n2 : (((g0 : Nat) : Int) == 0) = false := beq_false_of_ne n1
            have n3 : (((g0 : Nat) : Int) != 0) = true := by simpa using hg0
            have HS4 := Lib.hid (show hdStep ⟨p, false, ty⟩ line = (⟨p, false, ty⟩, 152) by rw [HS3.out, HNO.out (fun e => hg0 e.1)])
            clear hg0 HNO HYES
            obtain ⟨W9, hW9, hR9, hb9⟩ := fl_leaf H7.out.2.1 H7.out.2.2.1 HB.out.2 p
            have f0 := BlkIs.free H7.out.2.1 0; have f1 := BlkIs.free H7.out.2.1 1; have f2 := BlkIs.free H7.out.2.1 2; have f3 := BlkIs.free H7.out.2.1 3; have f4 := BlkIs.free H7.out.2.1 4
            have g0 := BlkIs.cell H7.out.2.1 0 _ rfl; have g1 := BlkIs.cell H7.out.2.1 1 _ rfl; have g2 := BlkIs.cell H7.out.2.1 2 _ rfl; have g3 := BlkIs.cell H7.out.2.1 3 _ rfl; have g4 := BlkIs.cell H7.out.2.1 4 _ rfl
            have k0 := BlkIs.cell hR9 0 _ rfl; have k1 := BlkIs.cell hR9 1 _ rfl; have k2 := BlkIs.cell hR9 2 _ rfl; have k3 := BlkIs.cell hR9 3 _ rfl; have k4 := BlkIs.cell hR9 4 _ rfl
            have HW9 := Lib.hid hW9; have HB9 := Lib.hid hb9
            clear hW9 hR9 hb9
            go_wp2
            rw [HW9.out]
            clear f0 f1 f2 f3 f4 g0 g1 g2 g3 g4
            (try simp only [Exit.inBlock, Exit.then])
            refine bodyPost_ret (v := .tuple #[.agg (prtC p), .bool false, .bool ty, .int .i64 (152 : Nat)]) ?fl7 rfl ⟨p, false, ty, by rw [HS4.out], by rw [HS4.out]; exact (fun e => absurd (show 152 = 0 from e) (by decide)), HB9.out⟩
            case fl7 => rw [results_cell_tmp3 rfl]; go_simp
      · have b2 : (k == cdN) = false := beq_false_of_ne hcd
        rw [b2]
        have HST := Lib.hid (hdStep_no ⟨p, nm, ty⟩ line N V HNV.out (by rw [HK.out]; exact hcd) (by rw [HK.out]; exact hct))
        clear hct hcd b2
        obtain ⟨W9, hW9, hR9, hb9⟩ := fl_leaf H6.out.2.1 H6.out.2.2.2 HB.out.2 p
        have f0 := BlkIs.free H6.out.2.1 0; have f1 := BlkIs.free H6.out.2.1 1; have f2 := BlkIs.free H6.out.2.1 2; have f3 := BlkIs.free H6.out.2.1 3; have f4 := BlkIs.free H6.out.2.1 4
        have g0 := BlkIs.cell H6.out.2.1 0 _ rfl; have g1 := BlkIs.cell H6.out.2.1 1 _ rfl; have g2 := BlkIs.cell H6.out.2.1 2 _ rfl; have g3 := BlkIs.cell H6.out.2.1 3 _ rfl; have g4 := BlkIs.cell H6.out.2.1 4 _ rfl
        have k0 := BlkIs.cell hR9 0 _ rfl; have k1 := BlkIs.cell hR9 1 _ rfl; have k2 := BlkIs.cell hR9 2 _ rfl; have k3 := BlkIs.cell hR9 3 _ rfl; have k4 := BlkIs.cell hR9 4 _ rfl
        have HW9 := Lib.hid hW9; have HB9 := Lib.hid hb9
        clear hW9 hR9 hb9
        go_wp2
        rw [HW9.out]
        clear f0 f1 f2 f3 f4 g0 g1 g2 g3 g4
        (try simp only [Exit.inBlock, Exit.then])
        refine bodyPost_ret (v := .tuple #[.agg (prtC p), .bool nm, .bool ty, .int .i64 (0 : Nat)]) ?fl8 rfl ⟨p, nm, ty, by rw [HST.out], by rw [HST.out]; exact (fun _ => rfl), HB9.out⟩
        case fl8 => rw [results_cell_tmp3 rfl]; go_simp
  · have n1 : ((e0 : Nat) : Int) ≠ 0 := by omega
    have n2 : (((e0 : Nat) : Int) == 0) = false := beq_false_of_ne n1
    have n3 : (((e0 : Nat) : Int) != 0) = true := by simpa using he0
    have HST := Lib.hid (hdStep_bad ⟨p, nm, ty⟩ line N V e0 HNV.out he0)
    have HE0 := Lib.hid he0
    clear he0
    obtain ⟨W9, hW9, hR9, hb9⟩ := fl_leaf H4.out.2.1 H4.out.2.2.2 HB.out.2 p
    have f0 := BlkIs.free H4.out.2.1 0; have f1 := BlkIs.free H4.out.2.1 1; have f2 := BlkIs.free H4.out.2.1 2; have f3 := BlkIs.free H4.out.2.1 3; have f4 := BlkIs.free H4.out.2.1 4
    have g0 := BlkIs.cell H4.out.2.1 0 _ rfl; have g1 := BlkIs.cell H4.out.2.1 1 _ rfl; have g2 := BlkIs.cell H4.out.2.1 2 _ rfl; have g3 := BlkIs.cell H4.out.2.1 3 _ rfl; have g4 := BlkIs.cell H4.out.2.1 4 _ rfl
    have k0 := BlkIs.cell hR9 0 _ rfl; have k1 := BlkIs.cell hR9 1 _ rfl; have k2 := BlkIs.cell hR9 2 _ rfl; have k3 := BlkIs.cell hR9 3 _ rfl; have k4 := BlkIs.cell hR9 4 _ rfl
    have HW9 := Lib.hid hW9; have HB9 := Lib.hid hb9
    clear hW9 hR9 hb9
    go_wp2
    rw [HW9.out]
    clear f0 f1 f2 f3 f4 g0 g1 g2 g3 g4
    (try simp only [Exit.inBlock, Exit.then])
    refine bodyPost_ret (v := .tuple #[.agg (prtC p), .bool nm, .bool ty, .int .i64 (e0 : Nat)]) ?fl9 rfl ⟨p, nm, ty, by rw [HST.out], by rw [HST.out]; exact (fun e => absurd e HE0.out), HB9.out⟩
    case fl9 => rw [results_cell_tmp3 rfl]; go_simp
end Go.Proofs.YtlfdeenekjklgaaGreatDoor
