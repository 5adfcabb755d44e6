/- The walk of accept.Liking: the plain function likeP. Conditions: at most 2^30 letters, parameters and elements. -/
import Derived.Test.YthnniiakmjonjaaDoorNar
import Derived.Test.YthnniiakmjonjaaDoorRgs
namespace Go.Proofs.YthnniiakmjonjaaDoor
open Go.RowKit
set_option linter.unusedSimpArgs false
set_option linter.unusedVariables false
set_option maxRecDepth 1000000
theorem wtxH_pass {P : Program} {ops : Array Oper} {S : World → Prop} {Q : Exit → Act → World → Prop} {i : Nat} {o : Oper} {r : List (Nat × Bool)} {a : Act} {w : World} (ho : ops[i]? = some o) (hw : Region.wanted o (yielded ops a.tmps) = false)
    (h : wpTxH P ops S Q r (a.put o.dst undef) w) : wpTxH P ops S Q ((i, true) :: r) a w := ⟨o, undef, ho, .inr ⟨hw, rfl⟩, h⟩
theorem Med3.grown' {b : Nat} {m : Mdm} {v : Value} {w : World} (h : Med3 b m v w) (a : Addr) (u : Value) (hne : b ≠ a.block) : Med3 b m v (w.setCell a u) := by
  have e : (w.setCell a u).heap[b]? = w.heap[b]? := Below.heap_setCell w a u b hne
  refine ⟨?_, ?_, ?_, by simpa [World.setCell] using h.2.2.2⟩
  · rw [World.cell?_of_block (w := w) (a := ⟨b, 0, none⟩) e]; exact h.1
  · rw [World.cell?_of_block (w := w) (a := ⟨b, 1, none⟩) e]; exact h.2.1
  · rw [World.cell?_of_block (w := w) (a := ⟨b, 2, none⟩) e]; exact h.2.2.1
abbrev rgC (r : Rng) (v : Value) : Array Value := #[.string ⟨r.1.ty.toArray⟩, .string ⟨r.1.sub.toArray⟩, v, .int .i64 r.2]
theorem rgCells {w : World} {b : Nat} {r : Rng} {v : Value} {T : TypeId} (h : BlkIs w b (rgC r v) T) : w.cell? ⟨b, 0, none⟩ = some (.string ⟨r.1.ty.toArray⟩) ∧ w.cell? ⟨b, 1, none⟩ = some (.string ⟨r.1.sub.toArray⟩) ∧ w.cell? ⟨b, 2, none⟩ = some v ∧ w.cell? ⟨b, 3, none⟩ = some (.int .i64 r.2) :=
  ⟨h.cell 0 _ rfl, h.cell 1 _ rfl, h.cell 2 _ rfl, h.cell 3 _ rfl⟩
theorem triCells {w : World} {b : Nat} {t : Tri} {T : TypeId} (h : BlkIs w b (triV t) T) : w.cell? ⟨b, 0, none⟩ = some (.int .i64 t.1) ∧ w.cell? ⟨b, 1, none⟩ = some (.int .i64 t.2.1) ∧ w.cell? ⟨b, 2, none⟩ = some (.int .i64 t.2.2) :=
  ⟨h.cell 0 _ rfl, h.cell 1 _ rfl, h.cell 2 _ rfl⟩
/-- While the ranges are walked: the wanted type's block, the best so far. -/
def LkRel (L : Nat) (w : World) (l : List Rng) (m : Mdm) (mv : Value) (i : Nat) (q : Int) (t : Tri) (wr : World) : Prop := Below L w wr ∧ Med3 L m mv wr ∧ BlkIs wr (L + 1) (triV t) 123 ∧ TriOf t (likS m l i).1 ∧ q = (likS m l i).2
theorem LkRel.later {L : Nat} {w : World} {l : List Rng} {m : Mdm} {mv : Value} {i : Nat} {q : Int} {t : Tri} {wr w' : World} (h : LkRel L w l m mv i q t wr) (hb : Below wr.heap.size wr w') : LkRel L w l m mv i q t w' :=
  ⟨h.1.trans (hb.mono (Nat.le_of_lt h.2.1.2.2.2)), h.2.1.below hb, h.2.2.1.later hb, h.2.2.2⟩
theorem LkRel.stay {L : Nat} {w : World} {l : List Rng} {m : Mdm} {mv : Value} {i : Nat} {q : Int} {t : Tri} {wr : World} (h : LkRel L w l m mv i q t wr) (e : likS m l (i + 1) = likS m l i) : LkRel L w l m mv (i + 1) q t wr := by
  unfold LkRel at h ⊢
  rw [e]
  exact h
theorem LkRel.store {L : Nat} {w : World} {l : List Rng} {m : Mdm} {mv : Value} {i : Nat} {q : Int} {t : Tri} {wr : World} (h : LkRel L w l m mv i q t wr) (rm : Mdm) (rq : Int) (hn : rm.ps.length ≤ 1073741824) (e : likS m l (i + 1) = (nar rm, rq)) :
    LkRel L w l m mv (i + 1) rq (narT rm) (((wr.setCell ⟨L + 1, 0, none⟩ (.int .i64 (narT rm).1)).setCell ⟨L + 1, 1, none⟩ (.int .i64 (narT rm).2.1)).setCell ⟨L + 1, 2, none⟩ (.int .i64 (narT rm).2.2)) := by
  unfold LkRel
  rw [e]
  have hne : L ≠ L + 1 := Nat.ne_of_lt (Nat.lt_succ_self L)
  exact ⟨((h.1.setCell (p := ⟨L + 1, 0, none⟩) (Nat.le_succ L) _).setCell (p := ⟨L + 1, 1, none⟩) (Nat.le_succ L) _).setCell (p := ⟨L + 1, 2, none⟩) (Nat.le_succ L) _,
    ((h.2.1.grown' _ _ hne).grown' _ _ hne).grown' _ _ hne, ((h.2.2.1.set 0 (.int .i64 (narT rm).1)).set 1 (.int .i64 (narT rm).2.1)).set 2 (.int .i64 (narT rm).2.2), triOf_nar rm hn, rfl⟩
theorem lik_no (m : Mdm) (l : List Rng) (i : Nat) (r : Rng) (h : l[i]? = some r) (h2 : meetsP r.1 m = false) : likS m l (i + 1) = likS m l i := by rw [likS_succ m l i r h, likStep_no _ _ _ h2]
theorem lik_low (m : Mdm) (l : List Rng) (i : Nat) (r : Rng) (h : l[i]? = some r) (h2 : decide ((likS m l i).1 < nar r.1) = false) : likS m l (i + 1) = likS m l i := by rw [likS_succ m l i r h, likStep_low _ _ _ (by have := of_decide_eq_false h2; omega)]
theorem lik_yes (m : Mdm) (l : List Rng) (i : Nat) (r : Rng) (h : l[i]? = some r) (h1 : meetsP r.1 m = true) (h2 : decide ((likS m l i).1 < nar r.1) = true) : likS m l (i + 1) = (nar r.1, r.2) := by rw [likS_succ m l i r h, likStep_yes _ _ _ h1 (of_decide_eq_true h2)]
theorem lik_end (l : List Rng) (m : Mdm) (h : ¬ l.length = 0) : likeP l m = (likS m l l.length).2 := by unfold likeP; rw [if_neg (by intro e; rw [e] at h; exact h rfl)]
set_option maxHeartbeats 8000000 in
theorem liking_any (v mv : Value) (l : List Rng) (m : Mdm) (w : World) (hN : totF rngLen l + l.length ≤ 1073741824) (hm : mdmLen m ≤ 1073741824) (h : RngsIn w v l) (hmv : ParsIn w mv m.ps) :
    Calls Tryd.prog 33 #[v, .agg #[.string ⟨m.ty.toArray⟩, .string ⟨m.sub.toArray⟩, mv]] w fun e w' => e = .returned (.int .i64 (likeP l m)) ∧ Below w.heap.size w w' := by
  obtain ⟨ao, cap, rfl, hat⟩ := h
  have hN2 : l.length ≤ 1073741824 := by omega
  by_cases h0 : l.length = 0
  · have hl : l = [] := List.eq_nil_of_length_eq_zero h0
    subst hl
    go_enter Tryd.func33, Tryd.ntmps33
    go_wp2
    go_ret
    exact ⟨rfl, (Below.refl _ w).alloc (Nat.le_refl _) _⟩
  · have hb0 : ((l.length : Int) == 0) = false := beq_false_of_ne (by omega)
    have hrel : LkRel w.heap.size w l m mv 0 0 (-1, 0, 0) ((w.alloc (medO m mv 24)).alloc (.cells (triV (-1, 0, 0)) 123)) :=
      ⟨(((Below.refl _ w).alloc (Nat.le_refl _) _).alloc (alloc_le (Nat.le_refl _) _) _), (med3_new w m mv 24).alloc _, by have := blkIs_new (w.alloc (medO m mv 24)) (triV (-1, 0, 0)) 123; simpa using this, Or.inl ⟨rfl, rfl⟩, rfl⟩
    have hbdr := rng_bd l hN
    have HAT := Lib.hid hat; have HMV := Lib.hid hmv; have HBD := Lib.hid hbdr; have HREL := Lib.hid hrel; have HEND := Lib.hid (lik_end l m h0); have HM := Lib.hid hm
    clear hat hmv hbdr hrel hN h0 hm
    go_enter Tryd.func33, Tryd.ntmps33
    go_wp2
    go_loopw [15, 6] (fun iv qv wr => ∃ (i : Nat) (q : Int) (t : Tri), iv = .int .i64 i ∧ qv = .int .i64 q ∧ i ≤ l.length ∧ LkRel w.heap.size w l m mv i q t wr) (fun iv _ _ => l.length - (intOf iv).toNat)
    case atStart => exact ⟨0, 0, _, rfl, rfl, Nat.zero_le _, HREL.out⟩
    case round =>
      clear HREL hb0
      obtain ⟨i, q, t, rfl, rfl, hi, hR⟩ := hrel
      by_cases hlt : i < l.length
      · obtain ⟨r, hp⟩ : ∃ r, l[i]? = some r := ⟨_, List.getElem?_eq_getElem hlt⟩
        obtain ⟨g, o, rfl, ⟨x0, x1, x2, sv, x3, hpar⟩, x5⟩ := HAT.out.below hR.1 i r hp
        obtain ⟨ao2, cap2, rfl, hat2⟩ := hpar
        have hps : ParsIn wr (.slice ao2 r.1.ps.length cap2) r.1.ps := ⟨ao2, cap2, rfl, hat2⟩
        have k0 : (0 : Int) ≤ (i : Int) := Int.natCast_nonneg _
        have k1 : (i : Int) < (l.length : Int) := by omega
        have hwi := wrap64_small i (small30 i _ hi hN2)
        have hml := HBD.out i r hp
        have hpl := (mdm_bd r.1 hml).2.2.1
        have hR2 := hR.later ((Below.refl _ wr).alloc (Nat.le_refl _) (.cells (rgC r (.slice ao2 r.1.ps.length cap2)) 82))
        have hRb := blkIs_new wr (rgC r (.slice ao2 r.1.ps.length cap2)) 82
        have hps2 := hps.below ((Below.refl _ wr).alloc (Nat.le_refl _) (.cells (rgC r (.slice ao2 r.1.ps.length cap2)) 82))
        obtain ⟨rm, rq⟩ := r
        simp only at x1 x2 x3 x5 hml hpl
        have HNE := Lib.hid (show wr.heap.size ≠ w.heap.size + 1 from Nat.ne_of_gt hR.2.2.1.lt)
        have HLTW := Lib.hid (show w.heap.size + 1 < wr.heap.size from hR.2.2.1.lt)
        have HR2 := Lib.hid hR2; have HRB := Lib.hid hRb; have HPS := Lib.hid hps2; have HW := Lib.hid hwi; have HP := Lib.hid hp; have HML := Lib.hid (And.intro hml hpl)
        clear hR hps hat2 hwi hp hml hpl hR2 hRb hps2
        go_upto_region 7 with fail
        have HMT := Lib.hid (meets_any rm m (.slice ao2 rm.ps.length cap2) mv ((wr.alloc (.cells (rgC (rm, rq) (.slice ao2 rm.ps.length cap2)) 82)).drew) HML.out.1 HM.out (HPS.out.below ((Below.refl _ _).drew)) (HMV.out.below (HR2.out.1.drew)))
        have HPS := Lib.hid (show ParsIn ((wr.alloc (.cells (rgC (rm, rq) (.slice ao2 rm.ps.length cap2)) 82)).drew) (.slice ao2 rm.ps.length cap2) rm.ps from HPS.out.below ((Below.refl _ _).drew))
        have HRD := Lib.hid (HR2.out.later ((Below.refl _ _).drew))
        have HRBD := Lib.hid (HRB.out.later ((Below.refl _ (wr.alloc (.cells (rgC (rm, rq) (.slice ao2 rm.ps.length cap2)) 82))).drew))
        cases hmt : meetsP rm m with
        | false =>
          rw [hmt] at HMT
          refine wp_region_textH (fun w' => Med3 w.heap.size m mv w' ∧ BlkIs w' wr.heap.size (rgC (rm, rq) (.slice ao2 rm.ps.length cap2)) 82 ∧ BlkIs w' (w.heap.size + 1) (triV t) 123) [(0, true), (1, true), (2, true), (3, false), (4, true), (5, true), (6, true), (8, true), (7, false), (9, false), (10, true)] (by kernel_rfl) (by kernel_rfl) (by kernel_rfl) (by kernel_rfl) ⟨HR2.out.2.1, HRB.out, HR2.out.2.2.1⟩ ?_
          iterate 3 (refine wpTxH_take rfl (by kernel_rfl) (v := ?_) ?_ ?_; rotate_left; · (intro w hS; obtain ⟨⟨s0, s1, s2, s3⟩, hr, ht⟩ := hS; obtain ⟨r0, r1, r2, r3⟩ := rgCells hr; obtain ⟨t0, t1, t2⟩ := triCells ht; clear hr ht; go_simp; with_reducible rfl))
          refine wpTxH_step rfl (fun K hK => ?_)
          go_simp
          refine (HMT.out).mono ?_
          rintro e w1 ⟨rfl, hb1⟩
          have hR3 := HRD.out.later hb1
          have hRb3 := HRBD.out.later hb1
          refine hK _ _ ⟨hR3.2.1, hRb3, hR3.2.2.1⟩ ?_
          clear hK K
          have HR3 := Lib.hid hR3
          have HS1 := Lib.hid (And.intro hR3.2.1 (And.intro hRb3 hR3.2.2.1))
          have HPS1 := Lib.hid (HPS.out.below hb1)
          clear hR3 hRb3 hb1
          refine wpTxH_take rfl (by kernel_rfl) (v := ?_) ?_ ?_; rotate_left; · (intro w hS; clear hS; go_simp; with_reducible rfl)
          iterate 3 (refine wtxH_pass rfl (by kernel_rfl) ?_)
          refine wpTxH_step rfl (fun K hK => ?_)
          go_simp
          refine hK _ _ HS1.out ?_
          clear hK K
          refine wpTxH_step rfl (fun K hK => ?_)
          go_simp
          refine hK _ _ HS1.out ?_
          clear hK K
          refine wpTxH_take rfl (by kernel_rfl) (v := ?_) ?_ ?_; rotate_left; · (intro w hS; clear hS; go_simp; with_reducible rfl)
          refine wpTxH_nil ?_
          go_simp
          go_wp2
          have hwi := HW.out
          go_roundw
          case rel => (try rw [hwi]); clear hwi; exact ⟨i + 1, q, t, by go_num, rfl, hlt, HR3.out.stay (lik_no m l i (rm, rq) HP.out hmt)⟩
          case measure => (try rw [hwi]); clear hwi; simp [intOf]; omega
        | true =>
          rw [hmt] at HMT
          cases hab : decide ((likS m l i).1 < nar rm) with
          | false =>
            refine wp_region_textH (fun w' => Med3 w.heap.size m mv w' ∧ BlkIs w' wr.heap.size (rgC (rm, rq) (.slice ao2 rm.ps.length cap2)) 82 ∧ BlkIs w' (w.heap.size + 1) (triV t) 123) [(0, true), (1, true), (2, true), (3, false), (4, true), (5, true), (6, true), (8, true), (7, false), (9, false), (10, true)] (by kernel_rfl) (by kernel_rfl) (by kernel_rfl) (by kernel_rfl) ⟨HR2.out.2.1, HRB.out, HR2.out.2.2.1⟩ ?_
            iterate 3 (refine wpTxH_take rfl (by kernel_rfl) (v := ?_) ?_ ?_; rotate_left; · (intro w hS; obtain ⟨⟨s0, s1, s2, s3⟩, hr, ht⟩ := hS; obtain ⟨r0, r1, r2, r3⟩ := rgCells hr; obtain ⟨t0, t1, t2⟩ := triCells ht; clear hr ht; go_simp; with_reducible rfl))
            refine wpTxH_step rfl (fun K hK => ?_)
            go_simp
            refine (HMT.out).mono ?_
            rintro e w1 ⟨rfl, hb1⟩
            have hR3 := HRD.out.later hb1
            have hRb3 := HRBD.out.later hb1
            refine hK _ _ ⟨hR3.2.1, hRb3, hR3.2.2.1⟩ ?_
            clear hK K
            have HR3 := Lib.hid hR3
            have HS1 := Lib.hid (And.intro hR3.2.1 (And.intro hRb3 hR3.2.2.1))
            have HPS1 := Lib.hid (HPS.out.below hb1)
            clear hR3 hRb3 hb1
            refine wpTxH_take rfl (by kernel_rfl) (v := ?_) ?_ ?_; rotate_left; · (intro w hS; clear hS; go_simp; with_reducible rfl)
            iterate 3 (refine wpTxH_take rfl (by kernel_rfl) (v := ?_) ?_ ?_; rotate_left; · (intro w hS; obtain ⟨⟨s0, s1, s2, s3⟩, hr, ht⟩ := hS; obtain ⟨r0, r1, r2, r3⟩ := rgCells hr; obtain ⟨t0, t1, t2⟩ := triCells ht; clear hr ht; go_simp; with_reducible rfl))
            refine wpTxH_step rfl (fun K hK => ?_)
            go_simp
            refine (narrow_any rm (.slice ao2 rm.ps.length cap2) w1 HML.out.2 HPS1.out).mono ?_
            rintro e w2 ⟨rfl, hb2⟩
            have hR4 := HR3.out.later hb2
            have hRb4 := HS1.out.2.1.later hb2
            refine hK _ _ ⟨hR4.2.1, hRb4, hR4.2.2.1⟩ ?_
            clear hK K
            have HR4 := Lib.hid hR4
            have HRB4 := Lib.hid hRb4
            have HPS2 := Lib.hid (HPS1.out.below hb2)
            clear hR4 hRb4 hb2
            refine wpTxH_step rfl (fun K hK => ?_)
            go_simp
            refine (above_any (narT rm) t w2).mono ?_
            rintro e w3 ⟨rfl, hb3⟩
            rw [abP_code rm HML.out.2 t _ HR4.out.2.2.2.1, hab]
            have hR5 := HR4.out.later hb3
            have hRb5 := HRB4.out.later hb3
            refine hK _ _ ⟨hR5.2.1, hRb5, hR5.2.2.1⟩ ?_
            clear hK K
            have HR5 := Lib.hid hR5
            have HRB5 := Lib.hid hRb5
            have HPS3 := Lib.hid (HPS2.out.below hb3)
            clear hR5 hRb5 hb3
            refine wpTxH_take rfl (by kernel_rfl) (v := ?_) ?_ ?_; rotate_left; · (intro w hS; clear hS; go_simp; with_reducible rfl)
            refine wpTxH_nil ?_
            go_simp
            go_wp2
            have hwi := HW.out
            go_roundw
            case rel => (try rw [hwi]); clear hwi; exact ⟨i + 1, q, t, by go_num, rfl, hlt, HR5.out.stay (lik_low m l i (rm, rq) HP.out hab)⟩
            case measure => (try rw [hwi]); clear hwi; simp [intOf]; omega
          | true =>
            refine wp_region_textH (fun w' => Med3 w.heap.size m mv w' ∧ BlkIs w' wr.heap.size (rgC (rm, rq) (.slice ao2 rm.ps.length cap2)) 82 ∧ BlkIs w' (w.heap.size + 1) (triV t) 123) [(0, true), (1, true), (2, true), (3, false), (4, true), (5, true), (6, true), (8, true), (7, false), (9, false), (10, true)] (by kernel_rfl) (by kernel_rfl) (by kernel_rfl) (by kernel_rfl) ⟨HR2.out.2.1, HRB.out, HR2.out.2.2.1⟩ ?_
            iterate 3 (refine wpTxH_take rfl (by kernel_rfl) (v := ?_) ?_ ?_; rotate_left; · (intro w hS; obtain ⟨⟨s0, s1, s2, s3⟩, hr, ht⟩ := hS; obtain ⟨r0, r1, r2, r3⟩ := rgCells hr; obtain ⟨t0, t1, t2⟩ := triCells ht; clear hr ht; go_simp; with_reducible rfl))
            refine wpTxH_step rfl (fun K hK => ?_)
            go_simp
            refine (HMT.out).mono ?_
            rintro e w1 ⟨rfl, hb1⟩
            have hR3 := HRD.out.later hb1
            have hRb3 := HRBD.out.later hb1
            refine hK _ _ ⟨hR3.2.1, hRb3, hR3.2.2.1⟩ ?_
            clear hK K
            have HR3 := Lib.hid hR3
            have HS1 := Lib.hid (And.intro hR3.2.1 (And.intro hRb3 hR3.2.2.1))
            have HPS1 := Lib.hid (HPS.out.below hb1)
            clear hR3 hRb3 hb1
            refine wpTxH_take rfl (by kernel_rfl) (v := ?_) ?_ ?_; rotate_left; · (intro w hS; clear hS; go_simp; with_reducible rfl)
            iterate 3 (refine wpTxH_take rfl (by kernel_rfl) (v := ?_) ?_ ?_; rotate_left; · (intro w hS; obtain ⟨⟨s0, s1, s2, s3⟩, hr, ht⟩ := hS; obtain ⟨r0, r1, r2, r3⟩ := rgCells hr; obtain ⟨t0, t1, t2⟩ := triCells ht; clear hr ht; go_simp; with_reducible rfl))
            refine wpTxH_step rfl (fun K hK => ?_)
            go_simp
            refine (narrow_any rm (.slice ao2 rm.ps.length cap2) w1 HML.out.2 HPS1.out).mono ?_
            rintro e w2 ⟨rfl, hb2⟩
            have hR4 := HR3.out.later hb2
            have hRb4 := HS1.out.2.1.later hb2
            refine hK _ _ ⟨hR4.2.1, hRb4, hR4.2.2.1⟩ ?_
            clear hK K
            have HR4 := Lib.hid hR4
            have HRB4 := Lib.hid hRb4
            have HPS2 := Lib.hid (HPS1.out.below hb2)
            clear hR4 hRb4 hb2
            refine wpTxH_step rfl (fun K hK => ?_)
            go_simp
            refine (above_any (narT rm) t w2).mono ?_
            rintro e w3 ⟨rfl, hb3⟩
            rw [abP_code rm HML.out.2 t _ HR4.out.2.2.2.1, hab]
            have hR5 := HR4.out.later hb3
            have hRb5 := HRB4.out.later hb3
            refine hK _ _ ⟨hR5.2.1, hRb5, hR5.2.2.1⟩ ?_
            clear hK K
            have HR5 := Lib.hid hR5
            have HRB5 := Lib.hid hRb5
            have HPS3 := Lib.hid (HPS2.out.below hb3)
            clear hR5 hRb5 hb3
            refine wpTxH_take rfl (by kernel_rfl) (v := ?_) ?_ ?_; rotate_left; · (intro w hS; clear hS; go_simp; with_reducible rfl)
            refine wpTxH_nil ?_
            go_simp
            go_upto_region 8 with fail
            refine wp_region_textH (fun w' => BlkIs w' wr.heap.size (rgC (rm, rq) (.slice ao2 rm.ps.length cap2)) 82) [(0, true), (1, true), (3, true), (4, true), (2, false), (5, false), (6, true)] (by kernel_rfl) (by kernel_rfl) (by kernel_rfl) (by kernel_rfl) HRB5.out ?_
            iterate 4 (refine wpTxH_take rfl (by kernel_rfl) (v := ?_) ?_ ?_; rotate_left; · (intro w hr; obtain ⟨r0, r1, r2, r3⟩ := rgCells hr; clear hr; go_simp; with_reducible rfl))
            refine wpTxH_step rfl (fun K hK => ?_)
            go_simp
            refine (narrow_any rm (.slice ao2 rm.ps.length cap2) w3.drew HML.out.2 (HPS3.out.below ((Below.refl _ w3).drew))).mono ?_
            rintro e w4 ⟨rfl, hb4⟩
            have hR6 := (HR5.out.later ((Below.refl _ w3).drew)).later hb4
            have hRb6 := BlkIs.later (w := w3.drew) HRB5.out hb4
            refine hK _ _ hRb6 ?_
            clear hK K
            have HR6 := Lib.hid hR6
            have HRB6 := Lib.hid hRb6
            have HLT := Lib.hid (show w.heap.size + 1 < wr.heap.size from HLTW.out)
            clear hR6 hRb6 hb4
            refine wpTxH_step rfl (fun K hK => ?_)
            obtain ⟨z0, z1, z2⟩ := triCells HR6.out.2.2.1
            have y0 := HR6.out.2.2.1.free 0
            have y1 := HR6.out.2.2.1.free 1
            have y2 := HR6.out.2.2.1.free 2
            go_simp
            clear z0 z1 z2 y0 y1 y2
            refine hK _ _ (((HRB6.out.setOther _ _ HNE.out).setOther _ _ HNE.out).setOther _ _ HNE.out) ?_
            clear hK K
            have HF := Lib.hid (show LkRel w.heap.size w l m mv (i + 1) rq (narT rm) (((w4.setCell ⟨w.heap.size + 1, 0, none⟩ (.int .i64 (narT rm).1)).setCell ⟨w.heap.size + 1, 1, none⟩ (.int .i64 (narT rm).2.1)).setCell ⟨w.heap.size + 1, 2, none⟩ (.int .i64 (narT rm).2.2)) from
              HR6.out.store _ _ (HML.out.2) (lik_yes m l i (rm, rq) HP.out hmt hab))
            refine wpTxH_take rfl (by kernel_rfl) (v := ?_) ?_ ?_; rotate_left; · (intro w hS; clear hS; go_simp; with_reducible rfl)
            refine wpTxH_nil ?_
            go_simp
            go_wp2
            have hwi := HW.out
            go_roundw
            case rel => (try rw [hwi]); clear hwi; exact ⟨i + 1, rq, narT rm, by go_num, rfl, hlt, HF.out⟩
            case measure => (try rw [hwi]); clear hwi; simp [intOf]; omega
      · obtain rfl : i = l.length := by omega
        have hd : decide (l.length < l.length) = false := decide_eq_false (Nat.lt_irrefl _)
        have HX := Lib.hid (And.intro hR.1 hR.2.2.2.2)
        clear hR
        go_wp2
        go_ret
        rw [HEND.out, HX.out.2]
        exact ⟨rfl, HX.out.1⟩
end Go.Proofs.YthnniiakmjonjaaDoor
