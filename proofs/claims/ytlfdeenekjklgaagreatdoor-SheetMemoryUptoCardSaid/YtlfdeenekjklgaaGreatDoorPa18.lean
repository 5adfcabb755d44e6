/- The walk of the reader's method all. Conditions: the body is small; octet's table of signs holds what the text lays; bytealg's MaxLen holds an int. -/
import Derived.Test.YtlfdeenekjklgaaGreatDoorPk16
import Derived.Test.YtlfdeenekjklgaaGreatDoorPk17
import Derived.Test.YtlfdeenekjklgaaGreatDoorPk09
namespace Go.Proofs.YtlfdeenekjklgaaGreatDoor
open Go.RowKit Go.Shelf
set_option linter.unusedSimpArgs false
set_option linter.unusedVariables false
set_option maxRecDepth 1000000
theorem infoPart : (Tryz.prog.info? 34).map (fun i => (i.zero, i.size, i.bytes)) = some (some (.agg #[.string ByteArray.empty, .string ByteArray.empty, .string ByteArray.empty, .string ByteArray.empty, .bool false]), 5, 72) := by kernel_rfl
theorem info_partA (h : (Tryz.prog.info? 34).map (fun i => (i.zero, i.size, i.bytes)) = some (some (.agg #[.string ByteArray.empty, .string ByteArray.empty, .string ByteArray.empty, .string ByteArray.empty, .bool false]), 5, 72)) : ∃ i, Tryz.prog.info? 34 = some i ∧ i.zero = some (.agg #[.string ByteArray.empty, .string ByteArray.empty, .string ByteArray.empty, .string ByteArray.empty, .bool false]) ∧ i.size = 5 ∧ i.bytes = 72 := by
  obtain ⟨i, hi, he⟩ := Option.map_eq_some_iff.1 h
  simp only [Prod.mk.injEq] at he
  exact ⟨i, hi, he.1, he.2.1, he.2.2⟩
theorem SgAt.grown {w w' : World} {r : Nat} (h : SgAt w) (hg : w.grownBy w' (some r)) (hne : some 1 ≠ some r) : SgAt w' := ⟨hg.cell h.c0 hne, hg.cell h.c1 hne, hg.cell h.c2 hne, hg.cell h.c3 hne⟩
theorem own_slice {w : World} {base n size : Nat} {T : TypeId} {v : Value} {xs : List Value} (h : w.ownsRow base T size v n xs) : ∃ av cv, v = .slice av n cv := by
  rcases h.2 with ⟨rfl, h0⟩ | ⟨g, cap, cur, rfl, _⟩
  · exact ⟨none, 0, by rw [h0]⟩
  · exact ⟨_, cap, rfl⟩
theorem grown_drewN' (w : World) (k : Nat) (row : Option Nat) : w.grownBy (w.drewN k) row := gb_of_below (below_drewN (Below.refl _ w) k) row
theorem dec_empty {α : Type} (l : List α) : decide (0 < l.length) = !l.isEmpty := by cases l <;> simp
theorem bhd_bad0 (mk s : List UInt8) (more : Bool) (a c q : Nat) (h : bhd mk s more a = .bad c q) : c ≠ 0 := by
  unfold bhd at h
  split at h
  · split at h
    · cases h
    · split at h <;> (injection h with h1 _; omega)
  · split at h
    · cases h
    · split at h <;> (injection h with h1 _; omega)
theorem grown_up {w A C : World} {r : Nat} {row : Option Nat} (h : w.grownBy A (some r)) (hg : A.grownBy C row) (hr : ∀ k, row = some k → k = r ∨ w.heap.size ≤ k) : w.grownBy C (some r) :=
  ⟨hg.os.trans h.os, hg.tape.trans h.tape, hg.output.trans h.output, Nat.le_trans h.size hg.size, fun k hk hne => (hg.block k (Nat.lt_of_lt_of_le hk h.size) (fun e => by
    rcases hr k e.symm with rfl | h1
    · exact hne rfl
    · omega)).trans (h.block k hk hne)⟩
/-- What the round's last region reads. -/
def RS (r fb : Nat) (lv : Value) (p : Prt) (W : World) : Prop := (W.cell? ⟨r, 3, none⟩ = some lv ∧ W.frozen? ⟨r, 3, none⟩ = false) ∧ W.cell? ⟨fb, 0, none⟩ = some (.string ⟨p.name.toArray⟩) ∧ W.cell? ⟨fb, 1, none⟩ = some (.string ⟨p.file.toArray⟩) ∧ W.cell? ⟨fb, 2, none⟩ = some (.string ⟨p.media.toArray⟩) ∧ W.cell? ⟨fb, 3, none⟩ = some (.string ⟨p.body.toArray⟩) ∧ W.cell? ⟨fb, 4, none⟩ = some (.bool p.has)
theorem rs_of {r fb : Nat} {s mk : List UInt8} {most : Int} {lv : Value} {p : Prt} {W : World} (h : RdAt W r s mk most lv) (hp : PrtIs W fb p) : RS r fb lv p W :=
  ⟨⟨h.cell 3 _ rfl, BlkIs.free h 3⟩, BlkIs.cell hp 0 _ rfl, BlkIs.cell hp 1 _ rfl, BlkIs.cell hp 2 _ rfl, BlkIs.cell hp 3 _ rfl, BlkIs.cell hp 4 _ rfl⟩
theorem rs_keep {r fb : Nat} {lv : Value} {p : Prt} {w : World} (h : RS r fb lv p w.drew) (o : Obj) (hf : fb < w.heap.size) (hr : r < w.heap.size) : RS r fb lv p ((w.alloc o).drew) :=
  ⟨⟨cell_keep (w := w) h.1.1 hr o, (World.frozen?_alloc_old w o ⟨r, 3, none⟩ (Nat.ne_of_lt hr)).trans h.1.2⟩, cell_keep (w := w) h.2.1 hf o, cell_keep (w := w) h.2.2.1 hf o, cell_keep (w := w) h.2.2.2.1 hf o, cell_keep (w := w) h.2.2.2.2.1 hf o, cell_keep (w := w) h.2.2.2.2.2 hf o⟩
theorem al_drew (w : World) (o : Obj) : Below w.heap.size w ((w.alloc o).drew) := ((Below.refl _ w).alloc (Nat.le_refl _) o).drew
theorem PrtIs.lt' {W : World} {b : Nat} {p : Prt} (h : PrtIs W b p) : b < W.heap.size := BlkIs.lt h
theorem bd_a (n : Nat) (hn : n ≤ 1073741824) : n + 1 ≤ maxLen ∧ (n + 1) * 72 ≤ 140737488355328 := by unfold maxLen; omega
theorem prtsV_add (l : List Prt) (p : Prt) : prtsV (l ++ [p]) = prtsV l ++ [.string ⟨p.name.toArray⟩, .string ⟨p.file.toArray⟩, .string ⟨p.media.toArray⟩, .string ⟨p.body.toArray⟩, .bool p.has] := prtsV_snoc l p
theorem sub2 (N y : Nat) (h : y + 2 = N) (hN : N ≤ 2147483650) : wrap64 ((N : Int) - 2) = (y : Int) ∧ IntKind.i64.wrap ((N : Int) - 2) = (y : Int) := by
  constructor
  · unfold wrap64; omega
  · rw [IntKind.wrap_i64]; omega
/-- What all answers. -/
def AllP (r : Nat) (s mk : List UInt8) (most : Int) (R : PsRes) (w : World) (e : Ending) (w' : World) : Prop :=
  e = .returned (hdErr R.2.1 R.2.2) ∧ w.grownBy w' (some r) ∧ (R.2.2 = 0 → ∃ lv, RdAt w' r s mk most lv ∧ w'.ownsRow w.heap.size 34 5 lv R.1.length (prtsV R.1))
/-- What holds ahead of a round. -/
def AllI (r : Nat) (s mk : List UInt8) (most : Int) (R : PsRes) (w : World) (iv : Value) (W : World) : Prop :=
  ∃ (o : Option Nat) (done : List Prt) (f : Nat) (av : Option Addr) (cv : Nat), iv = .int .i64 (optI o) ∧ (∀ a, o = some a → a + mk.length ≤ s.length ∧ s.length < f + a ∧ 4 * done.length ≤ a) ∧ RdAt W r s mk most (.slice av done.length cv) ∧ W.ownsRow w.heap.size 34 5 (.slice av done.length cv) done.length (prtsV done) ∧ w.grownBy W (some r) ∧ alF f mk s most done o = R
theorem cut_mk (s : List UInt8) (B a2 : Nat) : (⟨s.toArray⟩ : ByteArray).extract B (a2 - 2) = ⟨(cutB s B a2).toArray⟩ := by
  refine ba_ext ?_
  unfold cutB
  simp [ByteArray.data_extract, List.extract_eq_take_drop]
set_option maxHeartbeats 8000000 in
theorem rdall_any (r : Nat) (s mk : List UInt8) (most : Int) (m : Int) (w : World) (h : RdAt w r s mk most (.slice none 0 0)) (hs : s.length ≤ 2147483648) (hk : mk.length ≤ 4096) (hm : w.cell? ⟨2, 0, none⟩ = some (.int .i64 m)) (hg : SgAt w) :
    Calls Tryz.prog 26 #[.pointer (some ⟨r, 0, none⟩)] w (AllP r s mk most (alF (s.length + 2) mk s most [] (fst9 mk s 0)) w) := by
  have hr := h.lt
  have hgm : some 2 ≠ some r := by
    intro e; injection e with e
    have h0 : w.cell? ⟨r, 0, none⟩ = some (.string ⟨s.toArray⟩) := h.cell 0 _ rfl
    rw [← e, hm] at h0; cases h0
  have hgs : some 1 ≠ some r := by
    intro e; injection e with e
    have h0 : w.cell? ⟨r, 0, none⟩ = some (.string ⟨s.toArray⟩) := h.cell 0 _ rfl
    rw [← e, hg.c0] at h0; cases h0
  obtain ⟨R, hR⟩ : ∃ R, alF (s.length + 2) mk s most [] (fst9 mk s 0) = R := ⟨_, rfl⟩
  rw [hR]
  have hbd : ∀ a, fst9 mk s 0 = some a → a + mk.length ≤ s.length := fun a e => (fst9_bd mk s 0 a e (Nat.zero_le _)).1
  have hown0 : w.ownsRow w.heap.size 34 5 (.slice none 0 0) 0 (prtsV []) := World.ownsRow_nil w _ _ _
  obtain ⟨i0, hi0, hz0, hz1, hz2⟩ := info_partA infoPart
  have H0 := Lib.hid (And.intro h (And.intro hown0 (And.intro hR hbd)))
  have HM := Lib.hid (And.intro hm (And.intro hg (And.intro hgm (And.intro hgs (And.intro hs (And.intro hk hr))))))
  clear h hown0 hR hbd hm hg hgm hgs hs hk hr
  have hfi := rdfirst_any r s mk most (.slice none 0 0) 0 m w H0.out.1 HM.out.2.2.2.2.1 HM.out.2.2.2.2.2.1 (Nat.zero_le _) HM.out.1
  have HFI := Lib.hid hfi
  clear hfi
  go_enter Tryz.func26, Tryz.ntmps26
  go_upto_region 1 with fail
  go_wp2_with fail
  refine HFI.out.mono ?_
  rintro e w1 ⟨rfl, hb1⟩
  have hi1 : AllI r s mk most R w (.int .i64 (optI (fst9 mk s 0))) w1 := ⟨fst9 mk s 0, [], s.length + 2, none, 0, rfl, fun a e => ⟨H0.out.2.2.2 a e, by omega, by simp⟩, H0.out.1.later hb1, World.ownsRow_nil w1 _ _ _, gb_of_below hb1 _, H0.out.2.2.1⟩
  have HI1 := Lib.hid hi1
  clear hi1 hb1
  go_wp2
  go_loopw [3] (fun iv wr => AllI r s mk most R w iv wr) (fun iv _ => if intOf iv < 0 then 0 else s.length + 1 - (intOf iv).toNat)
  case atStart => exact HI1.out
  case round =>
    clear HI1 H0
    obtain ⟨o, done, f, av, cv, rfl, hb, hR, hown, hgr, hal⟩ := hrel
    have hmr := hgr.cell HM.out.1 HM.out.2.2.1
    have hsg := HM.out.2.1.grown hgr HM.out.2.2.2.1
    cases o with
    | none =>
      have hsh := rdshort_any r s mk most (.slice av done.length cv) wr hR
      have HSH := Lib.hid hsh
      have HG := Lib.hid hgr
      have HA := Lib.hid (hal.symm.trans (al_none f mk s most done))
      have b0 : decide ((-1 : Int) < 0) = true := rfl
      clear hsh hgr hal hb hR hown hmr hsg
      rw [show optI none = -1 from rfl]
      go_wp2_with (go_at_call 62; refine HSH.out.mono ?_; rintro e w1 ⟨rfl, rfl⟩)
      go_ret
      rw [HA.out]
      exact ⟨rfl, HG.out, fun e => by cases e⟩
    | some a =>
      obtain ⟨ha1, ha2, ha3⟩ := hb a rfl
      have ha4 : a ≤ s.length := by omega
      obtain ⟨f, rfl⟩ : ∃ k, f = k + 1 := ⟨f - 1, by omega⟩
      have hbh := rdbehind_any r s mk most av done.length cv a wr hR HM.out.2.2.2.2.1 HM.out.2.2.2.2.2.1 ha1
      have b0 : decide ((a : Int) < 0) = false := decide_eq_false (by omega)
      obtain ⟨BH, hBH⟩ : ∃ X, bhd mk s (decide (0 < done.length)) a = X := ⟨_, rfl⟩
      rw [hBH] at hbh
      rw [dec_empty] at hBH
      have HBH := Lib.hid hbh
      have HE := Lib.hid hBH
      have HN := Lib.hid (And.intro ha1 (And.intro ha2 (And.intro ha3 ha4)))
      have HR := Lib.hid (And.intro hR (And.intro hown (And.intro hgr (And.intro hmr hsg))))
      have HAL := Lib.hid hal
      clear hbh hBH ha1 ha2 ha3 ha4 hR hown hgr hmr hsg hal hb
      rw [show optI (some a) = (a : Int) from rfl]
      go_wp2_with fail
      refine HBH.out.mono ?_
      rintro e w1 ⟨rfl, hb1⟩
      cases BH with
      | over =>
        simp only [bhV]
        have HA := Lib.hid (HAL.out.symm.trans (al_over f mk s most done a HE.out))
        have HF := Lib.hid (And.intro (HR.out.2.2.1.trans (gb_of_below hb1 _)) (And.intro (HR.out.1.later hb1) (own_later HR.out.2.1 hb1)))
        clear hb1
        go_wp2
        go_ret
        rw [HA.out]
        exact ⟨rfl, HF.out.1, fun _ => ⟨_, HF.out.2.1, HF.out.2.2⟩⟩
      | bad c q =>
        simp only [bhV]
        have HA := Lib.hid (HAL.out.symm.trans (al_bad f mk s most done a c q HE.out))
        have HF := Lib.hid (HR.out.2.2.1.trans (gb_of_below hb1 (some r)))
        have hc0 := bhd_bad0 _ _ _ _ _ _ HE.out
        have HY := Lib.hid (hy_bad q c hc0)
        clear hb1 hc0
        go_wp2
        go_ret
        rw [HA.out]
        exact ⟨congrArg Ending.returned HY.out, HF.out, fun e => absurd e (bhd_bad0 _ _ _ _ _ _ HE.out)⟩
      | go q =>
        simp only [bhV]
        have hq := bhd_go mk s _ a q HE.out
        have HA := Lib.hid (HAL.out.symm.trans (al_go f mk s most done a q HE.out))
        have HQ := Lib.hid hq
        have hR1 := HR.out.1.later hb1
        have hg1 := HR.out.2.2.1.trans (gb_of_below hb1 (some r))
        have hO1 := own_later HR.out.2.1 hb1
        have c2 := hR1.cell 2 _ rfl
        have c3 := hR1.cell 3 _ rfl
        have H1 := Lib.hid (And.intro hR1 (And.intro hg1 hO1))
        clear hb1 hR1 hg1 hO1 hq HR HAL HE HBH
        go_upto_region 7 with fail
        by_cases hmo : (done.length : Int) = most
        · have e1 : ((done.length : Int) == most) = true := beq_of_eq hmo
          have e2 : decide ((done.length : Int) = most) = true := decide_eq_true hmo
          have HMO := Lib.hid hmo
          clear hmo
          go_quiet (fail)
          go_wp2
          go_ret
          rw [HA.out, if_pos HMO.out]
          exact ⟨rfl, H1.out.2.1.trans (grown_drewN' w1 nq _), fun e => by cases e⟩
        · have e1 : ((done.length : Int) == most) = false := beq_false_of_ne hmo
          have e2 : decide ((done.length : Int) = most) = false := decide_eq_false hmo
          have HA2 := Lib.hid (HA.out.trans (if_neg hmo))
          clear hmo HA
          go_quiet (fail)
          obtain ⟨w2, hw2⟩ : ∃ x, w1.drewN nq = x := ⟨_, rfl⟩
          have hb2 : Below w1.heap.size w1 w2 := by rw [← hw2]; exact below_drewN (Below.refl _ w1) nq
          rw [hw2]
          have hR2 := H1.out.1.later hb2
          have hg2 := H1.out.2.1.trans (gb_of_below hb2 (some r))
          have hO2 := own_later H1.out.2.2 hb2
          obtain ⟨⟨pH, B, c⟩, hH⟩ : ∃ x, hdF (s.length + 1) s q st00 = x := ⟨_, rfl⟩
          have hhd := rdhead_any r s mk most (.slice av done.length cv) q m w2 hR2 HM.out.2.2.2.2.1 HQ.out.2 (hg2.cell HM.out.1 HM.out.2.2.1) (HM.out.2.1.grown hg2 HM.out.2.2.2.1)
          have hbd := hdF_bd (s.length + 1) s q st00 HQ.out.2
          have ha2 := HA2.out
          unfold HdPost at hhd
          rw [hH] at hhd ha2 hbd
          simp only at hhd ha2 hbd
          have HA3 := Lib.hid ha2; have HBD := Lib.hid hbd; have HHD := Lib.hid hhd
          have H2 := Lib.hid (And.intro hR2 (And.intro hg2 hO2))
          clear hw2 hb2 hR2 hg2 hO2 hH hhd hbd ha2 HA2 H1 c2 c3
          by_cases hc0 : c = 0
          · subst hc0
            have hd0 : hdErr B 0 = .nilIface := rfl
            have hp0 : hdPl B 0 = B := rfl
            have hhd := HHD.out
            rw [hd0, hp0] at hhd
            unfold prtC at hhd
            have HHE := Lib.hid hhd
            have HA4 := Lib.hid (HA3.out.trans (if_neg (by simp)))
            clear hhd HA3 HHD hd0 hp0
            have hsz : (⟨s.toArray⟩ : ByteArray).size = s.length := size_mk s
            go_wp2_with fail
            refine HHE.out.mono ?_
            rintro e w3 ⟨P, rfl, hP, hb3⟩
            obtain rfl := hP trivial
            obtain ⟨fb, hfb⟩ : ∃ fb, w3.heap.size = fb := ⟨_, rfl⟩
            obtain ⟨w4, hw4⟩ : ∃ w4, w3.alloc (.cells #[.string ⟨P.name.toArray⟩, .string ⟨P.file.toArray⟩, .string ⟨P.media.toArray⟩, .string ⟨P.body.toArray⟩, .bool P.has] 34) = w4 := ⟨_, rfl⟩
            have hb34 : Below w3.heap.size w3 w4 := by rw [← hw4]; exact (Below.refl _ _).alloc (Nat.le_refl _) _
            have hb4 : Below w2.heap.size w2 w4 := hb3.trans (hb34.mono hb3.size)
            have hP4 : PrtIs w4 fb P := by rw [← hw4, ← hfb]; exact blkIs_new _ _ _
            have hR4 := H2.out.1.later hb4
            have hg4 := H2.out.2.1.trans (gb_of_below hb4 (some r))
            have hO4 := own_later H2.out.2.2 hb4
            have hfr : w.heap.size ≤ fb := by rw [← hfb]; exact Nat.le_trans H2.out.2.1.size hb3.size
            have hnf : (Value.slice av done.length cv).ownBlock ≠ some fb := fun e => by
              have h1 := (H2.out.2.2.lt fb e).2
              have h2 := hb3.size
              omega
            have c0 := hR4.cell 0 _ rfl
            have c1 := hR4.cell 1 _ rfl
            have HNF := Lib.hid hnf
            clear hnf
            have H4 := Lib.hid (And.intro hR4 (And.intro hg4 (And.intro hO4 (And.intro hP4 hfr))))
            have HW4 := Lib.hid hw4; have HFB := Lib.hid hfb
            clear hb3 hb34 hb4 hP4 hR4 hg4 hO4 hfr hw4 hfb H2 hP
            go_upto_region 12 with fail
            simp only [HW4.out, HFB.out]
            obtain ⟨X, hX⟩ : ∃ X, s.drop B = X := ⟨_, rfl⟩
            have hxx : (⟨s.toArray⟩ : ByteArray).extract B s.length = ⟨X.toArray⟩ := by rw [← hX, ← hsz]; exact ext_mk2 s B
            have x0 : (0 : Int) ≤ (B : Int) := Int.natCast_nonneg _
            have x1 : (B : Int) ≤ (s.length : Int) := by have := HBD.out.1; omega
            obtain ⟨bx, hbx⟩ : ∃ bx, mk.isPrefixOf X = bx := ⟨_, rfl⟩
            have hpc := fun W => pre_call X mk W
            rw [hbx] at hpc
            have ha5 := HA4.out
            rw [hX, hbx] at ha5
            have HA5 := Lib.hid ha5; have HPC := Lib.hid hpc; have HX := Lib.hid hX
            clear ha5 hpc hX hbx HA4 HHE HW4 HFB
            go_quiet (exact Calls.quiet_of_same (HPC.out _))
            cases bx with
            | true =>
              have HA6 := Lib.hid (HA5.out.trans (if_pos rfl))
              go_wp2
              go_ret
              rw [HA6.out]
              exact ⟨rfl, H4.out.2.1.trans (grown_drewN' w4 nq _), fun e => by cases e⟩
            | false =>
              have HA6 := Lib.hid (HA5.out.trans (if_neg (by simp)))
              obtain ⟨w5, hw5⟩ : ∃ x, w4.drewN nq = x := ⟨_, rfl⟩
              have hb5 : Below w4.heap.size w4 w5 := by rw [← hw5]; exact below_drewN (Below.refl _ w4) nq
              rw [hw5]
              have hR5 := H4.out.1.later hb5
              have hg5 := H4.out.2.1.trans (gb_of_below hb5 (some r))
              have hO5 := own_later H4.out.2.2.1 hb5
              have hP5 := PrtIs.later H4.out.2.2.2.1 hb5
              obtain ⟨F, hF⟩ : ∃ F, fst9 mk s B = F := ⟨_, rfl⟩
              have hfs := rdfirst_any r s mk most (.slice av done.length cv) B m w5 hR5 HM.out.2.2.2.2.1 HM.out.2.2.2.2.2.1 HBD.out.1 (hg5.cell HM.out.1 HM.out.2.2.1)
              have ha6 := HA6.out
              rw [hF] at hfs ha6
              have hFb : ∀ a2, F = some a2 → a2 + mk.length ≤ s.length ∧ B + 2 ≤ a2 := fun a2 e => by
                rw [e] at hF
                have h1 := fst9_bd mk s B a2 hF HBD.out.1
                have h2 := HBD.out.2 trivial
                exact ⟨h1.1, h1.2.1 (by omega)⟩
              have H5 := Lib.hid (And.intro hR5 (And.intro hg5 (And.intro hO5 (And.intro hP5 H4.out.2.2.2.2))))
              have HFS := Lib.hid hfs; have HA7 := Lib.hid ha6; have HFB := Lib.hid hFb
              clear hw5 hb5 hR5 hg5 hO5 hP5 hF hfs ha6 hFb H4 HA5 HA6 HPC hxx HX c0 c1
              go_wp2_with fail
              refine HFS.out.mono ?_
              rintro e w6 ⟨rfl, hb6⟩
              have hR6 := H5.out.1.later hb6
              have hg6 := H5.out.2.1.trans (gb_of_below hb6 (some r))
              have hO6 := own_later H5.out.2.2.1 hb6
              have hP6 := PrtIs.later H5.out.2.2.2.1 hb6
              have H6 := Lib.hid (And.intro hR6 (And.intro hg6 (And.intro hO6 (And.intro hP6 (And.intro H5.out.2.2.2.2 hb6)))))
              clear hb6 hR6 hg6 hO6 hP6
              cases F with
              | none =>
                rw [show optI none = -1 from rfl]
                have b1 : decide ((0 : Int) ≤ -1) = false := rfl
                have HI := Lib.hid (show AllI r s mk most R w (.int .i64 (-1)) w6 from ⟨none, done, f, av, cv, rfl, (fun a e => by cases e), H6.out.1, H6.out.2.2.1, H6.out.2.1, HA7.out.symm⟩)
                clear HA7 HFS H6 H5 HFB
                go_wp2
                refine ⟨HI.out, ?_⟩
                show (if (-1 : Int) < 0 then 0 else _) < if (a : Int) < 0 then 0 else s.length + 1 - ((a : Int)).toNat
                rw [if_pos (by decide), if_neg (by omega)]
                have := HN.out.2.2.2
                omega
              | some a2 =>
                rw [show optI (some a2) = (a2 : Int) from rfl]
                have hfa := HFB.out a2 rfl
                obtain ⟨y, rfl⟩ : ∃ y, a2 = y + 2 := ⟨a2 - 2, by omega⟩
                have b1 : decide ((0 : Int) ≤ ((y + 2 : Nat) : Int)) = true := decide_eq_true (Int.natCast_nonneg _)
                obtain ⟨a2, ha2⟩ : ∃ a2, y + 2 = a2 := ⟨_, rfl⟩
                have hcm := cut_mk s B (y + 2)
                rw [show y + 2 - 2 = y from rfl] at hcm
                rw [ha2] at b1 hfa hcm ⊢
                obtain ⟨s1, s2⟩ := sub2 a2 y ha2 (by have := HM.out.2.2.2.2.1; omega)
                have x2 : (B : Int) ≤ (y : Int) := by omega
                have x3 : (y : Int) ≤ (s.length : Int) := by omega
                have x4 : (0 : Int) ≤ (y : Int) := Int.natCast_nonneg _
                obtain ⟨D, hD⟩ : ∃ D, cutB s B a2 = D := ⟨_, rfl⟩
                rw [hD] at hcm
                have c0 := H6.out.1.cell 0 _ rfl
                have d3 := BlkIs.cell H6.out.2.2.2.1 3 _ rfl
                have e3 := BlkIs.free H6.out.2.2.2.1 3
                have HD := Lib.hid hD; have HFA := Lib.hid (And.intro hfa ha2)
                clear hD hfa ha2 HFB HFS H5
                go_upto_region 17 with fail
                obtain ⟨w7, hw7⟩ : ∃ x, w6.setCell ⟨fb, 3, none⟩ (.string ⟨D.toArray⟩) = x := ⟨_, rfl⟩
                have hg7 : w6.grownBy w7 (some fb) := by rw [← hw7]; exact gb_set w6 fb 3 _
                have hP7 : PrtIs w7 fb (withB P D) := by rw [← hw7]; exact BlkIs.set H6.out.2.2.2.1 3 _
                have hfr := H6.out.2.2.2.2.1
                have hrf : some r ≠ some fb := fun e => by injection e with e; have := HM.out.2.2.2.2.2.2; omega
                have hR7 : RdAt w7 r s mk most (.slice av done.length cv) := BlkIs.grown H6.out.1 hg7 (fun e => hrf e.symm)
                have hO7 := H6.out.2.2.1.kept hg7 (.inr HNF.out)
                have hG7 := grown_up H6.out.2.1 hg7 (fun k e => by injection e with e; exact .inr (by omega))
                obtain ⟨PW, hPW⟩ : ∃ PW, withB P D = PW := ⟨_, rfl⟩
                rw [hPW] at hP7
                have hPD : cutB s B a2 = D ∧ withB P D = PW := ⟨HD.out, hPW⟩
                have hsz7 : w.heap.size ≤ w7.heap.size := hG7.size
                have hdl : done.length ≤ 1073741824 := by have h1 := HN.out.2.2.1; have h2 := HN.out.2.2.2; have h3 := HM.out.2.2.2.2.1; omega
                have hbda := bd_a done.length hdl
                have hsn := prtsV_add done PW
                rw [hw7]
                have H7 := Lib.hid (And.intro hR7 (And.intro hP7 (And.intro hO7 (And.intro hG7 (And.intro hfr hsz7)))))
                have HPD := Lib.hid hPD; have HBA := Lib.hid hbda; have HSN := Lib.hid hsn; have HRF := Lib.hid hrf
                have hS : PrtIs w7.drew fb PW := PrtIs.later hP7 (below_drewN (Below.refl _ w7) 1)
                have hSa : PrtIs ((w7.alloc (.cells #[.string ⟨PW.name.toArray⟩, .string ⟨PW.file.toArray⟩, .string ⟨PW.media.toArray⟩, .string ⟨PW.body.toArray⟩, .bool PW.has] 34)).drew) fb PW := PrtIs.later hP7 (al_drew w7 _)
                have ct : w7.drew.cell? ⟨r, 3, none⟩ = some (.slice av done.length cv) := BlkIs.cell (RdAt.later hR7 (below_drewN (Below.refl _ w7) 1)) 3 _ rfl
                have cu : ((w7.alloc (.cells #[.string ⟨PW.name.toArray⟩, .string ⟨PW.file.toArray⟩, .string ⟨PW.media.toArray⟩, .string ⟨PW.body.toArray⟩, .bool PW.has] 34)).drew).cell? ⟨r, 3, none⟩ = some (.slice av done.length cv) := BlkIs.cell (RdAt.later hR7 (al_drew w7 _)) 3 _ rfl
                have HS := Lib.hid (And.intro hS hSa); have HCT := Lib.hid (And.intro ct cu)
                clear hw7 hg7 hR7 hP7 hO7 hG7 hfr hsz7 hPW hPD hdl hbda hsn hrf hS hSa ct cu H6 HD c0 d3 e3 hcm
                have hbL := H7.out.2.2.2.2.2
                refine wp_region_eachH (fun W => PrtIs W fb PW) 11 (by kernel_rfl) (by kernel_rfl) ?_
                refine eachH_take (i := 0) rfl (by kernel_rfl) (by kernel_rfl) (by kernel_rfl) HS.out.1 (v := ?_) ?_ ?_; rotate_left; · (intro W hS; clear hS; go_simp; with_reducible rfl)
                refine eachH_take (i := 1) rfl (by kernel_rfl) (by kernel_rfl) (by kernel_rfl) HS.out.1 (v := ?_) ?_ ?_; rotate_left; · (intro W hS; clear hS; go_simp; with_reducible rfl)
                refine eachH_take (i := 2) rfl (by kernel_rfl) (by kernel_rfl) (by kernel_rfl) HS.out.1 (v := ?_) ?_ ?_; rotate_left; · (intro W hS; clear hS; go_simp; with_reducible rfl)
                refine eachH_take (i := 3) rfl (by kernel_rfl) (by kernel_rfl) (by kernel_rfl) HS.out.1 (v := ?_) ?_ ?_; rotate_left; · (intro W hS; clear hS; go_simp; with_reducible rfl)
                refine eachH_take (i := 5) rfl (by kernel_rfl) (by kernel_rfl) (by kernel_rfl) HS.out.1 (v := ?_) ?_ ?_; rotate_left; · (intro W hS; have t0 := BlkIs.cell hS 0 _ rfl; have t1 := BlkIs.cell hS 1 _ rfl; have t2 := BlkIs.cell hS 2 _ rfl; have t3 := BlkIs.cell hS 3 _ rfl; have t4 := BlkIs.cell hS 4 _ rfl; clear hS; go_simp; with_reducible rfl)
                refine eachH2 (i := 4) (j := 6) (by kernel_rfl) rfl rfl ?_ ?_
                · intro K hK
                  have t0 := HCT.out.1
                  go_simp
                  refine hK _ _ HS.out.1 ?_
                  clear hK K t0
                  refine eachH1 (i := 6) (by kernel_rfl) rfl ?_
                  intro K hK
                  go_simp
                  refine hK _ _ HS.out.2 ?_
                  clear hK K
                  refine eachH1 (i := 7) (by kernel_rfl) rfl ?_
                  intro K hK
                  refine step_append_own rfl (.tmp 83) (.tmp 85) 22 rfl w.heap.size 34 i0 (.agg #[.string ByteArray.empty, .string ByteArray.empty, .string ByteArray.empty, .string ByteArray.empty, .bool false]) 5 72 Tryz.underlying22 hi0 hz0 hz1 hz2 rfl (by decide) _ _ _ rfl ((H7.out.2.2.1.alloc _).drew) ⟨w7.heap.size, 0, none⟩ 1 1 [.string ⟨PW.name.toArray⟩, .string ⟨PW.file.toArray⟩, .string ⟨PW.media.toArray⟩, .string ⟨PW.body.toArray⟩, .bool PW.has] rfl rfl (cells_new w7 34 _) (by simp [Value.oneCell']) HBA.out.1 HBA.out.2 (by simp; exact Nat.le_trans hbL (Nat.le_succ _)) ?_
                  intro v8 w8 hI8 hg8
                  have hR8 : RdAt w8 r s mk most (.slice av done.length cv) := BlkIs.grown (RdAt.later H7.out.1 (al_drew w7 _)) hg8 (fun e => absurd (H7.out.2.2.1.lt r e).1 (Nat.not_le.2 HM.out.2.2.2.2.2.2))
                  have hG8 := grown_up (grown_up H7.out.2.2.2.1 (gb_of_below (al_drew w7 _) none) (fun k e => by cases e)) hg8 (fun k e => .inr (H7.out.2.2.1.lt k e).1)
                  have hP8 : PrtIs w8 fb PW := BlkIs.grown (PrtIs.later H7.out.2.1 (al_drew w7 _)) hg8 HNF.out
                  obtain ⟨a8, k8, rfl⟩ := own_slice hI8
                  have hR9 : RdAt (w8.setCell ⟨r, 3, none⟩ (.slice a8 (done.length + 1) k8)) r s mk most (.slice a8 (done.length + 1) k8) := BlkIs.set hR8 3 _
                  have hO9 := hI8.kept (gb_set w8 r 3 (.slice a8 (done.length + 1) k8)) (.inr (fun e => absurd (hI8.lt r e).1 (Nat.not_le.2 HM.out.2.2.2.2.2.2)))
                  have hG9 := grown_up hG8 (gb_set w8 r 3 (.slice a8 (done.length + 1) k8)) (fun k e => by injection e with e; exact .inl e.symm)
                  rw [← HSN.out] at hO9
                  have HI := Lib.hid (show AllI r s mk most R w (.int .i64 (a2 : Int)) (w8.setCell ⟨r, 3, none⟩ (.slice a8 (done.length + 1) k8)) from ⟨some a2, done ++ [PW], f, a8, k8, rfl, (fun a' e => by
                    injection e with e
                    subst e
                    have h1 := HFA.out.1; have h2 := HBD.out.2 trivial; have h3 := HQ.out; have h4 := HN.out
                    rw [List.length_append, List.length_singleton]
                    exact ⟨h1.1, by omega, by omega⟩), by rw [List.length_append, List.length_singleton]; exact hR9, by rw [List.length_append, List.length_singleton]; exact hO9, hG9, by have h1 := HA7.out; rw [HFA.out.2, HPD.out.1, HPD.out.2] at h1; exact h1.symm⟩)
                  have c83 := BlkIs.cell hR8 3 _ rfl
                  have f83 := BlkIs.free hR8 3
                  refine hK _ _ hP8 ?_
                  clear hK K
                  refine eachH_take (i := 8) rfl (by kernel_rfl) (by kernel_rfl) (by kernel_rfl) hP8 (v := ?_) ?_ ?_; rotate_left; · (intro W hS; clear hS; go_simp; with_reducible rfl)
                  refine eachH_take (i := 9) rfl (by kernel_rfl) (by kernel_rfl) (by kernel_rfl) hP8 (v := ?_) ?_ ?_; rotate_left; · (intro W hS; clear hS; go_simp; with_reducible rfl)
                  have hP9 : PrtIs (w8.setCell ⟨r, 3, none⟩ (.slice a8 (done.length + 1) k8)) fb PW := BlkIs.grown hP8 (gb_set w8 r 3 _) HRF.out
                  have HP9 := Lib.hid hP9
                  clear hR9 hO9 hG9 hR8 hG8 hP8 hI8 hg8 hP9
                  refine eachH1 (i := 10) (by kernel_rfl) rfl ?_
                  intro K hK
                  go_simp
                  refine hK _ _ HP9.out ?_
                  clear hK K c83 f83
                  refine eachH_done (by kernel_rfl) ?_
                  go_simp
                  go_wp2
                  refine ⟨HI.out, ?_⟩
                  show (if (a2 : Int) < 0 then 0 else s.length + 1 - ((a2 : Int)).toNat) < if (a : Int) < 0 then 0 else s.length + 1 - ((a : Int)).toNat
                  rw [if_neg (by omega), if_neg (by omega)]
                  have h1 := HN.out; have h2 := HQ.out; have h3 := HFA.out; have h4 := HBD.out.2 trivial
                  omega
                · intro K hK
                  go_simp
                  refine hK _ _ HS.out.2 ?_
                  clear hK K
                  refine eachH1 (i := 4) (by kernel_rfl) rfl ?_
                  intro K hK
                  have t0 := HCT.out.2
                  go_simp
                  refine hK _ _ HS.out.2 ?_
                  clear hK K t0
                  refine eachH1 (i := 7) (by kernel_rfl) rfl ?_
                  intro K hK
                  refine step_append_own rfl (.tmp 83) (.tmp 85) 22 rfl w.heap.size 34 i0 (.agg #[.string ByteArray.empty, .string ByteArray.empty, .string ByteArray.empty, .string ByteArray.empty, .bool false]) 5 72 Tryz.underlying22 hi0 hz0 hz1 hz2 rfl (by decide) _ _ _ rfl ((H7.out.2.2.1.alloc _).drew) ⟨w7.heap.size, 0, none⟩ 1 1 [.string ⟨PW.name.toArray⟩, .string ⟨PW.file.toArray⟩, .string ⟨PW.media.toArray⟩, .string ⟨PW.body.toArray⟩, .bool PW.has] rfl rfl (cells_new w7 34 _) (by simp [Value.oneCell']) HBA.out.1 HBA.out.2 (by simp; exact Nat.le_trans hbL (Nat.le_succ _)) ?_
                  intro v8 w8 hI8 hg8
                  have hR8 : RdAt w8 r s mk most (.slice av done.length cv) := BlkIs.grown (RdAt.later H7.out.1 (al_drew w7 _)) hg8 (fun e => absurd (H7.out.2.2.1.lt r e).1 (Nat.not_le.2 HM.out.2.2.2.2.2.2))
                  have hG8 := grown_up (grown_up H7.out.2.2.2.1 (gb_of_below (al_drew w7 _) none) (fun k e => by cases e)) hg8 (fun k e => .inr (H7.out.2.2.1.lt k e).1)
                  have hP8 : PrtIs w8 fb PW := BlkIs.grown (PrtIs.later H7.out.2.1 (al_drew w7 _)) hg8 HNF.out
                  obtain ⟨a8, k8, rfl⟩ := own_slice hI8
                  have hR9 : RdAt (w8.setCell ⟨r, 3, none⟩ (.slice a8 (done.length + 1) k8)) r s mk most (.slice a8 (done.length + 1) k8) := BlkIs.set hR8 3 _
                  have hO9 := hI8.kept (gb_set w8 r 3 (.slice a8 (done.length + 1) k8)) (.inr (fun e => absurd (hI8.lt r e).1 (Nat.not_le.2 HM.out.2.2.2.2.2.2)))
                  have hG9 := grown_up hG8 (gb_set w8 r 3 (.slice a8 (done.length + 1) k8)) (fun k e => by injection e with e; exact .inl e.symm)
                  rw [← HSN.out] at hO9
                  have HI := Lib.hid (show AllI r s mk most R w (.int .i64 (a2 : Int)) (w8.setCell ⟨r, 3, none⟩ (.slice a8 (done.length + 1) k8)) from ⟨some a2, done ++ [PW], f, a8, k8, rfl, (fun a' e => by
                    injection e with e
                    subst e
                    have h1 := HFA.out.1; have h2 := HBD.out.2 trivial; have h3 := HQ.out; have h4 := HN.out
                    rw [List.length_append, List.length_singleton]
                    exact ⟨h1.1, by omega, by omega⟩), by rw [List.length_append, List.length_singleton]; exact hR9, by rw [List.length_append, List.length_singleton]; exact hO9, hG9, by have h1 := HA7.out; rw [HFA.out.2, HPD.out.1, HPD.out.2] at h1; exact h1.symm⟩)
                  have c83 := BlkIs.cell hR8 3 _ rfl
                  have f83 := BlkIs.free hR8 3
                  refine hK _ _ hP8 ?_
                  clear hK K
                  refine eachH_take (i := 8) rfl (by kernel_rfl) (by kernel_rfl) (by kernel_rfl) hP8 (v := ?_) ?_ ?_; rotate_left; · (intro W hS; clear hS; go_simp; with_reducible rfl)
                  refine eachH_take (i := 9) rfl (by kernel_rfl) (by kernel_rfl) (by kernel_rfl) hP8 (v := ?_) ?_ ?_; rotate_left; · (intro W hS; clear hS; go_simp; with_reducible rfl)
                  have hP9 : PrtIs (w8.setCell ⟨r, 3, none⟩ (.slice a8 (done.length + 1) k8)) fb PW := BlkIs.grown hP8 (gb_set w8 r 3 _) HRF.out
                  have HP9 := Lib.hid hP9
                  clear hR9 hO9 hG9 hR8 hG8 hP8 hI8 hg8 hP9
                  refine eachH1 (i := 10) (by kernel_rfl) rfl ?_
                  intro K hK
                  go_simp
                  refine hK _ _ HP9.out ?_
                  clear hK K c83 f83
                  refine eachH_done (by kernel_rfl) ?_
                  go_simp
                  go_wp2
                  refine ⟨HI.out, ?_⟩
                  show (if (a2 : Int) < 0 then 0 else s.length + 1 - ((a2 : Int)).toNat) < if (a : Int) < 0 then 0 else s.length + 1 - ((a : Int)).toNat
                  rw [if_neg (by omega), if_neg (by omega)]
                  have h1 := HN.out; have h2 := HQ.out; have h3 := HFA.out; have h4 := HBD.out.2 trivial
                  omega
          · have HY := Lib.hid (hdErr_ne B c hc0)
            have HA4 := Lib.hid (HA3.out.trans (if_pos hc0))
            have hhd := HHD.out
            rw [HY.out] at hhd
            have HHE := Lib.hid hhd
            clear hhd HA3 HHD
            go_wp2_with (go_at_call 64; refine HHE.out.mono ?_; rintro e w3 ⟨P, rfl, hP, hb3⟩)
            go_ret
            rw [HA4.out]
            exact ⟨congrArg Ending.returned HY.out.symm, (H2.out.2.1.trans (gb_of_below hb3 _)).trans (World.grownBy_alloc w3 _ _), fun e => absurd e hc0⟩
end Go.Proofs.YtlfdeenekjklgaaGreatDoor
