/- PsQ, PsR: texts of the seat, one behind the other (a claim holds at most sixty). Conditions: each theorem names its own. -/
import Derived.Test.YtlfdeenekjklgaaGreatDoorPk07
namespace Go.Proofs.YtlfdeenekjklgaaGreatDoor
open Go.RowKit
set_option linter.unusedSimpArgs false
set_option linter.unusedVariables false
set_option maxRecDepth 1000000
def noCr (l : List UInt8) : Prop := ∀ c ∈ l, c ≠ 13
theorem pre_cr : ∀ (mk a b : List UInt8), noCr mk → mk.isPrefixOf (a ++ 13 :: b) = true → mk.isPrefixOf a = true
  | [], a, b, _, _ => rfl
  | m :: ms, [], b, hm, h => by
    simp only [List.nil_append, List.isPrefixOf, Bool.and_eq_true, beq_iff_eq] at h
    exact absurd h.1 (hm m (by simp))
  | m :: ms, x :: xs, b, hm, h => by
    simp only [List.cons_append, List.isPrefixOf, Bool.and_eq_true, beq_iff_eq] at h ⊢
    exact ⟨h.1, pre_cr ms xs b (fun c hc => hm c (by simp [hc])) h.2⟩
theorem pre_take (t l : List UInt8) (k : Nat) (h : t.isPrefixOf (l.take k) = true) : t.isPrefixOf l = true := by
  rw [List.isPrefixOf_iff_prefix] at h ⊢
  exact h.trans (List.take_prefix k l)
theorem pre_app (t l : List UInt8) : t.isPrefixOf (t ++ l) = true := List.isPrefixOf_iff_prefix.2 (List.prefix_append _ _)
theorem nopre (t s : List UInt8) (ht : t ≠ []) (h : Lib.contains s t = false) (j : Nat) : t.isPrefixOf (s.drop j) = false := by
  rw [contains_fnd] at h
  have : fnd t s = none := by
    cases hf : fnd t s with
    | none => rfl
    | some i => rw [hf] at h; cases h
  exact fnd_nope t ht s this j
/-- No mark's line begins within a text in which the mark does not stand. -/
theorem no_in (mk body r : List UInt8) (hm : noCr mk) (h : ∀ j, mk.isPrefixOf (body.drop j) = false) (j : Nat) (hj : j < body.length) : (13 :: 10 :: mk).isPrefixOf ((body ++ 13 :: 10 :: r).drop j) = false := by
  cases hp : (13 :: 10 :: mk).isPrefixOf ((body ++ 13 :: 10 :: r).drop j) with
  | false => rfl
  | true =>
    exfalso
    rw [List.drop_append_of_le_length (by omega)] at hp
    cases hd : body.drop j with
    | nil => have := congrArg List.length hd; rw [List.length_drop] at this; simp at this; omega
    | cons x y =>
      rw [hd] at hp
      simp only [List.cons_append, List.isPrefixOf, Bool.and_eq_true, beq_iff_eq] at hp
      obtain ⟨_, hp⟩ := hp
      cases y with
      | nil => simp [List.isPrefixOf] at hp
      | cons z y =>
        simp only [List.cons_append, List.isPrefixOf, Bool.and_eq_true, beq_iff_eq] at hp
        have h2 := pre_cr mk y _ hm hp.2
        have e : body.drop (j + 2) = y := by rw [← List.drop_drop, hd]; rfl
        have := h (j + 2)
        rw [e, h2] at this
        cases this
theorem fnd_body (mk body r : List UInt8) (hm : noCr mk) (h : ∀ j, mk.isPrefixOf (body.drop j) = false) : fnd (13 :: 10 :: mk) (body ++ 13 :: 10 :: (mk ++ r)) = some body.length := by
  rw [fnd_skip _ _ _ (fun j hj => no_in mk body (mk ++ r) hm h j hj), fnd_here _ _ (by exact pre_app (13 :: 10 :: mk) r)]
  simp
theorem fnd_body_cut (mk body r : List UInt8) (k : Nat) (hm : noCr mk) (h : ∀ j, mk.isPrefixOf (body.drop j) = false) (hk : k < body.length + 2 + mk.length) : fnd (13 :: 10 :: mk) ((body ++ 13 :: 10 :: r).take k) = none := by
  cases hf : fnd (13 :: 10 :: mk) ((body ++ 13 :: 10 :: r).take k) with
  | none => rfl
  | some i =>
    exfalso
    obtain ⟨h1, h2, _⟩ := fnd_spec _ _ _ hf
    rw [List.length_take] at h1
    simp only [List.length_cons] at h1
    rw [List.drop_take] at h2
    have h3 := pre_take _ _ _ h2
    rw [no_in mk body r hm h i (by omega)] at h3
    cases h3
theorem fnd_line (line r : List UInt8) (h : noCr line) : fnd crlf (line ++ 13 :: 10 :: r) = some line.length := by
  rw [fnd_skip _ _ _ (fun j hj => by
    cases hd : line.drop j with
    | nil => have := congrArg List.length hd; rw [List.length_drop] at this; simp at this; omega
    | cons x y =>
      rw [List.drop_append_of_le_length (by omega), hd]
      have : x ≠ 13 := h x (List.mem_of_mem_drop (i := j) (by rw [hd]; simp))
      simp only [crlf, List.cons_append, List.isPrefixOf]
      rw [beq_false_of_ne (fun e => this e.symm), Bool.false_and]), fnd_here _ _ rfl]
  simp
theorem fnd_line_cut (line r : List UInt8) (k : Nat) (h : noCr line) (hk : k < line.length + 2) : fnd crlf ((line ++ 13 :: 10 :: r).take k) = none := by
  cases hf : fnd crlf ((line ++ 13 :: 10 :: r).take k) with
  | none => rfl
  | some i =>
    exfalso
    obtain ⟨h1, h2, _⟩ := fnd_spec _ _ _ hf
    rw [List.length_take] at h1
    simp only [crlf, List.length_cons, List.length_nil] at h1
    rw [List.drop_take] at h2
    have h3 := pre_take _ _ _ h2
    have h4 := (fnd_spec _ _ _ (fnd_line line r h)).2.2 i (by omega)
    rw [h3] at h4
    cases h4
theorem fld_noCr (l : List UInt8) (h : isFld l = true) : noCr l := fun c hc e => by
  unfold isFld at h
  rw [List.all_eq_true] at h
  have := h c hc
  rw [e] at this
  exact absurd this (by decide)
theorem bdr_noCr (l : List UInt8) (h : isMrk l = true) : noCr (45 :: 45 :: l) := by
  unfold isMrk at h
  simp only [Bool.and_eq_true] at h
  intro c hc
  simp only [List.mem_cons] at hc
  rcases hc with rfl | rfl | hc
  · decide
  · decide
  · rw [List.all_eq_true] at h
    intro e
    have := h.1 c hc
    rw [e] at this
    exact absurd this (by decide)
theorem noCr_app (a b : List UInt8) (ha : noCr a) (hb : noCr b) : noCr (a ++ b) := fun c hc => by
  rcases List.mem_append.1 hc with h | h
  · exact ha c h
  · exact hb c h
/-! Heads. -/
theorem drop_next (s line r : List UInt8) (a : Nat) (hd : s.drop a = line ++ 13 :: 10 :: r) : s.drop (a + line.length + 2) = r := by
  rw [Nat.add_assoc, ← List.drop_drop, hd, ← List.drop_drop, List.drop_left]; rfl
theorem hd_line (f : Nat) (s line r : List UInt8) (a : Nat) (st st' : HdSt) (hd : s.drop a = line ++ 13 :: 10 :: r) (hn : noCr line) (h0 : line ≠ []) (hs : hdStep st line = (st', 0)) : hdF (f + 1) s a st = hdF f s (a + line.length + 2) st' := by
  have hl := fnd_line line r hn
  obtain ⟨n, hnl⟩ : ∃ n, line.length = n + 1 := ⟨line.length - 1, by have := List.length_pos_iff.2 h0; omega⟩
  have ht : (s.drop a).take (n + 1) = line := by rw [hd, ← hnl, List.take_left]
  conv => lhs; unfold hdF
  rw [hd, hl, hnl]
  simp only
  rw [← hd, ht, hs]
  simp
theorem hd_end (f : Nat) (s r : List UInt8) (a : Nat) (st : HdSt) (hd : s.drop a = 13 :: 10 :: r) (hn : st.named = true) : hdF (f + 1) s a st = (st.p, a + 2, 0) := by
  have hl := fnd_line [] r (fun c hc => by simp at hc)
  conv => lhs; unfold hdF
  rw [hd, show (13 :: 10 :: r : List UInt8) = [] ++ 13 :: 10 :: r from rfl, hl]
  simp only [List.length_nil]
  rw [if_pos hn]
theorem hd_cut (f : Nat) (s line r : List UInt8) (a k : Nat) (st : HdSt) (hd : s.drop a = (line ++ 13 :: 10 :: r).take k) (hn : noCr line) (hk : k < line.length + 2) : hdF (f + 1) s a st = (st.p, s.length, 154) := by
  conv => lhs; unfold hdF
  rw [hd, fnd_line_cut line r k hn hk]
theorem take_past (line r : List UInt8) (k : Nat) (hk : line.length + 2 ≤ k) : (line ++ 13 :: 10 :: r).take k = line ++ 13 :: 10 :: r.take (k - line.length - 2) := by
  rw [List.take_append]
  have e : k - line.length = (k - line.length - 2) + 2 := by omega
  rw [e, List.take_succ_cons, List.take_succ_cons, List.take_of_length_le (by omega)]
  simp
/-- What the head of a printed part makes. -/
theorem fld_line (p : Prt) (h : okQ p = true) : isFld (lineL p) = true := by
  unfold lineL
  rw [isFld_append, isFld_val p h, Bool.and_true]
  decide
theorem pl_line (p : Prt) (h : okP p = true) : plR (lineL p) = ([67, 111, 110, 116, 101, 110, 116, 45, 68, 105, 115, 112, 111, 115, 105, 116, 105, 111, 110], valL p, 0) := by
  unfold okP okL at h
  simp only [Bool.and_eq_true, decide_eq_true_eq] at h
  rw [plR_at (lineL p) 19 rfl (ix_cd _)]
  have h2 : ((lineL p).take 19).all isSg = true := by unfold lineL cdB; exact (by decide : (([67, 111, 110, 116, 101, 110, 116, 45, 68, 105, 115, 112, 111, 115, 105, 116, 105, 111, 110] : List UInt8).all isSg = true))
  have h3 : (lineL p).drop 20 = 32 :: valL p := rfl
  rw [plK_ok _ _ (by decide) (by decide) h2 (by rw [h3]; exact (by rw [show isFld (32 :: valL p) = (isFb 32 && isFld (valL p)) from rfl, isFld_val p h.1]; rfl)) (by rw [h3, trim_sp, trim_val]; exact h.2.1), h3, trim_sp, trim_val]
  rfl
theorem pl_med (p : Prt) (h : okP p = true) : plR (ctB ++ p.media) = ([67, 111, 110, 116, 101, 110, 116, 45, 84, 121, 112, 101], p.media, 0) := by
  unfold okP okL at h
  simp only [Bool.and_eq_true, decide_eq_true_eq] at h
  obtain ⟨_, _, h4, h5⟩ := okQ_parts h.1
  rw [plR_at (ctB ++ p.media) 12 rfl (ix_ct _)]
  have h2 : ((ctB ++ p.media).take 12).all isSg = true := by unfold ctB; exact (by decide : (([67, 111, 110, 116, 101, 110, 116, 45, 84, 121, 112, 101] : List UInt8).all isSg = true))
  have h3 : (ctB ++ p.media).drop 13 = 32 :: p.media := rfl
  rw [plK_ok _ _ (by decide) (by decide) h2 (by rw [h3]; exact (by rw [show isFld (32 :: p.media) = (isFb 32 && isFld p.media) from rfl, h4]; rfl)) (by rw [h3, trim_sp, h5]; exact h.2.2), h3, trim_sp, h5]
  rfl
theorem valP_q (v t : List UInt8) (hv : isFld v = true) : valP (qtL v ++ t) = some (v, (qtL v).length) := by
  have e : qtL v ++ t = 34 :: (escL v ++ 34 :: t) := by simp [qtL]
  rw [e]
  have h0 : runL isSg (34 :: (escL v ++ 34 :: t)) = 0 := by rw [runL_cons, show isSg 34 = false from by decide]; rfl
  unfold valP
  rw [h0, if_pos rfl]
  show (if (34 : UInt8) = 34 then (unqT (escL v ++ 34 :: t)).map (fun x => (x.1, x.2 + 1)) else none) = _
  rw [if_pos rfl, unqT_esc v t hv]
  simp [qtL]
theorem parStep_q (nm v t : List UInt8) (h1 : isTok nm = true) (hv : isFld v = true) : parStep (59 :: 32 :: (nm ++ 61 :: (qtL v ++ t))) = some (some (some (nm, v, true), 3 + nm.length + (qtL v).length)) := by
  have hn := runL_of isSg nm (61 :: (qtL v ++ t)) (tok_all h1) (fun c hc => by simp at hc; subst hc; decide)
  have hb0 : runL isBl (nm ++ 61 :: (qtL v ++ t)) = 0 := by
    cases nm with
    | nil => exact absurd rfl (tok_ne h1)
    | cons c r =>
      have : isSg c = true := by have := tok_all h1; simp at this; exact this.1
      rw [List.cons_append, runL_cons, sg_nbl c this]; rfl
  have hb : runL isBl (32 :: (nm ++ 61 :: (qtL v ++ t))) = 1 := by rw [runL_cons, if_pos (by decide), hb0]
  have hb' : runL isBl (59 :: 32 :: (nm ++ 61 :: (qtL v ++ t))) = 0 := by rw [runL_cons, if_neg (by decide)]
  have hne : nm.length ≠ 0 := by have := List.length_pos_iff.2 (tok_ne h1); omega
  unfold parStep
  rw [hb', if_pos (by rfl)]
  simp only [Nat.zero_add, List.drop_succ_cons, List.drop_zero, hb, hn]
  rw [if_neg hne]
  have hd : (32 :: (nm ++ 61 :: (qtL v ++ t))).drop (1 + nm.length) = 61 :: (qtL v ++ t) := by rw [Nat.add_comm, List.drop_succ_cons, List.drop_left]
  have hd2 : (nm ++ 61 :: (qtL v ++ t)).drop (1 + nm.length) = qtL v ++ t := by rw [Nat.add_comm, ← List.drop_drop, List.drop_left]; rfl
  have ht1 : (nm ++ 61 :: (qtL v ++ t)).take nm.length = nm := List.take_left
  rw [hd, hd2, ht1, if_pos (by rfl), valP_q v t hv]
  simp
  omega
def vps (p : Prt) : List Par := (nmL, p.name, true) :: (if p.has = true then [(flL, p.file, true)] else [])
theorem par_val (p : Prt) (h : okQ p = true) : parR ((valL p).drop 9) = (vps p, (valL p).length - 9, 0) := by
  obtain ⟨h1, h2, _⟩ := okQ_parts h
  have htail : ∃ T, (valL p).drop 9 = 59 :: 32 :: (nmL ++ 61 :: (qtL p.name ++ T)) ∧ T = if p.has then fnB ++ qtL p.file else [] := ⟨_, by unfold valL; rfl, rfl⟩
  obtain ⟨T, hT, hT2⟩ := htail
  have hlen : (valL p).length - 9 = ((valL p).drop 9).length := by rw [List.length_drop]
  rw [hlen, hT]
  unfold parR
  have hs := parStep_q nmL p.name T (by decide) h1
  rw [parP_step _ _ _ hs]
  have hdr : (59 :: 32 :: (nmL ++ 61 :: (qtL p.name ++ T))).drop (3 + nmL.length + (qtL p.name).length) = T := by
    have e : (59 :: 32 :: (nmL ++ 61 :: (qtL p.name ++ T)) : List UInt8) = (59 :: 32 :: (nmL ++ 61 :: qtL p.name)) ++ T := by simp
    have e2 : 3 + nmL.length + (qtL p.name).length = (59 :: 32 :: (nmL ++ 61 :: qtL p.name) : List UInt8).length := by simp; omega
    rw [e, e2, List.drop_left]
  rw [hdr]
  have hP : parP T = some ((if p.has = true then [(flL, p.file, true)] else []), T.length) := by
    cases hh : p.has with
    | false => rw [hh] at hT2; rw [hT2]; rfl
    | true =>
      rw [hh] at hT2
      have e : T = 59 :: 32 :: (flL ++ 61 :: (qtL p.file ++ [])) := by rw [hT2]; simp [fnB, flL]
      have hs2 := parStep_q flL p.file [] (by decide) h2
      have hl : 3 + flL.length + (qtL p.file).length = (59 :: 32 :: (flL ++ 61 :: (qtL p.file ++ [])) : List UInt8).length := by simp; omega
      rw [e, parP_step _ _ _ hs2, hl, List.drop_length]
      rfl
  rw [hP]
  simp only [Option.map_some, Option.toList_some, List.singleton_append, vps, List.length_cons, List.length_append, Prod.mk.injEq, true_and, and_true]
  omega
theorem dis_val (p : Prt) (h : okQ p = true) : disR (valL p) = (fdL, vps p, 0) := by
  have hr : runL isSg (valL p) = 9 := by
    have e : valL p = fdL ++ 59 :: (valL p).drop 10 := by unfold valL; rfl
    rw [e, runL_of isSg fdL _ (by decide) (fun c hc => by simp at hc; subst hc; decide)]
    rfl
  have hp := par_val p h
  have h9 : 9 ≤ (valL p).length := by
    unfold valL
    rw [List.length_append, List.length_append]
    have : fdB.length = 16 := rfl
    omega
  have e9 : (valL p).take 9 = fdL := by unfold valL; rfl
  have l1 : lowL nmL = nmL := by decide
  have l2 : lowL flL = flL := by decide
  have l3 : lowL fdL = fdL := by decide
  have l4 : ¬ nmL = flL := by decide
  have hv : ∀ q ∈ vps p, q.2.2 = true := by
    intro q hq
    unfold vps at hq
    cases hh : p.has with
    | false => rw [hh] at hq; simp at hq; rw [hq]
    | true => rw [hh] at hq; simp at hq; rcases hq with rfl | rfl <;> rfl
  have hm : (vps p).map lowP = vps p := by
    unfold vps
    cases hh : p.has with
    | false => simp [lowP, l1]
    | true => simp [lowP, l1, l2]
  have hN : ((vps p).map fun q => lowL q.1).Nodup := by
    unfold vps
    cases hh : p.has with
    | false => simp
    | true => simp [l1, l2, l4]
  have hg := dis_good (valL p) (valL p) 9 (trim_val p) hr (vps p) ((valL p).length - 9) 0 hp ⟨by omega, rfl, by omega, hv, hN⟩
  rw [hg, e9, l3, hm]
def headP (p : Prt) : Prt := ⟨p.name, p.file, [], [], p.has⟩
theorem okQ_fil0 (p : Prt) (h : okQ p = true) (hh : p.has = false) : p.file = [] := by
  unfold okQ at h
  simp only [Bool.and_eq_true, hh, Bool.false_or, List.isEmpty_iff] at h
  exact h.2
theorem dsp_val (p : Prt) (h : okQ p = true) : dsp p00 (valL p) = some (headP p) := by
  unfold dsp
  rw [dis_val p h]
  have e : dspL (vps p) p00 = (headP p, true) := by
    unfold dspL vps headP
    have hne : ¬ flL = nmL := by decide
    cases hh : p.has with
    | false => rw [okQ_fil0 p h hh]; simp [dspS, p00]
    | true => simp [dspS, hne, p00]
  rw [if_pos ⟨rfl, rfl, by rw [e]⟩, e]
theorem step_cd (p : Prt) (h : okP p = true) : hdStep st00 (lineL p) = (⟨headP p, true, false⟩, 0) := by
  have hq : okQ p = true := by unfold okP at h; simp only [Bool.and_eq_true] at h; exact h.1
  unfold hdStep
  rw [pl_line p h]
  simp only
  rw [if_neg (by simp), if_pos (by decide), if_neg (by simp [st00]), show st00.p = p00 from rfl, dsp_val p hq]
  rfl
theorem step_ct (p : Prt) (h : okP p = true) : hdStep ⟨headP p, true, false⟩ (ctB ++ p.media) = (⟨{ headP p with media := p.media }, true, true⟩, 0) := by
  unfold hdStep
  rw [pl_med p h]
  simp only
  rw [if_neg (by simp), if_neg (by decide), if_pos (by decide), if_neg (by simp)]
/-- What of a printed part stands behind its mark's line. -/
def tailB (p : Prt) (X : List UInt8) : List UInt8 := lineL p ++ 13 :: 10 :: (medL p ++ 13 :: 10 :: (p.body ++ 13 :: 10 :: X))
theorem partB_eq (b : List UInt8) (p : Prt) (X : List UInt8) : partB b p ++ X = (45 :: 45 :: b) ++ 13 :: 10 :: tailB p X := by
  unfold partB hdL tailB
  simp
theorem head_back (s X : List UInt8) (a f : Nat) (p : Prt) (h : okP p = true) (hd : s.drop a = tailB p X) : hdF (f + 3) s a st00 = ({ headP p with media := p.media }, a + (lineL p).length + 2 + (medL p).length + 2, 0) ∧ s.drop (a + (lineL p).length + 2 + (medL p).length + 2) = p.body ++ 13 :: 10 :: X := by
  have hq : okQ p = true := by unfold okP at h; simp only [Bool.and_eq_true] at h; exact h.1
  unfold tailB at hd
  have hd2 := drop_next s _ _ a hd
  rw [show f + 3 = (f + 2) + 1 from rfl, hd_line (f + 2) s (lineL p) _ a st00 _ hd (fld_noCr _ (fld_line p hq)) (by unfold lineL cdB; simp) (step_cd p h)]
  by_cases hm : p.media = []
  · have e : medL p = [] := by unfold medL; rw [if_pos hm]
    rw [e, List.nil_append] at hd2
    rw [e, show f + 2 = (f + 1) + 1 from rfl, hd_end (f + 1) s _ _ _ hd2 rfl, hm]
    refine ⟨by simp [headP], ?_⟩
    have := drop_next s [] _ _ hd2
    simpa using this
  · have e : medL p = (ctB ++ p.media) ++ [13, 10] := by unfold medL; rw [if_neg hm]
    rw [e, List.append_assoc] at hd2
    obtain ⟨_, _, h4, _⟩ := okQ_parts hq
    have hnc : noCr (ctB ++ p.media) := fld_noCr _ (by rw [isFld_append, h4, Bool.and_true]; decide)
    have hd3 := drop_next s (ctB ++ p.media) _ _ hd2
    have hd4 := drop_next s [] _ _ hd3
    rw [e, show f + 2 = (f + 1) + 1 from rfl, hd_line (f + 1) s (ctB ++ p.media) _ _ _ _ hd2 hnc (by unfold ctB; simp) (step_ct p h), hd_end f s _ _ _ hd3 rfl]
    have el : ((ctB ++ p.media) ++ [13, 10] : List UInt8).length = (ctB ++ p.media).length + 2 := by rw [List.length_append]; rfl
    refine ⟨?_, ?_⟩
    · simp only [Prod.mk.injEq, true_and, and_true]
      rw [el]
      simp; omega
    · rw [← hd4]
      congr 1
      rw [el]
      simp; omega
end Go.Proofs.YtlfdeenekjklgaaGreatDoor
namespace Go.Proofs.YtlfdeenekjklgaaGreatDoor
open Go.RowKit
set_option linter.unusedSimpArgs false
set_option linter.unusedVariables false
set_option maxRecDepth 1000000
theorem bhd_line (mk s T : List UInt8) (more : Bool) (a : Nat) (hd : s.drop (a + mk.length) = 13 :: 10 :: T) : bhd mk s more a = .go (a + mk.length + 2) := by
  have hl := congrArg List.length hd
  rw [List.length_drop] at hl
  simp only [List.length_cons] at hl
  unfold bhd
  rw [hd, if_neg (by cases more <;> simp [List.isPrefixOf]), List.dropWhile_cons_of_neg (by decide), if_pos (by rfl)]
  congr 1
  simp only [List.length_cons]
  omega
theorem bhd_over (mk s E : List UInt8) (a : Nat) (hd : s.drop (a + mk.length) = 45 :: 45 :: E) (hE : E = [] ∨ crlf.isPrefixOf E = true) : bhd mk s true a = .over := by
  unfold bhd
  rw [hd, if_pos (by simp [List.isPrefixOf]), if_pos (by simpa using hE)]
theorem bhd_none (mk s : List UInt8) (more : Bool) (a : Nat) (hd : s.drop (a + mk.length) = []) : bhd mk s more a = .bad 154 s.length := by
  unfold bhd
  rw [hd, if_neg (by cases more <;> simp [List.isPrefixOf]), if_neg (by simp [crlf, List.isPrefixOf]), if_pos (by simp)]
theorem bhd_cr (mk s : List UInt8) (more : Bool) (a : Nat) (hd : s.drop (a + mk.length) = [13]) : bhd mk s more a = .bad 154 s.length := by
  unfold bhd
  rw [hd, if_neg (by cases more <;> simp [List.isPrefixOf]), List.dropWhile_cons_of_neg (by decide), if_neg (by simp [crlf, List.isPrefixOf]), if_pos (by simp)]
theorem bhd_dash (mk s : List UInt8) (a : Nat) (hd : s.drop (a + mk.length) = [45]) : bhd mk s true a = .bad 154 s.length := by
  unfold bhd
  rw [hd, if_neg (by simp [List.isPrefixOf]), List.dropWhile_cons_of_neg (by decide), if_neg (by simp [crlf, List.isPrefixOf]), if_pos (by simp)]
theorem al_none (f : Nat) (mk s : List UInt8) (most : Int) (l : List Prt) : alF f mk s most l none = ([], s.length, 154) := by cases f <;> rfl
theorem al_go (f : Nat) (mk s : List UInt8) (most : Int) (l : List Prt) (a q : Nat) (h : bhd mk s (!l.isEmpty) a = .go q) : alF (f + 1) mk s most l (some a) =
      if (l.length : Int) = most then ([], a, 153)
      else if (hdF (s.length + 1) s q st00).2.2 ≠ 0 then ([], (hdF (s.length + 1) s q st00).2.1, (hdF (s.length + 1) s q st00).2.2)
      else if mk.isPrefixOf (s.drop (hdF (s.length + 1) s q st00).2.1) = true then ([], (hdF (s.length + 1) s q st00).2.1, 152)
      else match fst9 mk s (hdF (s.length + 1) s q st00).2.1 with
        | none => alF f mk s most l none
        | some a2 => alF f mk s most (l ++ [withB (hdF (s.length + 1) s q st00).1 (cutB s (hdF (s.length + 1) s q st00).2.1 a2)]) (some a2) := by
  conv => lhs; unfold alF
  rw [h]; rfl
theorem al_bad (f : Nat) (mk s : List UInt8) (most : Int) (l : List Prt) (a c q : Nat) (h : bhd mk s (!l.isEmpty) a = .bad c q) : alF (f + 1) mk s most l (some a) = ([], q, c) := by
  conv => lhs; unfold alF
  rw [h]
theorem al_over (f : Nat) (mk s : List UInt8) (most : Int) (l : List Prt) (a : Nat) (h : bhd mk s (!l.isEmpty) a = .over) : alF (f + 1) mk s most l (some a) = (l, 0, 0) := by
  conv => lhs; unfold alF
  rw [h]
theorem std_body (t : List UInt8) (p : Prt) (h : std t p = false) : Lib.contains p.body t = false := by
  unfold std at h
  simp only [Bool.or_eq_false_iff] at h
  exact h.1
theorem partB_size (b : List UInt8) (p : Prt) : (partB b p).length = (45 :: 45 :: b : List UInt8).length + 2 + (lineL p).length + 2 + (medL p).length + 2 + p.body.length + 2 := by
  unfold partB hdL
  simp only [List.length_append, List.length_cons, List.length_nil]
  omega
theorem fst9_pos (mk s : List UInt8) (a : Nat) (h : 0 < a) : fst9 mk s a = (fnd (13 :: 10 :: mk) (s.drop a)).map (fun i => a + i + 2) := by
  unfold fst9
  rw [if_neg (by omega)]
/-- One printed part is taken. -/
theorem al_part (f : Nat) (b s r : List UInt8) (most : Int) (done : List Prt) (a : Nat) (p : Prt) (hb : isMrk b = true) (hp : okP p = true) (hs : std (45 :: 45 :: b) p = false) (hd : s.drop a = partB b p ++ ((45 :: 45 :: b) ++ r)) (hm : (done.length : Int) ≠ most) :
    alF (f + 1) (45 :: 45 :: b) s most done (some a) = alF f (45 :: 45 :: b) s most (done ++ [p]) (some (a + (partB b p).length)) := by
  have hnc := bdr_noCr b hb
  obtain ⟨mk, hmk⟩ : ∃ mk, (45 :: 45 :: b : List UInt8) = mk := ⟨_, rfl⟩
  have hpl := partB_size b p
  have hne : mk ≠ [] := by rw [← hmk]; simp
  rw [partB_eq] at hd
  rw [hmk] at hd hnc hs hpl ⊢
  have hd1 : s.drop (a + mk.length) = 13 :: 10 :: tailB p (mk ++ r) := by rw [← List.drop_drop, hd, List.drop_left]
  have hd2 : s.drop (a + mk.length + 2) = tailB p (mk ++ r) := by rw [← List.drop_drop, hd1]; rfl
  have hl := congrArg List.length hd1
  rw [List.length_drop] at hl
  simp only [List.length_cons] at hl
  obtain ⟨g, hg⟩ : ∃ g, s.length + 1 = g + 3 := ⟨s.length - 2, by omega⟩
  obtain ⟨h1, h2⟩ := head_back s (mk ++ r) (a + mk.length + 2) g p hp hd2
  have hno := nopre mk p.body hne (std_body mk p hs)
  rw [al_go f mk s most done a _ (bhd_line mk s _ _ a hd1), if_neg hm, hg, h1]
  simp only
  rw [if_neg (by simp), h2, if_neg (by
    intro e
    have := pre_cr mk p.body _ hnc e
    have h3 := hno 0
    rw [List.drop_zero, this] at h3
    cases h3), fst9_pos _ _ _ (by omega), h2, fnd_body mk p.body r hnc hno]
  simp only [Option.map_some]
  have e1 : a + mk.length + 2 + (lineL p).length + 2 + (medL p).length + 2 + p.body.length + 2 = a + (partB b p).length := by omega
  have e2 : cutB s (a + mk.length + 2 + (lineL p).length + 2 + (medL p).length + 2) (a + mk.length + 2 + (lineL p).length + 2 + (medL p).length + 2 + p.body.length + 2) = p.body := by
    unfold cutB
    rw [h2, show a + mk.length + 2 + (lineL p).length + 2 + (medL p).length + 2 + p.body.length + 2 - 2 - (a + mk.length + 2 + (lineL p).length + 2 + (medL p).length + 2) = p.body.length by omega, List.take_left]
  rw [e2, e1]
  rfl
theorem rest_mk (b Y : List UInt8) (l : List Prt) : ∃ r, l.flatMap (partB b) ++ ((45 :: 45 :: b) ++ Y) = (45 :: 45 :: b) ++ r := by
  cases l with
  | nil => exact ⟨Y, rfl⟩
  | cons p l => exact ⟨_, by rw [List.flatMap_cons, List.append_assoc, partB_eq]⟩
theorem al_back (b s E : List UInt8) (most : Int) (hb : isMrk b = true) (hE : E = [] ∨ crlf.isPrefixOf E = true) : ∀ (l done : List Prt) (a f : Nat), s.drop a = l.flatMap (partB b) ++ ((45 :: 45 :: b) ++ 45 :: 45 :: E) → (∀ p ∈ l, okP p = true ∧ std (45 :: 45 :: b) p = false) → (done ≠ [] ∨ l ≠ []) → ((done.length + l.length : Nat) : Int) ≤ most → l.length < f →
    alF f (45 :: 45 :: b) s most done (some a) = (done ++ l, 0, 0)
  | [], done, a, 0, _, _, _, _, hf => by simp at hf
  | [], done, a, f + 1, hd, _, hne, _, _ => by
    have hdn : done ≠ [] := by rcases hne with h | h; exact h; exact absurd rfl h
    have h1 : s.drop (a + (45 :: 45 :: b : List UInt8).length) = 45 :: 45 :: E := by rw [← List.drop_drop, hd, List.flatMap_nil, List.nil_append, List.drop_left]
    have he : (!done.isEmpty) = true := by cases done with | nil => exact absurd rfl hdn | cons => rfl
    rw [al_over f _ s most done a (by rw [he]; exact bhd_over _ s E a h1 hE), List.append_nil]
  | p :: l, done, a, 0, _, _, _, _, hf => by simp at hf
  | p :: l, done, a, f + 1, hd, hok, _, hm, hf => by
    obtain ⟨r, hr⟩ := rest_mk b (45 :: 45 :: E) l
    have hp := hok p (by simp)
    rw [List.flatMap_cons, List.append_assoc] at hd
    have hd' := hd
    rw [hr] at hd'
    simp only [List.length_cons] at hm hf
    rw [al_part f b s r most done a p hb hp.1 hp.2 hd' (by omega)]
    have hd2 : s.drop (a + (partB b p).length) = l.flatMap (partB b) ++ ((45 :: 45 :: b) ++ 45 :: 45 :: E) := by rw [← List.drop_drop, hd, List.drop_left]
    rw [al_back b s E most hb hE l (done ++ [p]) _ f hd2 (fun q hq => hok q (by simp [hq])) (Or.inl (by simp)) (by rw [List.length_append, List.length_singleton]; omega) (by omega)]
    simp
theorem al_less (b s Y : List UInt8) (most : Int) (hb : isMrk b = true) : ∀ (l done : List Prt) (a f : Nat), s.drop a = l.flatMap (partB b) ++ ((45 :: 45 :: b) ++ Y) → (∀ p ∈ l, okP p = true ∧ std (45 :: 45 :: b) p = false) → l ≠ [] → ((done.length + l.length : Nat) : Int) = most + 1 → l.length < f →
    ∃ a', alF f (45 :: 45 :: b) s most done (some a) = ([], a', 153)
  | [], _, _, _, _, _, hne, _, _ => absurd rfl hne
  | p :: l, done, a, 0, _, _, _, _, hf => by simp at hf
  | p :: l, done, a, f + 1, hd, hok, _, hm, hf => by
    obtain ⟨r, hr⟩ := rest_mk b Y l
    have hp := hok p (by simp)
    rw [List.flatMap_cons, List.append_assoc] at hd
    have hd' := hd
    rw [hr] at hd'
    simp only [List.length_cons] at hm hf
    by_cases hl : l = []
    · subst hl
      rw [partB_eq] at hd'
      have hd1 : s.drop (a + (45 :: 45 :: b : List UInt8).length) = 13 :: 10 :: tailB p ((45 :: 45 :: b) ++ r) := by rw [← List.drop_drop, hd', List.drop_left]
      simp only [List.length_nil] at hm
      rw [al_go f _ s most done a _ (bhd_line _ s _ _ a hd1), if_pos (by omega)]
      exact ⟨_, rfl⟩
    · have hln := List.length_pos_iff.2 hl
      rw [al_part f b s r most done a p hb hp.1 hp.2 hd' (by omega)]
      have hd2 : s.drop (a + (partB b p).length) = l.flatMap (partB b) ++ ((45 :: 45 :: b) ++ Y) := by rw [← List.drop_drop, hd, List.drop_left]
      exact al_less b s Y most hb l (done ++ [p]) _ f hd2 (fun q hq => hok q (by simp [hq])) hl (by rw [List.length_append, List.length_singleton]; omega) (by omega)
/-- A head cut short: too early an end, or it is whole. -/
theorem head_cut (s X : List UInt8) (a f n : Nat) (p : Prt) (h : okP p = true) (hd : s.drop a = (tailB p X).take n) :
    (hdF (f + 3) s a st00).2 = (s.length, 154) ∨ ∃ q B n3, hdF (f + 3) s a st00 = (q, B, 0) ∧ 0 < B ∧ s.drop B = (p.body ++ 13 :: 10 :: X).take n3 ∧ n = n3 + ((lineL p).length + 2 + (medL p).length + 2) := by
  have hq : okQ p = true := by unfold okP at h; simp only [Bool.and_eq_true] at h; exact h.1
  have hn1 := fld_noCr _ (fld_line p hq)
  unfold tailB at hd
  by_cases c1 : n < (lineL p).length + 2
  · exact .inl (by rw [show f + 3 = (f + 2) + 1 from rfl, hd_cut (f + 2) s (lineL p) _ a n st00 hd hn1 c1])
  rw [take_past _ _ _ (by omega)] at hd
  have hd2 := drop_next s _ _ a hd
  obtain ⟨n2, hn2⟩ : ∃ n2, n - (lineL p).length - 2 = n2 := ⟨_, rfl⟩
  rw [hn2] at hd2
  rw [show f + 3 = (f + 2) + 1 from rfl, hd_line (f + 2) s (lineL p) _ a st00 _ hd hn1 (by unfold lineL cdB; simp) (step_cd p h)]
  by_cases hm : p.media = []
  · have e : medL p = [] := by unfold medL; rw [if_pos hm]
    rw [e] at hd2 ⊢
    by_cases c2 : n2 < 2
    · exact .inl (by rw [show f + 2 = (f + 1) + 1 from rfl, hd_cut (f + 1) s [] _ _ n2 _ hd2 (fun c hc => by simp at hc) (by simpa using c2)])
    · rw [take_past _ _ _ (by simpa using Nat.le_of_not_lt c2)] at hd2
      have hd3 := drop_next s [] _ _ hd2
      rw [show f + 2 = (f + 1) + 1 from rfl, hd_end (f + 1) s _ _ _ (by rw [hd2]; rfl) rfl]
      refine .inr ⟨_, _, n2 - 2, rfl, by omega, ?_, ?_⟩
      · simpa using hd3
      · simp; omega
  · have e : medL p = (ctB ++ p.media) ++ [13, 10] := by unfold medL; rw [if_neg hm]
    obtain ⟨_, _, h4, _⟩ := okQ_parts hq
    have hnc : noCr (ctB ++ p.media) := fld_noCr _ (by rw [isFld_append, h4, Bool.and_true]; decide)
    have el : (medL p).length = (ctB ++ p.media).length + 2 := by rw [e, List.length_append]; rfl
    obtain ⟨ml, hml⟩ : ∃ ml, ctB ++ p.media = ml := ⟨_, rfl⟩
    have hm0 : ml ≠ [] := by rw [← hml]; unfold ctB; simp
    have hst := step_ct p h
    rw [e, List.append_assoc] at hd2
    rw [hml] at hd2 hnc el hst
    by_cases c2 : n2 < ml.length + 2
    · exact .inl (by rw [show f + 2 = (f + 1) + 1 from rfl, hd_cut (f + 1) s ml _ _ n2 _ hd2 hnc c2])
    · have hd2 : s.drop (a + (lineL p).length + 2) = ml ++ 13 :: 10 :: ((13 :: 10 :: (p.body ++ 13 :: 10 :: X)).take (n2 - ml.length - 2)) := by rw [hd2]; exact take_past _ _ _ (by omega)
      have hd3 := drop_next s ml _ _ hd2
      obtain ⟨n3, hn3⟩ : ∃ n3, n2 - ml.length - 2 = n3 := ⟨_, rfl⟩
      rw [hn3] at hd3
      rw [show f + 2 = (f + 1) + 1 from rfl, hd_line (f + 1) s ml _ _ _ _ hd2 hnc hm0 hst]
      by_cases c3 : n3 < 2
      · exact .inl (by rw [hd_cut f s [] _ _ n3 _ hd3 (fun c hc => by simp at hc) (by simpa using c3)])
      · have hd3 : s.drop (a + (lineL p).length + 2 + ml.length + 2) = [] ++ 13 :: 10 :: (p.body ++ 13 :: 10 :: X).take (n3 - 2) := by rw [hd3]; exact take_past [] _ _ (by simpa using Nat.le_of_not_lt c3)
        have hd4 := drop_next s [] _ _ hd3
        rw [hd_end f s _ _ _ (by rw [hd3]; rfl) rfl]
        refine .inr ⟨_, _, n3 - 2, rfl, by omega, ?_, ?_⟩
        · simpa using hd4
        · omega
theorem al_cut (b s : List UInt8) (most : Int) (hb : isMrk b = true) : ∀ (l done : List Prt) (a f k : Nat), s.drop a = (l.flatMap (partB b) ++ ((45 :: 45 :: b) ++ [45, 45, 13, 10])).take k → (45 :: 45 :: b : List UInt8).length ≤ k → k + 2 < (l.flatMap (partB b) ++ ((45 :: 45 :: b) ++ [45, 45, 13, 10])).length → (∀ p ∈ l, okP p = true ∧ std (45 :: 45 :: b) p = false) → (done ≠ [] ∨ l ≠ []) → ((done.length + l.length : Nat) : Int) ≤ most → k < f →
    alF f (45 :: 45 :: b) s most done (some a) = ([], s.length, 154)
  | [], done, a, 0, k, _, _, _, _, _, _, hf => by omega
  | [], done, a, f + 1, k, hd, hk, hk2, _, hne, _, _ => by
    have hdn : done ≠ [] := by rcases hne with h | h; exact h; exact absurd rfl h
    have he : (!done.isEmpty) = true := by cases done with | nil => exact absurd rfl hdn | cons => rfl
    rw [List.flatMap_nil, List.nil_append] at hd hk2
    rw [List.length_append] at hk2
    rw [List.take_append, List.take_of_length_le hk] at hd
    have hd1 : s.drop (a + (45 :: 45 :: b : List UInt8).length) = ([45, 45, 13, 10] : List UInt8).take (k - (45 :: 45 :: b : List UInt8).length) := by rw [← List.drop_drop, hd, List.drop_left]
    have hc : k - (45 :: 45 :: b : List UInt8).length = 0 ∨ k - (45 :: 45 :: b : List UInt8).length = 1 := by
      have : ([45, 45, 13, 10] : List UInt8).length = 4 := rfl
      omega
    rcases hc with hc | hc
    · rw [hc] at hd1
      exact al_bad f _ s most done a _ _ (bhd_none _ s _ a hd1)
    · rw [hc] at hd1
      exact al_bad f _ s most done a _ _ (by rw [he]; exact bhd_dash _ s a hd1)
  | p :: l, done, a, 0, k, _, _, _, _, _, _, hf => by omega
  | p :: l, done, a, f + 1, k, hd, hk, hk2, hok, _, hm, hf => by
    obtain ⟨r, hr⟩ := rest_mk b [45, 45, 13, 10] l
    have hp := hok p (by simp)
    have hnc := bdr_noCr b hb
    rw [List.flatMap_cons, List.append_assoc] at hd hk2
    simp only [List.length_cons] at hm
    have hpl := partB_size b p
    by_cases c : (partB b p).length + (45 :: 45 :: b : List UInt8).length ≤ k
    · have hd' := hd
      rw [hr, List.take_append, List.take_of_length_le (by omega), List.take_append, List.take_of_length_le (by omega)] at hd'
      rw [al_part f b s _ most done a p hb hp.1 hp.2 hd' (by omega)]
      have hd2 : s.drop (a + (partB b p).length) = (l.flatMap (partB b) ++ ((45 :: 45 :: b) ++ [45, 45, 13, 10])).take (k - (partB b p).length) := by
        rw [← List.drop_drop, hd, List.take_append, List.take_of_length_le (by omega), List.drop_left]
      rw [List.length_append] at hk2
      exact al_cut b s most hb l (done ++ [p]) _ f _ hd2 (by omega) (by omega) (fun q hq => hok q (by simp [hq])) (Or.inl (by simp)) (by rw [List.length_append, List.length_singleton]; omega) (by omega)
    · rw [hr, partB_eq] at hd
      obtain ⟨mk, hmk⟩ : ∃ mk, (45 :: 45 :: b : List UInt8) = mk := ⟨_, rfl⟩
      have hne : mk ≠ [] := by rw [← hmk]; simp
      have hp2 := hp.2
      rw [hmk] at hd hk c hpl hnc hp2 ⊢
      rw [List.take_append, List.take_of_length_le hk] at hd
      have hd1 : s.drop (a + mk.length) = (13 :: 10 :: tailB p (mk ++ r)).take (k - mk.length) := by rw [← List.drop_drop, hd, List.drop_left]
      have hle : a + mk.length ≤ s.length := by
        have := congrArg List.length hd
        rw [List.length_drop, List.length_append] at this
        have h0 := List.length_pos_iff.2 hne
        omega
      obtain ⟨m, hmm⟩ : ∃ m, k - mk.length = m := ⟨_, rfl⟩
      rw [hmm] at hd1
      match m, hmm, hd1 with
      | 0, _, hd1 => exact al_bad f _ s most done a _ _ (bhd_none _ s _ a hd1)
      | 1, _, hd1 => exact al_bad f _ s most done a _ _ (bhd_cr _ s _ a hd1)
      | m + 2, hmm, hd1 =>
        have hd1 : s.drop (a + mk.length) = 13 :: 10 :: (tailB p (mk ++ r)).take m := hd1
        have hd2 : s.drop (a + mk.length + 2) = (tailB p (mk ++ r)).take m := by rw [← List.drop_drop, hd1]; rfl
        have hl := congrArg List.length hd1
        rw [List.length_drop] at hl
        simp only [List.length_cons] at hl
        obtain ⟨g, hg⟩ : ∃ g, s.length + 1 = g + 3 := ⟨s.length - 2, by omega⟩
        rw [al_go f mk s most done a _ (bhd_line mk s _ _ a hd1), if_neg (by omega), hg]
        rcases head_cut s (mk ++ r) (a + mk.length + 2) g m p hp.1 hd2 with h1 | ⟨q, B, n3, h1, hB, h2, h3⟩
        · rw [h1]; simp
        · rw [h1]
          simp only
          have hno := nopre mk p.body hne (std_body mk p hp2)
          rw [if_neg (by simp), h2, if_neg (by
            intro e
            have := pre_cr mk p.body _ hnc (pre_take _ _ _ e)
            have h3 := hno 0
            rw [List.drop_zero, this] at h3
            cases h3), fst9_pos _ _ _ hB, h2, fnd_body_cut mk p.body (mk ++ r) n3 hnc hno (by omega)]
          exact al_none f mk s most done
end Go.Proofs.YtlfdeenekjklgaaGreatDoor
