/- Parameters and media types printed, and read back: plain. No program is named. No conditions. -/
import Derived.Test.YtpdbejeiceodkaaGreatDoorAccP
import Derived.Test.YtpdbejeiceodkaaGreatDoorMedP
import Derived.Test.YtpdbejeiceodkaaGreatDoorQt
namespace Go.Proofs.YtpdbejeiceodkaaGreatDoor
open Go.RowKit
set_option linter.unusedSimpArgs false
set_option linter.unusedVariables false
set_option maxRecDepth 100000
def prmOk (p : Par) : Bool := isTok p.1 && (isFld p.2.1 && (p.2.2 || p.2.1.isEmpty))
def prVal (v : List UInt8) : List UInt8 := if isTok v = true then v else qtL v
def prOne (p : Par) : List UInt8 := 59 :: 32 :: p.1 ++ (if p.2.2 = true then 61 :: prVal p.2.1 else [])
def prAll (ps : List Par) : List UInt8 := ps.flatMap prOne
/-- Parameters as text, and an error's number. -/
def prmR (ps : List Par) : List UInt8 × Nat := if ps.all prmOk = true then (prAll ps, 0) else ([], 15)
theorem prAll_take (ps : List Par) (i : Nat) (p : Par) (h : ps[i]? = some p) : prAll (ps.take (i + 1)) = prAll (ps.take i) ++ prOne p := by
  unfold prAll
  rw [List.take_add_one, h, Option.toList_some, List.flatMap_append]
  simp
theorem prmR_no (ps : List Par) (i : Nat) (p : Par) (h : ps[i]? = some p) (hp : prmOk p = false) : prmR ps = ([], 15) := by
  unfold prmR; rw [all_no _ _ i p h hp]; rfl
theorem prmR_yes (ps : List Par) (h : ps.all prmOk = true) : prmR ps = (prAll ps, 0) := by unfold prmR; rw [h]; rfl
def small (l : List UInt8) : Bool := decide (lowL l = l)
def smN (p : Par) : Bool := small p.1
def mprOk (m : Mdm) : Bool := m.ps.all prmOk && (isTok m.ty && (isTok m.sub && (small m.ty && (small m.sub && (allVal m.ps && m.ps.all smN)))))
/-- A media type as text, and an error's number. -/
def mprR (m : Mdm) : List UInt8 × Nat := if mprOk m = true then (m.ty ++ 47 :: (m.sub ++ prAll m.ps), 0) else ([], 70)
theorem small_app (a b : List UInt8) : small (a ++ b) = (small a && small b) := by
  unfold small
  rw [Bool.eq_iff_iff]
  rw [Bool.and_eq_true, decide_eq_true_eq, decide_eq_true_eq, decide_eq_true_eq]
  unfold lowL
  rw [List.map_append]
  constructor
  · intro h; exact List.append_inj h (by simp)
  · rintro ⟨h1, h2⟩; rw [h1, h2]
/-! Back. -/
theorem runL_of (p : UInt8 → Bool) (a b : List UInt8) (ha : a.all p = true) (hb : ∀ c, b[0]? = some c → p c = false) : runL p (a ++ b) = a.length := by
  unfold runL
  rw [List.takeWhile_append_of_pos (by simpa using ha)]
  cases b with
  | nil => simp
  | cons c r => rw [List.takeWhile_cons, hb c rfl]; simp
theorem tok_all {l : List UInt8} (h : isTok l = true) : l.all isSg = true := by unfold isTok at h; simp only [Bool.and_eq_true] at h; exact h.2
theorem tok_ne {l : List UInt8} (h : isTok l = true) : l ≠ [] := by rintro rfl; simp [isTok] at h
theorem unqT_esc (v t : List UInt8) (hv : isFld v = true) : unqT (escL v ++ 34 :: t) = some (v, (escL v).length + 1) := by
  induction v with
  | nil => simp [escL]; rw [unqT.eq_def]; simp
  | cons c r ih =>
    have hc : isFb c = true ∧ isFld r = true := by simpa [isFld] using hv
    have e : escL (c :: r) = esc c ++ escL r := rfl
    rw [e]
    have ih := ih hc.2
    unfold esc
    by_cases h : c = 34 ∨ c = 92
    · rw [if_pos h]
      simp only [List.cons_append, List.nil_append]
      rw [unqT.eq_def]
      simp [ih, hc.1]
    · rw [if_neg h]
      have h1 : c ≠ 34 := fun e => h (Or.inl e)
      have h2 : c ≠ 92 := fun e => h (Or.inr e)
      simp only [List.cons_append, List.nil_append]
      rw [unqT.eq_def]
      simp [ih, hc.1, h1, h2]
theorem sg_nbl (c : UInt8) (h : isSg c = true) : isBl c = false := by
  cases hb : isBl c with
  | false => rfl
  | true =>
    have h2 : c = 32 ∨ c = 9 := by
      unfold isBl at hb
      simp only [Bool.or_eq_true, beq_iff_eq] at hb
      rcases hb with e | e
      · exact Or.inl (UInt8.toNat_inj.1 e)
      · exact Or.inr (UInt8.toNat_inj.1 e)
    rcases h2 with rfl | rfl
    · exact absurd h (by decide)
    · exact absurd h (by decide)
theorem valP_pr (v t : List UInt8) (hv : isFld v = true) (ht : ∀ c, t[0]? = some c → isSg c = false) : valP (prVal v ++ t) = some (v, (prVal v).length) := by
  unfold prVal
  cases h : isTok v with
  | true =>
    rw [if_pos rfl]
    have hr := runL_of isSg v t (tok_all h) ht
    unfold valP
    rw [hr, if_neg (by have := List.length_pos_iff.2 (tok_ne h); omega), List.take_left]
  | false =>
    rw [if_neg (by simp)]
    have e : qtL v ++ t = 34 :: (escL v ++ 34 :: t) := by simp [qtL]
    rw [e]
    have h0 : runL isSg (34 :: (escL v ++ 34 :: t)) = 0 := by rw [runL_cons, show isSg 34 = false from by decide]; rfl
    unfold valP
    rw [h0, if_pos rfl]
    show (if (34 : UInt8) = 34 then (unqT (escL v ++ 34 :: t)).map (fun x => (x.1, x.2 + 1)) else none) = _
    rw [if_pos rfl, unqT_esc v t hv]
    simp [qtL]
theorem parStep_one (p : Par) (t : List UInt8) (hp : prmOk p = true) (ht : ∀ c, t[0]? = some c → c = 59) : parStep (prOne p ++ t) = some (some (some p, (prOne p).length)) := by
  obtain ⟨nm, v, hs⟩ := p
  unfold prmOk at hp
  simp only [Bool.and_eq_true] at hp
  obtain ⟨h1, h2, h3⟩ := hp
  obtain ⟨X, hX⟩ : ∃ X, (if hs = true then 61 :: prVal v else []) ++ t = X := ⟨_, rfl⟩
  have hl : prOne (nm, v, hs) ++ t = 59 :: 32 :: (nm ++ X) := by rw [← hX]; simp [prOne]
  have hXs : ∀ c, X[0]? = some c → isSg c = false := by
    intro c hc
    rw [← hX] at hc
    cases hs with
    | true => simp at hc; subst hc; decide
    | false => simp at hc; rw [ht c (by simpa using hc)]; decide
  have hts : ∀ c, t[0]? = some c → isSg c = false := fun c hc => by rw [ht c hc]; decide
  have hn := runL_of isSg nm X (tok_all h1) hXs
  have hb0 : runL isBl (nm ++ X) = 0 := by
    cases nm with
    | nil => exact absurd rfl (tok_ne h1)
    | cons c r =>
      have : isSg c = true := by have := tok_all h1; simp at this; exact this.1
      rw [List.cons_append, runL_cons, sg_nbl c this]; rfl
  have hb : runL isBl (32 :: (nm ++ X)) = 1 := by rw [runL_cons, if_pos (by decide), hb0]
  have hb' : runL isBl (59 :: 32 :: (nm ++ X)) = 0 := by rw [runL_cons, if_neg (by decide)]
  have hne : nm.length ≠ 0 := by have := List.length_pos_iff.2 (tok_ne h1); omega
  rw [hl]
  unfold parStep
  rw [hb', if_pos (by rfl)]
  simp only [Nat.zero_add, List.drop_succ_cons, List.drop_zero, hb, hn]
  rw [if_neg hne]
  have hd : (32 :: (nm ++ X)).drop (1 + nm.length) = X := by rw [Nat.add_comm, List.drop_succ_cons, List.drop_left]
  have hd2 : (nm ++ X).drop (1 + nm.length) = X.drop 1 := by rw [Nat.add_comm, ← List.drop_drop, List.drop_left]
  have ht1 : (nm ++ X).take nm.length = nm := List.take_left
  rw [hd, hd2, ht1]
  cases hs with
  | true =>
    have hX' : X = 61 :: (prVal v ++ t) := by rw [← hX]; simp
    rw [if_pos (by rw [hX']; rfl), hX']
    show (match valP (prVal v ++ t) with | none => _ | some (v, k) => _) = _
    rw [valP_pr v t h2 hts]
    simp [prOne]
    omega
  | false =>
    have hv : v = [] := by simpa using h3
    subst hv
    have hX' : X = t := by rw [← hX]; simp
    rw [if_neg (by rw [hX']; intro e; have := ht _ e; exact absurd this (by decide))]
    simp [prOne]
    omega
theorem prAll_head (ps : List Par) : ∀ c, (prAll ps)[0]? = some c → c = 59 := by
  cases ps with
  | nil => intro c h; simp [prAll] at h
  | cons p r =>
    intro c h
    simp [prAll, prOne] at h
    exact h.symm
theorem parP_all (ps : List Par) (h : ps.all prmOk = true) : parP (prAll ps) = some (ps, (prAll ps).length) := by
  induction ps with
  | nil => rfl
  | cons p r ih =>
    simp only [List.all_cons, Bool.and_eq_true] at h
    have e : prAll (p :: r) = prOne p ++ prAll r := rfl
    rw [e, parP_step _ _ _ (parStep_one p (prAll r) h.1 (prAll_head r)), List.drop_left, ih h.2]
    simp
theorem parR_all (ps : List Par) (h : ps.all prmOk = true) : parR (prAll ps) = (ps, (prAll ps).length, 0) := by unfold parR; rw [parP_all ps h]
def endsOk (l : List UInt8) : Prop := ∀ c, l.getLast? = some c → isBl c = false
theorem endsOk_right (a b : List UInt8) (hb : b ≠ []) (h : endsOk b) : endsOk (a ++ b) := by
  intro c hc
  rw [List.getLast?_append] at hc
  cases hl : b.getLast? with
  | none => rw [List.getLast?_eq_none_iff] at hl; exact absurd hl hb
  | some d => rw [hl] at hc; simp at hc; subst hc; exact h d hl
theorem endsOk_app (a b : List UInt8) (ha : endsOk a) (h : endsOk b) : endsOk (a ++ b) := by
  by_cases hb : b = []
  · subst hb; rw [List.append_nil]; exact ha
  · exact endsOk_right a b hb h
theorem endsOk_tok (a : List UInt8) (h : isTok a = true) : endsOk a := fun c hc => sg_nbl c (by
  have := tok_all h
  rw [List.all_eq_true] at this
  exact this c (List.mem_of_getLast? hc))
theorem endsOk_val (v : List UInt8) : endsOk (prVal v) := by
  unfold prVal
  split
  · exact endsOk_tok v (by assumption)
  · have e : qtL v = (34 :: escL v) ++ [34] := by simp [qtL]
    rw [e]
    exact endsOk_right _ _ (by simp) (fun c hc => by simp at hc; subst hc; decide)
theorem endsOk_one (p : Par) (hp : prmOk p = true) : endsOk (prOne p) := by
  obtain ⟨nm, v, hs⟩ := p
  unfold prmOk at hp
  simp only [Bool.and_eq_true] at hp
  cases hs with
  | true =>
    have e : prOne (nm, v, true) = (59 :: 32 :: nm) ++ ([61] ++ prVal v) := by simp [prOne]
    rw [e]
    exact endsOk_right _ _ (by simp) (endsOk_app _ _ (fun c hc => by simp at hc; subst hc; decide) (endsOk_val v))
  | false =>
    have e : prOne (nm, v, false) = [59, 32] ++ nm := by simp [prOne]
    rw [e]
    exact endsOk_right _ _ (tok_ne hp.1) (endsOk_tok nm hp.1)
theorem endsOk_all (ps : List Par) (h : ps.all prmOk = true) : endsOk (prAll ps) := by
  induction ps with
  | nil => intro c hc; simp [prAll] at hc
  | cons p r ih =>
    simp only [List.all_cons, Bool.and_eq_true] at h
    exact endsOk_app _ _ (endsOk_one p h.1) (ih h.2)
theorem dropW_id (l : List UInt8) (h : ∀ c, l[0]? = some c → isBl c = false) : l.dropWhile isBl = l := by
  cases l with
  | nil => rfl
  | cons c r => rw [List.dropWhile_cons, h c rfl]; simp
theorem trimL_id (l : List UInt8) (h : ∀ c, l[0]? = some c → isBl c = false) (h2 : endsOk l) : trimL l = l := by
  unfold trimL
  rw [dropW_id l h, dropW_id l.reverse (fun c hc => h2 c (by rw [List.getLast?_eq_head?_reverse, List.head?_eq_getElem?]; exact hc)), List.reverse_reverse]
theorem map_lowP (ps : List Par) (h : ps.all smN = true) : ps.map lowP = ps := by
  induction ps with
  | nil => rfl
  | cons p r ih =>
    simp only [List.all_cons, Bool.and_eq_true] at h
    rw [List.map_cons, ih h.2]
    have : lowL p.1 = p.1 := by have := h.1; unfold smN small at this; simpa using this
    unfold lowP
    rw [this]
theorem mdP_back (m : Mdm) (h : mprOk m = true) : mdP (m.ty ++ 47 :: (m.sub ++ prAll m.ps)) = ((m.ty, m.sub, m.ps, true), 0) := by
  obtain ⟨ty, sub, ps⟩ := m
  unfold mprOk at h
  simp only [Bool.and_eq_true] at h
  obtain ⟨h1, h2, h3, h4, h5, h6, h7⟩ := h
  show mdP (ty ++ 47 :: (sub ++ prAll ps)) = ((ty, sub, ps, true), 0)
  have hty := tok_ne h2
  have hsu := tok_ne h3
  have hr1 := runL_of isSg ty (47 :: (sub ++ prAll ps)) (tok_all h2) (fun c hc => by simp at hc; subst hc; decide)
  have hr2 := runL_of isSg sub (prAll ps) (tok_all h3) (fun c hc => by rw [prAll_head ps c hc]; decide)
  have hl1 : lowL ty = ty := by unfold small at h4; simpa using h4
  have hl2 : lowL sub = sub := by unfold small at h5; simpa using h5
  have htr : trimL (ty ++ 47 :: (sub ++ prAll ps)) = ty ++ 47 :: (sub ++ prAll ps) := by
    refine trimL_id _ (fun c hc => ?_) ?_
    · cases ty with
      | nil => exact absurd rfl hty
      | cons d r => simp at hc; subst hc; exact sg_nbl d (by have := tok_all h2; simp at this; exact this.1)
    · have e : ty ++ 47 :: (sub ++ prAll ps) = (ty ++ [47]) ++ (sub ++ prAll ps) := by simp
      rw [e]
      exact endsOk_right _ _ (by simp [hsu]) (endsOk_app _ _ (endsOk_tok sub h3) (endsOk_all ps h1))
  have hmd : mdR (ty ++ 47 :: (sub ++ prAll ps)) = (ty, sub, ps, true) := by
    have hd : (ty ++ 47 :: (sub ++ prAll ps)).drop (ty.length + 1) = sub ++ prAll ps := by rw [← List.drop_drop, List.drop_left]; rfl
    rw [mdR_at _ ty.length hr1 (by have := List.length_pos_iff.2 hty; omega) (by rw [List.getElem?_append_right (Nat.le_refl _), Nat.sub_self]; rfl), hd]
    rw [mdK_ok _ _ ty.length sub.length ps (prAll ps).length 0 hr2 (by rw [List.drop_left]; exact parR_all ps h1) (by have := List.length_pos_iff.2 hsu; omega) rfl (by rw [List.length_append])]
    rw [List.take_left, List.take_left, hl1, hl2, map_lowP ps h7]
  exact mdP_ok _ _ (by rw [htr]; exact hmd) rfl h6
end Go.Proofs.YtpdbejeiceodkaaGreatDoor
