/- The walk of sheet.Print: the plain function wrtR. Conditions: at most 1048576 letters and parts; octet.signs and bytealg's MaxLen hold what the text lays. -/
import Derived.Test.YtlfdeenekjklgaaGreatDoorPa24
namespace Go.Proofs.YtlfdeenekjklgaaGreatDoor
open Go.RowKit
set_option linter.unusedSimpArgs false
set_option linter.unusedVariables false
set_option maxRecDepth 1000000
def WrtPost (b : List UInt8) (l : List Prt) (w : World) (e : Ending) (w' : World) : Prop := e = .returned (.tuple #[.string ⟨(wrtR b l).1.toArray⟩, .int .i64 ((wrtR b l).2 : Nat)]) ∧ Below w.heap.size w w'
theorem prt_1m (p : Prt) (t : Nat) (h : prtLen p ≤ t) (ht : t ≤ 1048576) : p.body.length ≤ 1048576 ∧ p.name.length ≤ 1048576 ∧ p.file.length ≤ 1048576 ∧ p.media.length ≤ 1048576 := by unfold prtLen at h; omega
theorem le_1t (n : Nat) (h : n ≤ 1048576) : n ≤ 1099511627776 := by omega
theorem okP_q (p : Prt) (h : okQ p = false) : okP p = false := by unfold okP; rw [h]; rfl
theorem okQ_name (p : Prt) (h : isFld p.name = false) : okQ p = false := by unfold okQ; rw [h]; rfl
theorem okQ_file (p : Prt) (h : isFld p.file = false) : okQ p = false := by unfold okQ; rw [h]; simp
theorem okQ_media (p : Prt) (h : isFld p.media = false) : okQ p = false := by unfold okQ; rw [h]; simp
theorem okQ_trim (p : Prt) (h : ¬ trimL p.media = p.media) : okQ p = false := by unfold okQ; rw [beq_false_of_ne h]; simp
theorem okQ_has (p : Prt) (h : p.has = false) (h2 : ¬ p.file = []) : okQ p = false := by
  unfold okQ
  have : p.file.isEmpty = false := by cases hf : p.file with | nil => exact absurd hf h2 | cons => rfl
  rw [h, this]; simp
theorem okQ_yes (p : Prt) (h1 : isFld p.name = true) (h2 : isFld p.file = true) (h3 : isFld p.media = true) (h4 : trimL p.media = p.media) (h5 : p.has = true ∨ p.file = []) : okQ p = true := by
  unfold okQ
  rw [h1, h2, h3, h4]
  rcases h5 with h | h <;> rw [h] <;> simp
theorem okP_big (p : Prt) (h : okQ p = true) (h2 : 8192 < (valL p).length) : okP p = false := by
  unfold okP okL; rw [h, decide_eq_false (by omega)]; rfl
theorem okP_med (p : Prt) (h : okQ p = true) (h2 : 8192 < p.media.length) : okP p = false := by
  unfold okP okL; rw [h, decide_eq_false (p := p.media.length ≤ 8192) (by omega)]; simp
theorem okP_yes (p : Prt) (h : okQ p = true) (h1 : (valL p).length ≤ 8192) (h2 : p.media.length ≤ 8192) : okP p = true := by
  unfold okP okL; rw [h, decide_eq_true h1, decide_eq_true h2]; rfl
theorem line_has (p : Prt) (h : p.has = true) : lineL p = (cdB ++ fdB ++ qtL p.name) ++ (fnB ++ qtL p.file) := by
  unfold lineL valL; rw [h, if_pos rfl]; simp only [List.append_assoc]
theorem line_not (p : Prt) (h : p.has = false) : lineL p = cdB ++ fdB ++ qtL p.name := by
  unfold lineL valL; rw [h]; simp
theorem med_not (p : Prt) (h : p.media = []) : medL p = [] := by unfold medL; rw [if_pos h]
theorem med_yes (p : Prt) (h : ¬ p.media = []) : medL p = ctB ++ p.media ++ [13, 10] := by unfold medL; rw [if_neg h]
theorem acc_bd (b : List UInt8) (l : List Prt) (i : Nat) (hb : b.length ≤ 70) (hT : totQ l ≤ 1048576) (hN : l.length ≤ 1048576) : ((l.take i).flatMap (partB b)).length ≤ 1099511627776 := by
  have h := acc_len b l i
  have h2 : l.length * (b.length + 128) ≤ 1048576 * 198 := Nat.mul_le_mul hN (by omega)
  omega
theorem cat_cd (N D : List UInt8) (h : cdB ++ fdB ++ N = D) : (⟨#[67, 111, 110, 116, 101, 110, 116, 45, 68, 105, 115, 112, 111, 115, 105, 116, 105, 111, 110, 58, 32, 102, 111, 114, 109, 45, 100, 97, 116, 97, 59, 32, 110, 97, 109, 101, 61]⟩ : ByteArray) ++ (⟨N.toArray⟩ : ByteArray) = ⟨D.toArray⟩ := by rw [← h]; exact cat_ll _ N
theorem cat_fn (N D : List UInt8) (h : fnB ++ N = D) : (⟨#[59, 32, 102, 105, 108, 101, 110, 97, 109, 101, 61]⟩ : ByteArray) ++ (⟨N.toArray⟩ : ByteArray) = ⟨D.toArray⟩ := by rw [← h]; exact cat_ll _ N
theorem cat_ct (N D : List UInt8) (h : ctB ++ N = D) : (⟨#[67, 111, 110, 116, 101, 110, 116, 45, 84, 121, 112, 101, 58, 32]⟩ : ByteArray) ++ (⟨N.toArray⟩ : ByteArray) = ⟨D.toArray⟩ := by rw [← h]; exact cat_ll _ N
theorem cat_nl (N D : List UInt8) (h : N ++ [13, 10] = D) : (⟨N.toArray⟩ : ByteArray) ++ (⟨#[13, 10]⟩ : ByteArray) = ⟨D.toArray⟩ := by rw [← h]; exact cat_ll N [13, 10]
theorem cat_ln (N D : List UInt8) (h : 13 :: 10 :: N = D) : (⟨#[13, 10]⟩ : ByteArray) ++ (⟨N.toArray⟩ : ByteArray) = ⟨D.toArray⟩ := by rw [← h]; exact cat_ll [13, 10] N
theorem cat_ab (A B D : List UInt8) (h : A ++ B = D) : (⟨A.toArray⟩ : ByteArray) ++ (⟨B.toArray⟩ : ByteArray) = ⟨D.toArray⟩ := by rw [← h]; exact cat_ll A B
theorem cat_ds (s : ByteArray) (D : List UInt8) (h : 45 :: 45 :: s.data.toList = D) : (⟨#[45, 45]⟩ : ByteArray) ++ s = ⟨D.toArray⟩ := by rw [← h]; exact cat_ls [45, 45] s
theorem cat_dd (N D : List UInt8) (h : N ++ [45, 45] = D) : (⟨N.toArray⟩ : ByteArray) ++ (⟨#[45, 45]⟩ : ByteArray) = ⟨D.toArray⟩ := by rw [← h]; exact cat_ll N [45, 45]
theorem cat_as (N : List UInt8) (s : ByteArray) (D : List UInt8) (h : N ++ s.data.toList = D) : (⟨N.toArray⟩ : ByteArray) ++ s = ⟨D.toArray⟩ := by rw [← h]; exact cat_ls N s
theorem bld_grown {B b g : Nat} {bs : List Value} {w w' : World} {cs : Array Value} {T : TypeId} {r : Nat × Nat} (h : Lib.IsBuilder 98 5 B b bs w) (hr : w.heap[g]? = some (.cells cs T r)) (hg : w.grownBy w' (some g)) (h1 : T ≠ 5) (h2 : T ≠ 98) : Lib.IsBuilder 98 5 B b bs w' := by
  have key : ∀ p, Lib.BuilderAt 98 5 B b p bs w → Lib.BuilderAt 98 5 B b p bs w' := fun p ⟨k1, v, k2, k3, k4⟩ => by
    have hbg : some b ≠ some g := fun e => by
      injection e with e
      rw [e, hr] at k2
      injection k2 with k2
      injection k2 with _ kT
      exact h2 kT
    have hvg : v.ownBlock ≠ some g := fun e => by
      rcases k3.2 with ⟨rfl, _⟩ | ⟨k, cap, cur, rfl, _, hk, _⟩
      · cases e
      · have e' : k = g := by injection e
        rw [e', hr] at hk
        injection hk with hk
        injection hk with _ kT
        exact h1 kT
    exact ⟨k1, v, by rw [hg.block b (Array.getElem?_eq_some_iff.1 k2).1 hbg]; exact k2, k3.kept hg (Or.inr hvg), k4⟩
  rcases h with h | h
  · exact Or.inl (key _ h)
  · exact Or.inr (key _ h)
theorem P5.grown {T S : TypeId} {g k : Nat} {p : Prt} {w w' : World} {cs : Array Value} {r : Nat × Nat} (h : P5 T g p w) (hr : w.heap[k]? = some (.cells cs S r)) (hg : w.grownBy w' (some k)) (hne : T ≠ S) : P5 T g p w' := by
  unfold P5 at h ⊢
  rw [hg.block g (Array.getElem?_eq_some_iff.1 h).1 (fun e => by
    injection e with e
    rw [e, hr] at h
    injection h with h
    injection h with _ hT
    exact hne hT.symm)]
  exact h
theorem len_ok (a x : Nat) (h : a ≤ 2199023255552) (hx : x ≤ 2199023255552) : a + x ≤ 140737488355328 := by omega
theorem lens1 (A0 t hd ln lc body b1 b2 : List UInt8) (h0 : A0.length ≤ 1099511627776) (ht : t.length ≤ 100) (hhd : t ++ [13, 10] = hd) (hlc : ln ++ [13, 10] = lc) (hln : ln.length ≤ 8388608) (hb : body.length ≤ 1048576) (h1 : 13 :: 10 :: body = b1) (h2 : b1 ++ [13, 10] = b2) :
    hd.length ≤ 2199023255552 ∧ (A0 ++ hd).length ≤ 2199023255552 ∧ lc.length ≤ 2199023255552 ∧ (A0 ++ hd ++ lc).length ≤ 2199023255552 ∧ b2.length ≤ 2199023255552 ∧ b1.length ≤ 2199023255552 ∧ ln.length ≤ 1099511627776 ∧ A0.length ≤ 2199023255552 := by
  subst hhd; subst hlc; subst h1; subst h2
  simp only [List.length_append, List.length_cons, List.length_nil]
  omega
theorem lens2 (A0 t hd ln lc md M mc : List UInt8) (h0 : A0.length ≤ 1099511627776) (ht : t.length ≤ 100) (hhd : t ++ [13, 10] = hd) (hlc : ln ++ [13, 10] = lc) (hln : ln.length ≤ 8388608) (hb : md.length ≤ 1048576) (h1 : ctB ++ md = M) (h2 : M ++ [13, 10] = mc) :
    M.length ≤ 1099511627776 ∧ mc.length ≤ 2199023255552 ∧ (A0 ++ hd ++ lc ++ mc).length ≤ 2199023255552 := by
  subst hhd; subst hlc; subst h1; subst h2
  have h4 : ctB.length = 14 := rfl
  simp only [List.length_append, List.length_cons, List.length_nil, h4]
  omega
theorem d1_len (N D1 : List UInt8) (h : cdB ++ fdB ++ N = D1) : D1.length = N.length + 37 := by
  rw [← h, List.length_append, List.length_append]
  have h3 : cdB.length = 21 := rfl
  have h4 : fdB.length = 16 := rfl
  omega
theorem e1_len (N D1 : List UInt8) (h : fnB ++ N = D1) : D1.length = N.length + 11 := by
  rw [← h, List.length_append]
  have h4 : fnB.length = 11 := rfl
  omega
theorem fin1 (B t hd ln lc b1 b2 : List UInt8) (p : Prt) (hB : hdL B = t ++ [13, 10]) (hhd : t ++ [13, 10] = hd) (hl : lineL p = ln) (hlc : ln ++ [13, 10] = lc) (hm : medL p = []) (h1 : 13 :: 10 :: p.body = b1) (h2 : b1 ++ [13, 10] = b2) (A0 : List UInt8) : A0 ++ partB B p = A0 ++ hd ++ lc ++ b2 := by
  unfold partB
  rw [hB, hhd, hl, hlc, hm, List.append_nil, ← h2, ← h1]
  simp only [List.append_assoc, List.cons_append]
theorem fin2 (B t hd ln lc M mc b1 b2 : List UInt8) (p : Prt) (hB : hdL B = t ++ [13, 10]) (hhd : t ++ [13, 10] = hd) (hl : lineL p = ln) (hlc : ln ++ [13, 10] = lc) (hM : ctB ++ p.media = M) (hmc : M ++ [13, 10] = mc) (hm : medL p = ctB ++ p.media ++ [13, 10]) (h1 : 13 :: 10 :: p.body = b1) (h2 : b1 ++ [13, 10] = b2) (A0 : List UInt8) : A0 ++ partB B p = A0 ++ hd ++ lc ++ mc ++ b2 := by
  unfold partB
  rw [hB, hhd, hl, hlc, hm, hM, hmc, ← h2, ← h1]
  simp only [List.append_assoc, List.cons_append]
theorem nof (a b : Nat) (ha : a ≤ 2199023255552) (hb : b ≤ 2199023255552) : ¬ 9223372036854775807 < a + b := by omega
set_option maxHeartbeats 64000000 in
theorem swrt_any (s : ByteArray) (v : Value) (l : List Prt) (m : Int) (w : World) (hs : s.size ≤ 1048576) (hT : totQ l ≤ 1048576) (hN : l.length ≤ 1048576) (h : PrtsIn w v l) (hg : SgAt w) (hm : w.cell? ⟨2, 0, none⟩ = some (.int .i64 m)) :
    Calls Tryz.prog 21 #[.string s, v] w (WrtPost s.data.toList l w) := by
  have hib := isbound_any s w (Nat.le_trans hs (by decide))
  cases hmk : isMrk s.data.toList with
  | false =>
    rw [hmk] at hib
    have HR := Lib.hid (wrt_mark s.data.toList l (Or.inl hmk))
    have HI := Lib.hid hib
    clear hmk hib
    go_enter Tryz.func21, Tryz.ntmps21
    go_wp2_with fail
    refine (HI.out).mono ?_
    rintro e w1 ⟨rfl, rfl⟩
    go_wp2
    go_ret2
    unfold WrtPost
    rw [HR.out]
    exact ⟨rfl, Below.refl _ _⟩
  | true =>
    rw [hmk] at hib
    have hs70 : s.data.toList.length ≤ 70 := by
      unfold isMrk at hmk
      simp only [Bool.and_eq_true, decide_eq_true_eq] at hmk
      exact hmk.2.2
    obtain ⟨B, hB⟩ : ∃ B, s.data.toList = B := ⟨_, rfl⟩
    rw [hB] at hs70 hmk
    obtain ⟨t, ht⟩ : ∃ t, 45 :: 45 :: s.data.toList = t := ⟨_, rfl⟩
    have e1 := cat_ds s t ht
    have z1 := nof 2 s.size (by decide) (Nat.le_trans hs (by decide))
    rw [hB] at ht
    have hst := sstood_any v l t m
    have HI := Lib.hid hib
    have HST := Lib.hid hst
    rw [hB]
    cases hsd : stood l t with
    | true =>
      have HR := Lib.hid (wrt_mark B l (Or.inr (by rw [ht]; exact hsd)))
      rw [hsd] at HST
      clear hmk hib hst hB ht hsd
      go_enter Tryz.func21, Tryz.ntmps21
      go_wp2_with fail
      refine (HI.out).mono ?_
      rintro e w1 ⟨rfl, rfl⟩
      go_wp2_with fail
      refine (HST.out _ (Nat.le_trans hT (by decide)) (Nat.le_trans hN (by decide)) h hm).mono ?_
      rintro e w2 ⟨rfl, hb2⟩
      go_wp2
      go_ret2
      unfold WrtPost
      rw [HR.out]
      exact ⟨rfl, hb2⟩
    | false =>
      rw [hsd] at HST
      rw [← ht] at hsd
      have hhd : hdL B = t ++ [13, 10] := by rw [← ht]; rfl
      have HBT := Lib.hid (And.intro hmk (And.intro hsd (And.intro hhd (And.intro hB ht))))
      clear hmk hib hst hB ht hsd hhd
      obtain ⟨ao, cap, rfl, hat⟩ := id h
      by_cases hl0 : l = []
      · subst hl0
        have HR := Lib.hid (wrt_none B HBT.out.1 HBT.out.2.1)
        clear hat
        go_enter Tryz.func21, Tryz.ntmps21
        go_wp2_with fail
        refine (HI.out).mono ?_
        rintro e w1 ⟨rfl, rfl⟩
        go_wp2_with fail
        refine (HST.out _ (Nat.le_trans hT (by decide)) (Nat.le_trans hN (by decide)) h hm).mono ?_
        rintro e w2 ⟨rfl, hb2⟩
        go_wp2
        go_ret2
        unfold WrtPost
        rw [HR.out]
        exact ⟨rfl, hb2⟩
      · have hlp : ((l.length : Int) == 0) = false := by
          have := List.length_pos_iff.2 hl0
          simp
          omega
        have HL0 := Lib.hid hl0
        clear hl0
        have HH := Lib.hid (And.intro h (And.intro hg (And.intro hm hat)))
        clear hg hat
        go_enter Tryz.func21, Tryz.ntmps21
        go_wp2_with fail
        refine (HI.out).mono ?_
        rintro e w1 ⟨rfl, rfl⟩
        go_wp2_with fail
        refine (HST.out _ (Nat.le_trans hT (by decide)) (Nat.le_trans hN (by decide)) h hm).mono ?_
        rintro e w2 ⟨rfl, hb2⟩
        have hat2 := HH.out.2.2.2.below hb2
        have hg2 := HH.out.2.1.below hb2
        have HA2 := Lib.hid (And.intro hat2 (And.intro hg2 hb2))
        clear hat2 hg2 hb2 h hm HI HST
        have hO1 := Lib.fresh_isBuilder 98 5 w2
        have hB1 := (Below.refl w2.heap.size w2).alloc (Nat.le_refl _) (.cells #[.pointer none, .slice none 0 0] 98)
        have HS := Lib.hid (And.intro hO1 hB1)
        clear hO1 hB1
        go_wp2
        go_loopw [36] (fun iv wr => ∃ i : Nat, iv = .int .i64 i ∧ i ≤ l.length ∧ (l.take i).all okP = true ∧ Lib.IsBuilder 98 5 w2.heap.size w2.heap.size (Lib.byteCells ((l.take i).flatMap (partB B))) wr ∧ Below w2.heap.size w2 wr) (fun iv _ => l.length - (intOf iv).toNat)
        case atStart => exact ⟨0, rfl, Nat.zero_le _, rfl, HS.out.1, HS.out.2⟩
        case round =>
          clear HS
          obtain ⟨i, rfl, hi, hok, hO, hb⟩ := hrel
          have hab := acc_bd B l i hs70 hT hN
          by_cases hlt : i < l.length
          · obtain ⟨p, hp⟩ : ∃ p, l[i]? = some p := ⟨_, List.getElem?_eq_getElem hlt⟩
            obtain ⟨g, o, rfl, c0, c1, c2, c3, c4, hgl⟩ := HA2.out.1.below hb i p hp
            have hpl := prt_1m p _ (totQ_get l i p hp) hT
            have k0 : (0 : Int) ≤ (i : Int) := Int.natCast_nonneg _
            have k1 : (i : Int) < (l.length : Int) := by omega
            have hwi := w64p i (Nat.le_trans hi (Nat.le_trans hN (by decide)))
            have htk := partB_take B l i p hp
            obtain ⟨A0, hA0⟩ : ∃ A0, (l.take i).flatMap (partB B) = A0 := ⟨_, rfl⟩
            rw [hA0] at hO hab htk
            have HTK := Lib.hid htk
            clear hA0 htk
            have hP := P5.new p wr 34
            have hbw := hb.alloc hb.size (.cells #[.string ⟨p.name.toArray⟩, .string ⟨p.file.toArray⟩, .string ⟨p.media.toArray⟩, .string ⟨p.body.toArray⟩, .bool p.has] 34)
            have hOw := bld_later hO ((Below.refl wr.heap.size wr).alloc (Nat.le_refl _) (.cells #[.string ⟨p.name.toArray⟩, .string ⟨p.file.toArray⟩, .string ⟨p.media.toArray⟩, .string ⟨p.body.toArray⟩, .bool p.has] 34))
            have HAB := Lib.hid hab
            have HX := Lib.hid (And.intro hP (And.intro hOw (And.intro hbw (And.intro hp (And.intro hok (And.intro hwi hpl))))))
            have hbad : okP p = false → wrtR B l = ([], 152) := fun e => wrt_bad B l i p HBT.out.1 HBT.out.2.1 hp e
            have HBAD := Lib.hid hbad
            clear hab hP hOw hbw hp hok hwi hpl hbad hO hb
            cases hq1 : isFld p.name with
            | false =>
              have HQ1 := Lib.hid hq1
              have HR := Lib.hid (HBAD.out (okP_q _ (okQ_name _ hq1)))
              clear hq1
              go_wp2_with fail
              refine (oquote_bad p.name _ (le_1t _ HX.out.2.2.2.2.2.2.2.1) HQ1.out).mono ?_
              rintro e w3 ⟨rfl, hb3⟩
              have hP3 := HX.out.1.below hb3
              have hO3 := bld_later HX.out.2.1 hb3
              have hb4 := HX.out.2.2.1.trans (hb3.mono HX.out.2.2.1.size)
              have HO3 := Lib.hid (And.intro hO3 hb4)
              have HP3 := Lib.hid hP3
              clear c0 c1 c2 c3 c4 hgl
              obtain ⟨c0, c1, c2, c3, c4, hlt3⟩ := hP3.cells
              clear hb3 hO3 hb4
              cases hq2 : isFld p.file with
              | false =>
                have HQ2 := Lib.hid hq2
                clear hq2
                go_wp2_with fail
                refine (oquote_bad p.file _ (le_1t _ HX.out.2.2.2.2.2.2.2.2.1) HQ2.out).mono ?_
                rintro e w4 ⟨rfl, hb5⟩
                have hP4 := HP3.out.below hb5
                have hO4 := bld_later HO3.out.1 hb5
                have hb6 := HO3.out.2.trans (hb5.mono HO3.out.2.size)
                have HO4 := Lib.hid (bld_later hO4 ((Below.refl _ w4).drew))
                have HBX := Lib.hid hb6.drew
                have HP2 := Lib.hid (show P5 34 wr.heap.size p w4.drew from hP4)
                clear hb5 hO4 hb6 hP4 c0 c1 c2 c3 c4 hlt3 HP3
                go_wp2
                refine wp_region_textH (P5 34 wr.heap.size p) [(0, true), (1, true), (2, true), (3, true), (4, true), (5, true), (6, true), (7, true), (8, true), (9, false), (10, true), (11, true), (12, true), (13, true), (14, true), (16, true), (17, true), (15, false), (18, true), (19, true), (20, true), (21, true), (22, true), (23, true), (24, true), (25, true), (26, true), (27, true), (28, true), (29, true)] (by kernel_rfl) (by kernel_rfl) (by kernel_rfl) (by kernel_rfl) HP2.out ?_
                refine wpTxH_take rfl (by kernel_rfl) (v := ?_) ?_ ?_; rotate_left; · (intro w hS; obtain ⟨s0, s1, s2, s3, s4, _⟩ := hS.cells; go_simp; with_reducible rfl)
                refine wpTxH_take rfl (by kernel_rfl) (v := ?_) ?_ ?_; rotate_left; · (intro w hS; obtain ⟨s0, s1, s2, s3, s4, _⟩ := hS.cells; go_simp; with_reducible rfl)
                refine wpTxH_take rfl (by kernel_rfl) (v := ?_) ?_ ?_; rotate_left; · (intro w hS; obtain ⟨s0, s1, s2, s3, s4, _⟩ := hS.cells; go_simp; with_reducible rfl)
                refine wtxH_pass rfl (by kernel_rfl) ?_
                refine wtxH_pass rfl (by kernel_rfl) ?_
                refine wpTxH_take rfl (by kernel_rfl) (v := ?_) ?_ ?_; rotate_left; · (intro w hS; obtain ⟨s0, s1, s2, s3, s4, _⟩ := hS.cells; go_simp; with_reducible rfl)
                refine wpTxH_take rfl (by kernel_rfl) (v := ?_) ?_ ?_; rotate_left; · (intro w hS; obtain ⟨s0, s1, s2, s3, s4, _⟩ := hS.cells; go_simp; with_reducible rfl)
                refine wtxH_pass rfl (by kernel_rfl) ?_
                refine wtxH_pass rfl (by kernel_rfl) ?_
                refine wpTxH_step rfl (fun K hK => ?_)
                go_simp
                refine hK _ _ HP2.out ?_
                clear hK K
                refine wtxH_pass rfl (by kernel_rfl) ?_
                refine wpTxH_take rfl (by kernel_rfl) (v := ?_) ?_ ?_; rotate_left; · (intro w hS; obtain ⟨s0, s1, s2, s3, s4, _⟩ := hS.cells; go_simp; with_reducible rfl)
                refine wpTxH_take rfl (by kernel_rfl) (v := ?_) ?_ ?_; rotate_left; · (intro w hS; obtain ⟨s0, s1, s2, s3, s4, _⟩ := hS.cells; go_simp; with_reducible rfl)
                refine wtxH_pass rfl (by kernel_rfl) ?_
                refine wtxH_pass rfl (by kernel_rfl) ?_
                refine wtxH_pass rfl (by kernel_rfl) ?_
                refine wtxH_pass rfl (by kernel_rfl) ?_
                refine wpTxH_step rfl (fun K hK => ?_)
                go_simp
                refine hK _ _ HP2.out ?_
                clear hK K
                refine wtxH_pass rfl (by kernel_rfl) ?_
                refine wpTxH_take rfl (by kernel_rfl) (v := ?_) ?_ ?_; rotate_left; · (intro w hS; obtain ⟨s0, s1, s2, s3, s4, _⟩ := hS.cells; go_simp; with_reducible rfl)
                refine wpTxH_take rfl (by kernel_rfl) (v := ?_) ?_ ?_; rotate_left; · (intro w hS; obtain ⟨s0, s1, s2, s3, s4, _⟩ := hS.cells; go_simp; with_reducible rfl)
                refine wtxH_pass rfl (by kernel_rfl) ?_
                refine wtxH_pass rfl (by kernel_rfl) ?_
                refine wtxH_pass rfl (by kernel_rfl) ?_
                refine wtxH_pass rfl (by kernel_rfl) ?_
                refine wtxH_pass rfl (by kernel_rfl) ?_
                refine wtxH_pass rfl (by kernel_rfl) ?_
                refine wtxH_pass rfl (by kernel_rfl) ?_
                refine wtxH_pass rfl (by kernel_rfl) ?_
                refine wpTxH_take rfl (by kernel_rfl) (v := ?_) ?_ ?_; rotate_left; · (intro w hS; obtain ⟨s0, s1, s2, s3, s4, _⟩ := hS.cells; go_simp; with_reducible rfl)
                refine wpTxH_nil ?_
                go_simp
                go_wp2
                go_ret2
                unfold WrtPost
                rw [HR.out]
                exact ⟨rfl, HA2.out.2.2.trans (HBX.out.mono HA2.out.2.2.size)⟩
              | true =>
                have HQ2 := Lib.hid hq2
                clear hq2
                go_wp2_with fail
                refine (oquote_ok p.file _ (le_1t _ HX.out.2.2.2.2.2.2.2.2.1) HQ2.out).mono ?_
                rintro e w4 ⟨rfl, hb5⟩
                have hP4 := HP3.out.below hb5
                have hO4 := bld_later HO3.out.1 hb5
                have hb6 := HO3.out.2.trans (hb5.mono HO3.out.2.size)
                have HO4 := Lib.hid (bld_later hO4 ((Below.refl _ w4).drew))
                have HBX := Lib.hid hb6.drew
                have HP2 := Lib.hid (show P5 34 wr.heap.size p w4.drew from hP4)
                clear hb5 hO4 hb6 hP4 c0 c1 c2 c3 c4 hlt3 HP3
                go_wp2
                refine wp_region_textH (P5 34 wr.heap.size p) [(0, true), (1, true), (2, true), (3, true), (4, true), (5, true), (6, true), (7, true), (8, true), (9, false), (10, true), (11, true), (12, true), (13, true), (14, true), (16, true), (17, true), (15, false), (18, true), (19, true), (20, true), (21, true), (22, true), (23, true), (24, true), (25, true), (26, true), (27, true), (28, true), (29, true)] (by kernel_rfl) (by kernel_rfl) (by kernel_rfl) (by kernel_rfl) HP2.out ?_
                refine wpTxH_take rfl (by kernel_rfl) (v := ?_) ?_ ?_; rotate_left; · (intro w hS; obtain ⟨s0, s1, s2, s3, s4, _⟩ := hS.cells; go_simp; with_reducible rfl)
                refine wpTxH_take rfl (by kernel_rfl) (v := ?_) ?_ ?_; rotate_left; · (intro w hS; obtain ⟨s0, s1, s2, s3, s4, _⟩ := hS.cells; go_simp; with_reducible rfl)
                refine wpTxH_take rfl (by kernel_rfl) (v := ?_) ?_ ?_; rotate_left; · (intro w hS; obtain ⟨s0, s1, s2, s3, s4, _⟩ := hS.cells; go_simp; with_reducible rfl)
                refine wtxH_pass rfl (by kernel_rfl) ?_
                refine wtxH_pass rfl (by kernel_rfl) ?_
                refine wpTxH_take rfl (by kernel_rfl) (v := ?_) ?_ ?_; rotate_left; · (intro w hS; obtain ⟨s0, s1, s2, s3, s4, _⟩ := hS.cells; go_simp; with_reducible rfl)
                refine wpTxH_take rfl (by kernel_rfl) (v := ?_) ?_ ?_; rotate_left; · (intro w hS; obtain ⟨s0, s1, s2, s3, s4, _⟩ := hS.cells; go_simp; with_reducible rfl)
                refine wtxH_pass rfl (by kernel_rfl) ?_
                refine wtxH_pass rfl (by kernel_rfl) ?_
                refine wpTxH_step rfl (fun K hK => ?_)
                go_simp
                refine hK _ _ HP2.out ?_
                clear hK K
                refine wtxH_pass rfl (by kernel_rfl) ?_
                refine wpTxH_take rfl (by kernel_rfl) (v := ?_) ?_ ?_; rotate_left; · (intro w hS; obtain ⟨s0, s1, s2, s3, s4, _⟩ := hS.cells; go_simp; with_reducible rfl)
                refine wpTxH_take rfl (by kernel_rfl) (v := ?_) ?_ ?_; rotate_left; · (intro w hS; obtain ⟨s0, s1, s2, s3, s4, _⟩ := hS.cells; go_simp; with_reducible rfl)
                refine wtxH_pass rfl (by kernel_rfl) ?_
                refine wtxH_pass rfl (by kernel_rfl) ?_
                refine wtxH_pass rfl (by kernel_rfl) ?_
                refine wtxH_pass rfl (by kernel_rfl) ?_
                refine wpTxH_step rfl (fun K hK => ?_)
                go_simp
                refine hK _ _ HP2.out ?_
                clear hK K
                refine wtxH_pass rfl (by kernel_rfl) ?_
                refine wpTxH_take rfl (by kernel_rfl) (v := ?_) ?_ ?_; rotate_left; · (intro w hS; obtain ⟨s0, s1, s2, s3, s4, _⟩ := hS.cells; go_simp; with_reducible rfl)
                refine wpTxH_take rfl (by kernel_rfl) (v := ?_) ?_ ?_; rotate_left; · (intro w hS; obtain ⟨s0, s1, s2, s3, s4, _⟩ := hS.cells; go_simp; with_reducible rfl)
                refine wtxH_pass rfl (by kernel_rfl) ?_
                refine wtxH_pass rfl (by kernel_rfl) ?_
                refine wtxH_pass rfl (by kernel_rfl) ?_
                refine wtxH_pass rfl (by kernel_rfl) ?_
                refine wtxH_pass rfl (by kernel_rfl) ?_
                refine wtxH_pass rfl (by kernel_rfl) ?_
                refine wtxH_pass rfl (by kernel_rfl) ?_
                refine wtxH_pass rfl (by kernel_rfl) ?_
                refine wpTxH_take rfl (by kernel_rfl) (v := ?_) ?_ ?_; rotate_left; · (intro w hS; obtain ⟨s0, s1, s2, s3, s4, _⟩ := hS.cells; go_simp; with_reducible rfl)
                refine wpTxH_nil ?_
                go_simp
                go_wp2
                go_ret2
                unfold WrtPost
                rw [HR.out]
                exact ⟨rfl, HA2.out.2.2.trans (HBX.out.mono HA2.out.2.2.size)⟩
            | true =>
              have HQ1 := Lib.hid hq1
              clear hq1
              go_wp2_with fail
              refine (oquote_ok p.name _ (le_1t _ HX.out.2.2.2.2.2.2.2.1) HQ1.out).mono ?_
              rintro e w3 ⟨rfl, hb3⟩
              have hP3 := HX.out.1.below hb3
              have hO3 := bld_later HX.out.2.1 hb3
              have hb4 := HX.out.2.2.1.trans (hb3.mono HX.out.2.2.1.size)
              have HO3 := Lib.hid (And.intro hO3 hb4)
              have HP3 := Lib.hid hP3
              clear c0 c1 c2 c3 c4 hgl
              obtain ⟨c0, c1, c2, c3, c4, hlt3⟩ := hP3.cells
              clear hb3 hO3 hb4
              cases hq2 : isFld p.file with
              | false =>
                have HQ2 := Lib.hid hq2
                have HR := Lib.hid (HBAD.out (okP_q _ (okQ_file _ hq2)))
                clear hq2
                go_wp2_with fail
                refine (oquote_bad p.file _ (le_1t _ HX.out.2.2.2.2.2.2.2.2.1) HQ2.out).mono ?_
                rintro e w4 ⟨rfl, hb5⟩
                have hP4 := HP3.out.below hb5
                have hO4 := bld_later HO3.out.1 hb5
                have hb6 := HO3.out.2.trans (hb5.mono HO3.out.2.size)
                have HO4 := Lib.hid (bld_later hO4 ((Below.refl _ w4).drew))
                have HBX := Lib.hid hb6.drew
                have HP2 := Lib.hid (show P5 34 wr.heap.size p w4.drew from hP4)
                clear hb5 hO4 hb6 hP4 c0 c1 c2 c3 c4 hlt3 HP3
                go_wp2
                refine wp_region_textH (P5 34 wr.heap.size p) [(0, true), (1, true), (2, true), (3, true), (4, true), (5, true), (6, true), (7, true), (8, true), (9, false), (10, true), (11, true), (12, true), (13, true), (14, true), (16, true), (17, true), (15, false), (18, true), (19, true), (20, true), (21, true), (22, true), (23, true), (24, true), (25, true), (26, true), (27, true), (28, true), (29, true)] (by kernel_rfl) (by kernel_rfl) (by kernel_rfl) (by kernel_rfl) HP2.out ?_
                refine wpTxH_take rfl (by kernel_rfl) (v := ?_) ?_ ?_; rotate_left; · (intro w hS; obtain ⟨s0, s1, s2, s3, s4, _⟩ := hS.cells; go_simp; with_reducible rfl)
                refine wpTxH_take rfl (by kernel_rfl) (v := ?_) ?_ ?_; rotate_left; · (intro w hS; obtain ⟨s0, s1, s2, s3, s4, _⟩ := hS.cells; go_simp; with_reducible rfl)
                refine wpTxH_take rfl (by kernel_rfl) (v := ?_) ?_ ?_; rotate_left; · (intro w hS; obtain ⟨s0, s1, s2, s3, s4, _⟩ := hS.cells; go_simp; with_reducible rfl)
                refine wpTxH_take rfl (by kernel_rfl) (v := ?_) ?_ ?_; rotate_left; · (intro w hS; obtain ⟨s0, s1, s2, s3, s4, _⟩ := hS.cells; go_simp; with_reducible rfl)
                refine wpTxH_take rfl (by kernel_rfl) (v := ?_) ?_ ?_; rotate_left; · (intro w hS; obtain ⟨s0, s1, s2, s3, s4, _⟩ := hS.cells; go_simp; with_reducible rfl)
                refine wpTxH_take rfl (by kernel_rfl) (v := ?_) ?_ ?_; rotate_left; · (intro w hS; obtain ⟨s0, s1, s2, s3, s4, _⟩ := hS.cells; go_simp; with_reducible rfl)
                refine wpTxH_take rfl (by kernel_rfl) (v := ?_) ?_ ?_; rotate_left; · (intro w hS; obtain ⟨s0, s1, s2, s3, s4, _⟩ := hS.cells; go_simp; with_reducible rfl)
                refine wtxH_pass rfl (by kernel_rfl) ?_
                refine wtxH_pass rfl (by kernel_rfl) ?_
                refine wpTxH_step rfl (fun K hK => ?_)
                go_simp
                refine hK _ _ HP2.out ?_
                clear hK K
                refine wtxH_pass rfl (by kernel_rfl) ?_
                refine wpTxH_take rfl (by kernel_rfl) (v := ?_) ?_ ?_; rotate_left; · (intro w hS; obtain ⟨s0, s1, s2, s3, s4, _⟩ := hS.cells; go_simp; with_reducible rfl)
                refine wpTxH_take rfl (by kernel_rfl) (v := ?_) ?_ ?_; rotate_left; · (intro w hS; obtain ⟨s0, s1, s2, s3, s4, _⟩ := hS.cells; go_simp; with_reducible rfl)
                refine wtxH_pass rfl (by kernel_rfl) ?_
                refine wtxH_pass rfl (by kernel_rfl) ?_
                refine wtxH_pass rfl (by kernel_rfl) ?_
                refine wtxH_pass rfl (by kernel_rfl) ?_
                refine wpTxH_step rfl (fun K hK => ?_)
                go_simp
                refine hK _ _ HP2.out ?_
                clear hK K
                refine wtxH_pass rfl (by kernel_rfl) ?_
                refine wpTxH_take rfl (by kernel_rfl) (v := ?_) ?_ ?_; rotate_left; · (intro w hS; obtain ⟨s0, s1, s2, s3, s4, _⟩ := hS.cells; go_simp; with_reducible rfl)
                refine wpTxH_take rfl (by kernel_rfl) (v := ?_) ?_ ?_; rotate_left; · (intro w hS; obtain ⟨s0, s1, s2, s3, s4, _⟩ := hS.cells; go_simp; with_reducible rfl)
                refine wtxH_pass rfl (by kernel_rfl) ?_
                refine wtxH_pass rfl (by kernel_rfl) ?_
                refine wtxH_pass rfl (by kernel_rfl) ?_
                refine wtxH_pass rfl (by kernel_rfl) ?_
                refine wtxH_pass rfl (by kernel_rfl) ?_
                refine wtxH_pass rfl (by kernel_rfl) ?_
                refine wtxH_pass rfl (by kernel_rfl) ?_
                refine wtxH_pass rfl (by kernel_rfl) ?_
                refine wpTxH_take rfl (by kernel_rfl) (v := ?_) ?_ ?_; rotate_left; · (intro w hS; obtain ⟨s0, s1, s2, s3, s4, _⟩ := hS.cells; go_simp; with_reducible rfl)
                refine wpTxH_nil ?_
                go_simp
                go_wp2
                go_ret2
                unfold WrtPost
                rw [HR.out]
                exact ⟨rfl, HA2.out.2.2.trans (HBX.out.mono HA2.out.2.2.size)⟩
              | true =>
                have HQ2 := Lib.hid hq2
                clear hq2
                go_wp2_with fail
                refine (oquote_ok p.file _ (le_1t _ HX.out.2.2.2.2.2.2.2.2.1) HQ2.out).mono ?_
                rintro e w4 ⟨rfl, hb5⟩
                have hP4 := HP3.out.below hb5
                have hO4 := bld_later HO3.out.1 hb5
                have hb6 := HO3.out.2.trans (hb5.mono HO3.out.2.size)
                have HO4 := Lib.hid (bld_later hO4 ((Below.refl _ w4).drew))
                have HBX := Lib.hid hb6.drew
                have HP2 := Lib.hid (show P5 34 wr.heap.size p w4.drew from hP4)
                clear hb5 hO4 hb6 hP4 c0 c1 c2 c3 c4 hlt3 HP3
                cases hq3 : isFld p.media with
                | false =>
                  have HQ3 := Lib.hid hq3
                  have HR := Lib.hid (HBAD.out (okP_q _ (okQ_media _ hq3)))
                  clear hq3
                  go_wp2
                  refine wp_region_textH (P5 34 wr.heap.size p) [(0, true), (1, true), (2, true), (3, true), (4, true), (5, true), (6, true), (7, true), (8, true), (9, false), (10, true), (11, true), (12, true), (13, true), (14, true), (16, true), (17, true), (15, false), (18, true), (19, true), (20, true), (21, true), (22, true), (23, true), (24, true), (25, true), (26, true), (27, true), (28, true), (29, true)] (by kernel_rfl) (by kernel_rfl) (by kernel_rfl) (by kernel_rfl) HP2.out ?_
                  refine wpTxH_take rfl (by kernel_rfl) (v := ?_) ?_ ?_; rotate_left; · (intro w hS; obtain ⟨s0, s1, s2, s3, s4, _⟩ := hS.cells; go_simp; with_reducible rfl)
                  refine wpTxH_take rfl (by kernel_rfl) (v := ?_) ?_ ?_; rotate_left; · (intro w hS; obtain ⟨s0, s1, s2, s3, s4, _⟩ := hS.cells; go_simp; with_reducible rfl)
                  refine wpTxH_take rfl (by kernel_rfl) (v := ?_) ?_ ?_; rotate_left; · (intro w hS; obtain ⟨s0, s1, s2, s3, s4, _⟩ := hS.cells; go_simp; with_reducible rfl)
                  refine wpTxH_take rfl (by kernel_rfl) (v := ?_) ?_ ?_; rotate_left; · (intro w hS; obtain ⟨s0, s1, s2, s3, s4, _⟩ := hS.cells; go_simp; with_reducible rfl)
                  refine wpTxH_take rfl (by kernel_rfl) (v := ?_) ?_ ?_; rotate_left; · (intro w hS; obtain ⟨s0, s1, s2, s3, s4, _⟩ := hS.cells; go_simp; with_reducible rfl)
                  refine wpTxH_take rfl (by kernel_rfl) (v := ?_) ?_ ?_; rotate_left; · (intro w hS; obtain ⟨s0, s1, s2, s3, s4, _⟩ := hS.cells; go_simp; with_reducible rfl)
                  refine wpTxH_take rfl (by kernel_rfl) (v := ?_) ?_ ?_; rotate_left; · (intro w hS; obtain ⟨s0, s1, s2, s3, s4, _⟩ := hS.cells; go_simp; with_reducible rfl)
                  refine wpTxH_take rfl (by kernel_rfl) (v := ?_) ?_ ?_; rotate_left; · (intro w hS; obtain ⟨s0, s1, s2, s3, s4, _⟩ := hS.cells; go_simp; with_reducible rfl)
                  refine wpTxH_take rfl (by kernel_rfl) (v := ?_) ?_ ?_; rotate_left; · (intro w hS; obtain ⟨s0, s1, s2, s3, s4, _⟩ := hS.cells; go_simp; with_reducible rfl)
                  refine wpTxH_step rfl (fun K hK => ?_)
                  go_simp
                  refine (oisfield_l p.media false HQ3.out _ (le_1t _ HX.out.2.2.2.2.2.2.2.2.2)).mono ?_
                  rintro e wq ⟨rfl, hwq⟩
                  rw [hwq]
                  clear hwq wq
                  refine hK _ _ HP2.out ?_
                  clear hK K
                  refine wpTxH_take rfl (by kernel_rfl) (v := ?_) ?_ ?_; rotate_left; · (intro w hS; obtain ⟨s0, s1, s2, s3, s4, _⟩ := hS.cells; go_simp; with_reducible rfl)
                  refine wpTxH_take rfl (by kernel_rfl) (v := ?_) ?_ ?_; rotate_left; · (intro w hS; obtain ⟨s0, s1, s2, s3, s4, _⟩ := hS.cells; go_simp; with_reducible rfl)
                  refine wpTxH_take rfl (by kernel_rfl) (v := ?_) ?_ ?_; rotate_left; · (intro w hS; obtain ⟨s0, s1, s2, s3, s4, _⟩ := hS.cells; go_simp; with_reducible rfl)
                  refine wtxH_pass rfl (by kernel_rfl) ?_
                  refine wtxH_pass rfl (by kernel_rfl) ?_
                  refine wtxH_pass rfl (by kernel_rfl) ?_
                  refine wtxH_pass rfl (by kernel_rfl) ?_
                  refine wpTxH_step rfl (fun K hK => ?_)
                  go_simp
                  refine hK _ _ HP2.out ?_
                  clear hK K
                  refine wtxH_pass rfl (by kernel_rfl) ?_
                  refine wpTxH_take rfl (by kernel_rfl) (v := ?_) ?_ ?_; rotate_left; · (intro w hS; obtain ⟨s0, s1, s2, s3, s4, _⟩ := hS.cells; go_simp; with_reducible rfl)
                  refine wpTxH_take rfl (by kernel_rfl) (v := ?_) ?_ ?_; rotate_left; · (intro w hS; obtain ⟨s0, s1, s2, s3, s4, _⟩ := hS.cells; go_simp; with_reducible rfl)
                  refine wtxH_pass rfl (by kernel_rfl) ?_
                  refine wtxH_pass rfl (by kernel_rfl) ?_
                  refine wtxH_pass rfl (by kernel_rfl) ?_
                  refine wtxH_pass rfl (by kernel_rfl) ?_
                  refine wtxH_pass rfl (by kernel_rfl) ?_
                  refine wtxH_pass rfl (by kernel_rfl) ?_
                  refine wtxH_pass rfl (by kernel_rfl) ?_
                  refine wtxH_pass rfl (by kernel_rfl) ?_
                  refine wpTxH_take rfl (by kernel_rfl) (v := ?_) ?_ ?_; rotate_left; · (intro w hS; obtain ⟨s0, s1, s2, s3, s4, _⟩ := hS.cells; go_simp; with_reducible rfl)
                  refine wpTxH_nil ?_
                  go_simp
                  go_wp2
                  go_ret2
                  unfold WrtPost
                  rw [HR.out]
                  exact ⟨rfl, HA2.out.2.2.trans (HBX.out.mono HA2.out.2.2.size)⟩
                | true =>
                  have HQ3 := Lib.hid hq3
                  clear hq3
                  by_cases hq4 : trimL p.media = p.media
                  · have HQ4 := Lib.hid hq4
                    clear hq4
                    cases hh : p.has with
                    | true =>
                      have HQ := Lib.hid (okQ_yes p HQ1.out HQ2.out HQ3.out HQ4.out (Or.inl hh))
                      go_wp2
                      refine wp_region_textH (P5 34 wr.heap.size p) [(0, true), (1, true), (2, true), (3, true), (4, true), (5, true), (6, true), (7, true), (8, true), (9, false), (10, true), (11, true), (12, true), (13, true), (14, true), (16, true), (17, true), (15, false), (18, true), (19, true), (20, true), (21, true), (22, true), (23, true), (24, true), (25, true), (26, true), (27, true), (28, true), (29, true)] (by kernel_rfl) (by kernel_rfl) (by kernel_rfl) (by kernel_rfl) HP2.out ?_
                      refine wpTxH_take rfl (by kernel_rfl) (v := ?_) ?_ ?_; rotate_left; · (intro w hS; obtain ⟨s0, s1, s2, s3, s4, _⟩ := hS.cells; go_simp; with_reducible rfl)
                      refine wpTxH_take rfl (by kernel_rfl) (v := ?_) ?_ ?_; rotate_left; · (intro w hS; obtain ⟨s0, s1, s2, s3, s4, _⟩ := hS.cells; go_simp; with_reducible rfl)
                      refine wpTxH_take rfl (by kernel_rfl) (v := ?_) ?_ ?_; rotate_left; · (intro w hS; obtain ⟨s0, s1, s2, s3, s4, _⟩ := hS.cells; go_simp; with_reducible rfl)
                      refine wpTxH_take rfl (by kernel_rfl) (v := ?_) ?_ ?_; rotate_left; · (intro w hS; obtain ⟨s0, s1, s2, s3, s4, _⟩ := hS.cells; go_simp; with_reducible rfl)
                      refine wpTxH_take rfl (by kernel_rfl) (v := ?_) ?_ ?_; rotate_left; · (intro w hS; obtain ⟨s0, s1, s2, s3, s4, _⟩ := hS.cells; go_simp; with_reducible rfl)
                      refine wpTxH_take rfl (by kernel_rfl) (v := ?_) ?_ ?_; rotate_left; · (intro w hS; obtain ⟨s0, s1, s2, s3, s4, _⟩ := hS.cells; go_simp; with_reducible rfl)
                      refine wpTxH_take rfl (by kernel_rfl) (v := ?_) ?_ ?_; rotate_left; · (intro w hS; obtain ⟨s0, s1, s2, s3, s4, _⟩ := hS.cells; go_simp; with_reducible rfl)
                      refine wpTxH_take rfl (by kernel_rfl) (v := ?_) ?_ ?_; rotate_left; · (intro w hS; obtain ⟨s0, s1, s2, s3, s4, _⟩ := hS.cells; go_simp; with_reducible rfl)
                      refine wpTxH_take rfl (by kernel_rfl) (v := ?_) ?_ ?_; rotate_left; · (intro w hS; obtain ⟨s0, s1, s2, s3, s4, _⟩ := hS.cells; go_simp; with_reducible rfl)
                      refine wpTxH_step rfl (fun K hK => ?_)
                      go_simp
                      refine (oisfield_l p.media true HQ3.out _ (le_1t _ HX.out.2.2.2.2.2.2.2.2.2)).mono ?_
                      rintro e wq ⟨rfl, hwq⟩
                      rw [hwq]
                      clear hwq wq
                      refine hK _ _ HP2.out ?_
                      clear hK K
                      refine wpTxH_take rfl (by kernel_rfl) (v := ?_) ?_ ?_; rotate_left; · (intro w hS; obtain ⟨s0, s1, s2, s3, s4, _⟩ := hS.cells; go_simp; with_reducible rfl)
                      refine wpTxH_take rfl (by kernel_rfl) (v := ?_) ?_ ?_; rotate_left; · (intro w hS; obtain ⟨s0, s1, s2, s3, s4, _⟩ := hS.cells; go_simp; with_reducible rfl)
                      refine wpTxH_take rfl (by kernel_rfl) (v := ?_) ?_ ?_; rotate_left; · (intro w hS; obtain ⟨s0, s1, s2, s3, s4, _⟩ := hS.cells; go_simp; with_reducible rfl)
                      refine wpTxH_take rfl (by kernel_rfl) (v := ?_) ?_ ?_; rotate_left; · (intro w hS; obtain ⟨s0, s1, s2, s3, s4, _⟩ := hS.cells; go_simp; with_reducible rfl)
                      refine wpTxH_take rfl (by kernel_rfl) (v := ?_) ?_ ?_; rotate_left; · (intro w hS; obtain ⟨s0, s1, s2, s3, s4, _⟩ := hS.cells; go_simp; with_reducible rfl)
                      refine wpTxH_take rfl (by kernel_rfl) (v := ?_) ?_ ?_; rotate_left; · (intro w hS; obtain ⟨s0, s1, s2, s3, s4, _⟩ := hS.cells; go_simp; with_reducible rfl)
                      refine wpTxH_take rfl (by kernel_rfl) (v := ?_) ?_ ?_; rotate_left; · (intro w hS; obtain ⟨s0, s1, s2, s3, s4, _⟩ := hS.cells; go_simp; with_reducible rfl)
                      refine wpTxH_step rfl (fun K hK => ?_)
                      go_simp
                      refine (otrim_l p.media p.media HQ4.out _ (le_1t _ HX.out.2.2.2.2.2.2.2.2.2)).mono ?_
                      rintro e w5 ⟨rfl, hb7⟩
                      have hP5 := HP2.out.below hb7
                      refine hK _ _ hP5 ?_
                      clear hK K
                      have hb8 := HBX.out.trans (hb7.mono HBX.out.size)
                      have hO5 := bld_later HO4.out hb7
                      have HBX := Lib.hid hb8
                      have HO4 := Lib.hid hO5
                      have HP2 := Lib.hid hP5
                      clear hb7 hP5 hb8 hO5
                      refine wpTxH_take rfl (by kernel_rfl) (v := ?_) ?_ ?_; rotate_left; · (intro w hS; obtain ⟨s0, s1, s2, s3, s4, _⟩ := hS.cells; go_simp; with_reducible rfl)
                      refine wpTxH_take rfl (by kernel_rfl) (v := ?_) ?_ ?_; rotate_left; · (intro w hS; obtain ⟨s0, s1, s2, s3, s4, _⟩ := hS.cells; go_simp; with_reducible rfl)
                      refine wpTxH_take rfl (by kernel_rfl) (v := ?_) ?_ ?_; rotate_left; · (intro w hS; obtain ⟨s0, s1, s2, s3, s4, _⟩ := hS.cells; go_simp; with_reducible rfl)
                      refine wpTxH_take rfl (by kernel_rfl) (v := ?_) ?_ ?_; rotate_left; · (intro w hS; obtain ⟨s0, s1, s2, s3, s4, _⟩ := hS.cells; go_simp; with_reducible rfl)
                      refine wpTxH_take rfl (by kernel_rfl) (v := ?_) ?_ ?_; rotate_left; · (intro w hS; obtain ⟨s0, s1, s2, s3, s4, _⟩ := hS.cells; go_simp; with_reducible rfl)
                      refine wpTxH_take rfl (by kernel_rfl) (v := ?_) ?_ ?_; rotate_left; · (intro w hS; obtain ⟨s0, s1, s2, s3, s4, _⟩ := hS.cells; go_simp; with_reducible rfl)
                      refine wpTxH_take rfl (by kernel_rfl) (v := ?_) ?_ ?_; rotate_left; · (intro w hS; obtain ⟨s0, s1, s2, s3, s4, _⟩ := hS.cells; go_simp; with_reducible rfl)
                      refine wtxH_pass rfl (by kernel_rfl) ?_
                      refine wtxH_pass rfl (by kernel_rfl) ?_
                      refine wtxH_pass rfl (by kernel_rfl) ?_
                      refine wpTxH_take rfl (by kernel_rfl) (v := ?_) ?_ ?_; rotate_left; · (intro w hS; obtain ⟨s0, s1, s2, s3, s4, _⟩ := hS.cells; go_simp; with_reducible rfl)
                      refine wpTxH_take rfl (by kernel_rfl) (v := ?_) ?_ ?_; rotate_left; · (intro w hS; obtain ⟨s0, s1, s2, s3, s4, _⟩ := hS.cells; go_simp; with_reducible rfl)
                      refine wpTxH_nil ?_
                      go_simp
                      obtain ⟨D1, hD1⟩ : ∃ D1, cdB ++ fdB ++ qtL p.name = D1 := ⟨_, rfl⟩
                      obtain ⟨E1, hE1⟩ : ∃ E1, fnB ++ qtL p.file = E1 := ⟨_, rfl⟩
                      obtain ⟨ln, hln⟩ : ∃ ln, D1 ++ E1 = ln := ⟨_, rfl⟩
                      have g2 := cat_cd _ D1 hD1
                      have g3 := cat_fn _ E1 hE1
                      have g4 := cat_ab D1 E1 ln hln
                      have hll : lineL p = ln := by rw [line_has p hh, hD1, hE1, hln]
                      have n1 := qtL_len p.name
                      have n2 := qtL_len p.file
                      have n3 := d1_len _ D1 hD1
                      have n4 := e1_len _ E1 hE1
                      have n5 := HX.out.2.2.2.2.2.2.2.1
                      have n6 := HX.out.2.2.2.2.2.2.2.2.1
                      have n7 : ln.length = D1.length + E1.length := by rw [← hln, List.length_append]
                      have z2 := nof 37 (qtL p.name).length (by decide) (by omega)
                      have z3 := nof 11 (qtL p.file).length (by decide) (by omega)
                      have z4 := nof D1.length E1.length (by omega) (by omega)
                      have hln8 : ln.length ≤ 8388608 := by omega
                      clear n1 n2 n3 n4 n5 n6 n7 hD1 hE1 hln
                      obtain ⟨hd, hhd⟩ : ∃ hd, t ++ [13, 10] = hd := ⟨_, rfl⟩
                      obtain ⟨lc, hlc⟩ : ∃ lc, ln ++ [13, 10] = lc := ⟨_, rfl⟩
                      obtain ⟨b1, hb1⟩ : ∃ b1, 13 :: 10 :: p.body = b1 := ⟨_, rfl⟩
                      obtain ⟨b2, hb2⟩ : ∃ b2, b1 ++ [13, 10] = b2 := ⟨_, rfl⟩
                      have g5 := cat_nl ln lc hlc
                      have g6 := cat_nl t hd hhd
                      have g7 := cat_ln p.body b1 hb1
                      have g8 := cat_nl b1 b2 hb2
                      have htl : t.length ≤ 100 := by rw [← HBT.out.2.2.2.2]; simp only [List.length_cons]; omega
                      have hlens := lens1 A0 t hd ln lc p.body b1 b2 HAB.out htl hhd hlc hln8 HX.out.2.2.2.2.2.2.1 hb1 hb2
                      have z5 := nof ln.length 2 (Nat.le_trans hlens.2.2.2.2.2.2.1 (by decide)) (by decide)
                      have z6 := nof t.length 2 (Nat.le_trans htl (by decide)) (by decide)
                      have z7 := nof 2 p.body.length (by decide) (Nat.le_trans HX.out.2.2.2.2.2.2.1 (by decide))
                      have z8 := nof b1.length 2 hlens.2.2.2.2.2.1 (by decide)
                      have HLEN := Lib.hid hlens
                      have hlo := line_ok p HQ.out
                      rw [hll] at hlo
                      have HLO := Lib.hid hlo
                      clear hlo hlens
                      by_cases hmd : p.media = []
                      · have HFIN := Lib.hid (fin1 B t hd ln lc b1 b2 p HBT.out.2.2.1 hhd hll hlc (med_not p hmd) hb1 hb2 A0)
                        have hmz : p.media.length ≤ 8192 := by rw [hmd]; simp
                        clear hhd hlc hb1 hb2 hll htl hln8
                        obtain ⟨c0, c1, c2, c3, c4, hl5⟩ := HP2.out.cells
                        have HRW := Lib.hid (rowS_one w5 ln)
                        have hbq := (Below.refl w5.heap.size w5).alloc (Nat.le_refl _) (.cells #[.string ⟨ln.toArray⟩] 9)
                        have hO := bld_later HO4.out hbq
                        have hP := HP2.out.below hbq
                        have hB := HBX.out.alloc HBX.out.size (.cells #[.string ⟨ln.toArray⟩] 9)
                        have HO4 := Lib.hid hO
                        have HP2 := Lib.hid hP
                        have HBX := Lib.hid hB
                        clear hO hP hB hbq
                        go_wp2_with fail
                        refine (writeString_l _ _ _ hd _ HO4.out (len_ok _ _ HLEN.out.2.2.2.2.2.2.2 HLEN.out.1) HBX.out.size).mono ?_
                        rintro e w6 ⟨nz, rfl, hO, hbq, hkq⟩
                        have hP := HP2.out.keeps hkq (by decide) (by decide)
                        have hB := HBX.out.trans hbq
                        have hR := HRW.out.keeps hkq
                        have HRW := Lib.hid hR
                        clear hR
                        have HO4 := Lib.hid hO
                        have HP2 := Lib.hid hP
                        have HBX := Lib.hid hB
                        clear hO hP hB hbq hkq
                        clear c0 c1 c2 c3 c4 hl5
                        obtain ⟨c0, c1, c2, c3, c4, hl5⟩ := HP2.out.cells
                        have q0 := HRW.out.cell 0 ln rfl
                        go_wp2
                        refine wp_loop_rounds 4 ?_
                        rw [rounds_succ]
                        by_cases hv : (valL p).length ≤ 8192
                        · have HOK := Lib.hid (okP_yes p HQ.out hv hmz)
                          have hl0 := HLO.out
                          rw [if_pos hv] at hl0
                          have HL0 := Lib.hid hl0
                          clear hl0 hv
                          go_wp2_with fail
                          refine (pl_0 ln _ HLEN.out.2.2.2.2.2.2.1 (HA2.out.2.1.below HBX.out) HL0.out).mono ?_
                          rintro e w7 ⟨fa, fb, fx, rfl, hbq⟩
                          have hO := bld_later HO4.out hbq
                          have hP := HP2.out.below hbq
                          have hB := HBX.out.trans (hbq.mono HBX.out.size)
                          have hR := HRW.out.below hbq
                          have HRW := Lib.hid hR
                          have HO4 := Lib.hid hO
                          have HP2 := Lib.hid hP
                          have HBX := Lib.hid hB
                          clear hO hP hB hbq hR
                          have hbq := (Below.refl w7.heap.size w7).alloc (Nat.le_refl _) (.cells #[.string fa, .string fb] 103)
                          have hO := bld_later HO4.out hbq
                          have hP := HP2.out.below hbq
                          have hB := HBX.out.alloc HBX.out.size (.cells #[.string fa, .string fb] 103)
                          have hR := HRW.out.below hbq
                          have HRW := Lib.hid hR
                          have HO4 := Lib.hid hO
                          have HP2 := Lib.hid hP
                          have HBX := Lib.hid hB
                          clear hO hP hB hbq hR
                          go_wp2_with fail
                          refine (writeString_l _ _ _ lc _ HO4.out (len_ok _ _ HLEN.out.2.1 HLEN.out.2.2.1) HBX.out.size).mono ?_
                          rintro e w8 ⟨nz, rfl, hO, hbq, hkq⟩
                          have hP := HP2.out.keeps hkq (by decide) (by decide)
                          have hB := HBX.out.trans hbq
                          have hR := HRW.out.keeps hkq
                          have HRW := Lib.hid hR
                          clear hR
                          have HO4 := Lib.hid hO
                          have HP2 := Lib.hid hP
                          have HBX := Lib.hid hB
                          clear hO hP hB hbq hkq
                          clear c0 c1 c2 c3 c4 hl5 q0
                          obtain ⟨c0, c1, c2, c3, c4, hl5⟩ := HP2.out.cells
                          go_wp2
                          rw [rounds_succ]
                          go_wp2_with fail
                          refine (writeString_l _ _ _ b2 _ HO4.out (len_ok _ _ HLEN.out.2.2.2.1 HLEN.out.2.2.2.2.1) HBX.out.size).mono ?_
                          rintro e w9 ⟨nz, rfl, hO, hbq, hkq⟩
                          have hP := HP2.out.keeps hkq (by decide) (by decide)
                          have hB := HBX.out.trans hbq
                          have HO4 := Lib.hid hO
                          have HP2 := Lib.hid hP
                          have HBX := Lib.hid hB
                          clear hO hP hB hbq hkq
                          go_wp2
                          have hwi := HX.out.2.2.2.2.2.1
                          go_roundw
                          case rel => (try rw [hwi]); clear hwi; exact ⟨i + 1, by go_num, hlt, take_all okP l i p HX.out.2.2.2.1 HX.out.2.2.2.2.1 HOK.out, by rw [HTK.out, HFIN.out]; exact HO4.out, HBX.out⟩
                          case measure => (try rw [hwi]); clear hwi; simp [intOf]; omega
                        · have hl0 := HLO.out
                          rw [if_neg hv] at hl0
                          have HL0 := Lib.hid hl0
                          have HBIG := Lib.hid (okP_big p HQ.out (by omega))
                          clear hl0 hv
                          have HR := Lib.hid (HBAD.out HBIG.out)
                          go_wp2_with fail
                          refine (pl_61 ln _ HLEN.out.2.2.2.2.2.2.1 (HA2.out.2.1.below HBX.out) HL0.out).mono ?_
                          rintro e wz ⟨fa, fb, fx, rfl, hbq⟩
                          have hB := (HBX.out.trans (hbq.mono HBX.out.size)).alloc (HBX.out.trans (hbq.mono HBX.out.size)).size (.cells #[.string fa, .string fb] 103)
                          have HBX := Lib.hid hB
                          clear hB hbq
                          go_wp2
                          go_ret2
                          unfold WrtPost
                          rw [HR.out]
                          exact ⟨rfl, HA2.out.2.2.trans (HBX.out.mono HA2.out.2.2.size)⟩
                      · obtain ⟨M, hM⟩ : ∃ M, ctB ++ p.media = M := ⟨_, rfl⟩
                        obtain ⟨mc, hmc⟩ : ∃ mc, M ++ [13, 10] = mc := ⟨_, rfl⟩
                        obtain ⟨i0, hi0, hz0, hz1, hz2⟩ := info_partsS infoStr
                        have g9 := cat_ct p.media M hM
                        have g10 := cat_nl M mc hmc
                        have hlens2 := lens2 A0 t hd ln lc p.media M mc HAB.out htl hhd hlc hln8 HX.out.2.2.2.2.2.2.2.2.2 hM hmc
                        have z9 := nof 14 p.media.length (by decide) (Nat.le_trans HX.out.2.2.2.2.2.2.2.2.2 (by decide))
                        have z10 := nof M.length 2 (Nat.le_trans hlens2.1 (by decide)) (by decide)
                        have HLEN2 := Lib.hid hlens2
                        have hmo := med_ok p HQ.out
                        rw [hM] at hmo
                        have HMO := Lib.hid hmo
                        have hme : p.media.isEmpty = false := by
                          cases hc : p.media with
                          | nil => exact absurd hc hmd
                          | cons => rfl
                        have HFIN := Lib.hid (fin2 B t hd ln lc M mc b1 b2 p HBT.out.2.2.1 hhd hll hlc hM hmc (med_yes p hmd) hb1 hb2 A0)
                        clear hhd hlc hb1 hb2 hll htl hln8 hM hmc hmo hlens2
                        have hown1 := ownsRow_one w5 w2.heap.size 9 (.string ⟨ln.toArray⟩) HBX.out.size
                        obtain ⟨c0, c1, c2, c3, c4, hl5⟩ := HP2.out.cells
                        have hbq := (Below.refl w5.heap.size w5).alloc (Nat.le_refl _) (.cells #[.string ⟨ln.toArray⟩] 9)
                        have hO := bld_later HO4.out hbq
                        have hP := HP2.out.below hbq
                        have hB := HBX.out.alloc HBX.out.size (.cells #[.string ⟨ln.toArray⟩] 9)
                        have hrow1 : (w5.alloc (.cells #[.string ⟨ln.toArray⟩] 9)).heap[w5.heap.size]? = some (.cells #[.string ⟨ln.toArray⟩] 9 (0, 0)) := heap_alloc_new w5 _
                        obtain ⟨X1, hX1⟩ : ∃ X, w5.alloc (.cells #[.string ⟨ln.toArray⟩] 9) = X := ⟨_, rfl⟩
                        rw [hX1] at hO hP hB hown1 hrow1
                        have HX1 := Lib.hid hX1
                        have HOWN := Lib.hid hown1
                        have HROW1 := Lib.hid hrow1
                        have HO4 := Lib.hid hO
                        have HP2 := Lib.hid hP
                        have HBX := Lib.hid hB
                        clear hO hP hB hbq hX1 hown1 hrow1
                        go_upto_region 17 with fail
                        rw [HX1.out]
                        clear c0 c1 c2 c3 c4 hl5
                        obtain ⟨c0, c1, c2, c3, c4, hl5⟩ := HP2.out.cells
                        go_wp2_with (at_builtin; refine wpList_append_own _ rfl (.tmp 95) (.tmp 99) 89 rfl w2.heap.size 9 i0 (.string ByteArray.empty) 1 16 Tryz.underlying89 hi0 hz0 hz1 hz2 rfl (by decide) _ _ _ rfl (HOWN.out.alloc _) ⟨X1.heap.size, 0, none⟩ 1 1 [.string ⟨M.toArray⟩] rfl rfl (cells_new _ _ _) (by simp [Value.oneCell']) (by decide) (by decide) ?d0 ?_)
                        case d0 => exact Nat.le_succ_of_le HBX.out.size
                        intro v1 w7 hI1 hg7 _
                        have hB := (HBX.out.alloc HBX.out.size (.cells #[.string ⟨M.toArray⟩] 9)).grown hg7 (by simp; exact Nat.le_trans HBX.out.size (Nat.le_succ _)) (fun j hj => (HOWN.out.lt j hj).1)
                        have hal := (Below.refl X1.heap.size X1).alloc (Nat.le_refl _) (.cells #[.string ⟨M.toArray⟩] 9)
                        have hrow2 : (X1.alloc (.cells #[.string ⟨M.toArray⟩] 9)).heap[w5.heap.size]? = some (.cells #[.string ⟨ln.toArray⟩] 9 (0, 0)) := by
                          rw [hal.block _ (Array.getElem?_eq_some_iff.1 HROW1.out).1]; exact HROW1.out
                        have hO := bld_grown (bld_later HO4.out hal) hrow2 hg7 (by decide) (by decide)
                        have hP := (HP2.out.below hal).grown hrow2 hg7 (by decide)
                        obtain ⟨gR, cp, rfl, hR⟩ := rowS_own (l := [ln, M]) hI1 (by simp)
                        have HRW := Lib.hid hR
                        have HO4 := Lib.hid hO
                        have HP2 := Lib.hid hP
                        have HBX := Lib.hid hB
                        clear hO hP hB hal hrow2 hI1 hg7 hR
                        go_wp2_with fail
                        refine (writeString_l _ _ _ hd _ HO4.out (len_ok _ _ HLEN.out.2.2.2.2.2.2.2 HLEN.out.1) HBX.out.size).mono ?_
                        rintro e w6 ⟨nz, rfl, hO, hbq, hkq⟩
                        have hP := HP2.out.keeps hkq (by decide) (by decide)
                        have hB := HBX.out.trans hbq
                        have hR := HRW.out.keeps hkq
                        have HRW := Lib.hid hR
                        clear hR
                        have HO4 := Lib.hid hO
                        have HP2 := Lib.hid hP
                        have HBX := Lib.hid hB
                        clear hO hP hB hbq hkq
                        clear c0 c1 c2 c3 c4 hl5
                        obtain ⟨c0, c1, c2, c3, c4, hl5⟩ := HP2.out.cells
                        have q0 := HRW.out.cell 0 ln rfl
                        go_wp2
                        refine wp_loop_rounds 4 ?_
                        rw [rounds_succ]
                        by_cases hv : (valL p).length ≤ 8192
                        · have hl0 := HLO.out
                          rw [if_pos hv] at hl0
                          have HL0 := Lib.hid hl0
                          have HV := Lib.hid hv
                          clear hl0 hv
                          go_wp2_with fail
                          refine (pl_0 ln _ HLEN.out.2.2.2.2.2.2.1 (HA2.out.2.1.below HBX.out) HL0.out).mono ?_
                          rintro e w7 ⟨fa, fb, fx, rfl, hbq⟩
                          have hO := bld_later HO4.out hbq
                          have hP := HP2.out.below hbq
                          have hB := HBX.out.trans (hbq.mono HBX.out.size)
                          have hR := HRW.out.below hbq
                          have HRW := Lib.hid hR
                          have HO4 := Lib.hid hO
                          have HP2 := Lib.hid hP
                          have HBX := Lib.hid hB
                          clear hO hP hB hbq hR
                          have hbq := (Below.refl w7.heap.size w7).alloc (Nat.le_refl _) (.cells #[.string fa, .string fb] 103)
                          have hO := bld_later HO4.out hbq
                          have hP := HP2.out.below hbq
                          have hB := HBX.out.alloc HBX.out.size (.cells #[.string fa, .string fb] 103)
                          have hR := HRW.out.below hbq
                          have HRW := Lib.hid hR
                          have HO4 := Lib.hid hO
                          have HP2 := Lib.hid hP
                          have HBX := Lib.hid hB
                          clear hO hP hB hbq hR
                          go_wp2_with fail
                          refine (writeString_l _ _ _ lc _ HO4.out (len_ok _ _ HLEN.out.2.1 HLEN.out.2.2.1) HBX.out.size).mono ?_
                          rintro e w8 ⟨nz, rfl, hO, hbq, hkq⟩
                          have hP := HP2.out.keeps hkq (by decide) (by decide)
                          have hB := HBX.out.trans hbq
                          have hR := HRW.out.keeps hkq
                          have HRW := Lib.hid hR
                          clear hR
                          have HO4 := Lib.hid hO
                          have HP2 := Lib.hid hP
                          have HBX := Lib.hid hB
                          clear hO hP hB hbq hkq
                          clear c0 c1 c2 c3 c4 hl5 q0
                          obtain ⟨c0, c1, c2, c3, c4, hl5⟩ := HP2.out.cells
                          have q1 := HRW.out.cell 1 M rfl
                          go_wp2
                          rw [rounds_succ]
                          by_cases hv2 : p.media.length ≤ 8192
                          · have hl1 := HMO.out
                            rw [if_pos hv2] at hl1
                            have HL1 := Lib.hid hl1
                            have HOK := Lib.hid (okP_yes p HQ.out HV.out hv2)
                            clear hl1 hv2
                            go_wp2_with fail
                            refine (pl_0 M _ HLEN2.out.1 (HA2.out.2.1.below HBX.out) HL1.out).mono ?_
                            rintro e w9 ⟨fa, fb, fx, rfl, hbq⟩
                            have hO := bld_later HO4.out hbq
                            have hP := HP2.out.below hbq
                            have hB := HBX.out.trans (hbq.mono HBX.out.size)
                            have hR := HRW.out.below hbq
                            have HRW := Lib.hid hR
                            have HO4 := Lib.hid hO
                            have HP2 := Lib.hid hP
                            have HBX := Lib.hid hB
                            clear hO hP hB hbq hR
                            have hbq := (Below.refl w9.heap.size w9).alloc (Nat.le_refl _) (.cells #[.string fa, .string fb] 103)
                            have hO := bld_later HO4.out hbq
                            have hP := HP2.out.below hbq
                            have hB := HBX.out.alloc HBX.out.size (.cells #[.string fa, .string fb] 103)
                            have hR := HRW.out.below hbq
                            have HRW := Lib.hid hR
                            have HO4 := Lib.hid hO
                            have HP2 := Lib.hid hP
                            have HBX := Lib.hid hB
                            clear hO hP hB hbq hR
                            go_wp2_with fail
                            refine (writeString_l _ _ _ mc _ HO4.out (len_ok _ _ HLEN.out.2.2.2.1 HLEN2.out.2.1) HBX.out.size).mono ?_
                            rintro e wa ⟨nz, rfl, hO, hbq, hkq⟩
                            have hP := HP2.out.keeps hkq (by decide) (by decide)
                            have hB := HBX.out.trans hbq
                            have hR := HRW.out.keeps hkq
                            have HRW := Lib.hid hR
                            clear hR
                            have HO4 := Lib.hid hO
                            have HP2 := Lib.hid hP
                            have HBX := Lib.hid hB
                            clear hO hP hB hbq hkq
                            clear c0 c1 c2 c3 c4 hl5 q1
                            obtain ⟨c0, c1, c2, c3, c4, hl5⟩ := HP2.out.cells
                            go_wp2
                            rw [rounds_succ]
                            go_wp2_with fail
                            refine (writeString_l _ _ _ b2 _ HO4.out (len_ok _ _ HLEN2.out.2.2 HLEN.out.2.2.2.2.1) HBX.out.size).mono ?_
                            rintro e wb ⟨nz, rfl, hO, hbq, hkq⟩
                            have hP := HP2.out.keeps hkq (by decide) (by decide)
                            have hB := HBX.out.trans hbq
                            have HO4 := Lib.hid hO
                            have HP2 := Lib.hid hP
                            have HBX := Lib.hid hB
                            clear hO hP hB hbq hkq
                            go_wp2
                            have hwi := HX.out.2.2.2.2.2.1
                            go_roundw
                            case rel => (try rw [hwi]); clear hwi; exact ⟨i + 1, by go_num, hlt, take_all okP l i p HX.out.2.2.2.1 HX.out.2.2.2.2.1 HOK.out, by rw [HTK.out, HFIN.out]; exact HO4.out, HBX.out⟩
                            case measure => (try rw [hwi]); clear hwi; simp [intOf]; omega
                          · have hl1 := HMO.out
                            rw [if_neg hv2] at hl1
                            have HL1 := Lib.hid hl1
                            have HBIG := Lib.hid (okP_med p HQ.out (by omega))
                            clear hl1 hv2
                            have HR := Lib.hid (HBAD.out HBIG.out)
                            go_wp2_with fail
                            refine (pl_61 M _ HLEN2.out.1 (HA2.out.2.1.below HBX.out) HL1.out).mono ?_
                            rintro e wz ⟨fa, fb, fx, rfl, hbq⟩
                            have hB := (HBX.out.trans (hbq.mono HBX.out.size)).alloc (HBX.out.trans (hbq.mono HBX.out.size)).size (.cells #[.string fa, .string fb] 103)
                            have HBX := Lib.hid hB
                            clear hB hbq
                            go_wp2
                            go_ret2
                            unfold WrtPost
                            rw [HR.out]
                            exact ⟨rfl, HA2.out.2.2.trans (HBX.out.mono HA2.out.2.2.size)⟩
                        · have hl0 := HLO.out
                          rw [if_neg hv] at hl0
                          have HL0 := Lib.hid hl0
                          have HBIG := Lib.hid (okP_big p HQ.out (by omega))
                          clear hl0 hv
                          have HR := Lib.hid (HBAD.out HBIG.out)
                          go_wp2_with fail
                          refine (pl_61 ln _ HLEN.out.2.2.2.2.2.2.1 (HA2.out.2.1.below HBX.out) HL0.out).mono ?_
                          rintro e wz ⟨fa, fb, fx, rfl, hbq⟩
                          have hB := (HBX.out.trans (hbq.mono HBX.out.size)).alloc (HBX.out.trans (hbq.mono HBX.out.size)).size (.cells #[.string fa, .string fb] 103)
                          have HBX := Lib.hid hB
                          clear hB hbq
                          go_wp2
                          go_ret2
                          unfold WrtPost
                          rw [HR.out]
                          exact ⟨rfl, HA2.out.2.2.trans (HBX.out.mono HA2.out.2.2.size)⟩
                    | false =>
                      by_cases hf : p.file = []
                      · have HQ := Lib.hid (okQ_yes p HQ1.out HQ2.out HQ3.out HQ4.out (Or.inr hf))
                        go_wp2
                        refine wp_region_textH (P5 34 wr.heap.size p) [(0, true), (1, true), (2, true), (3, true), (4, true), (5, true), (6, true), (7, true), (8, true), (9, false), (10, true), (11, true), (12, true), (13, true), (14, true), (16, true), (17, true), (15, false), (18, true), (19, true), (20, true), (21, true), (22, true), (23, true), (24, true), (25, true), (26, true), (27, true), (28, true), (29, true)] (by kernel_rfl) (by kernel_rfl) (by kernel_rfl) (by kernel_rfl) HP2.out ?_
                        refine wpTxH_take rfl (by kernel_rfl) (v := ?_) ?_ ?_; rotate_left; · (intro w hS; obtain ⟨s0, s1, s2, s3, s4, _⟩ := hS.cells; go_simp; with_reducible rfl)
                        refine wpTxH_take rfl (by kernel_rfl) (v := ?_) ?_ ?_; rotate_left; · (intro w hS; obtain ⟨s0, s1, s2, s3, s4, _⟩ := hS.cells; go_simp; with_reducible rfl)
                        refine wpTxH_take rfl (by kernel_rfl) (v := ?_) ?_ ?_; rotate_left; · (intro w hS; obtain ⟨s0, s1, s2, s3, s4, _⟩ := hS.cells; go_simp; with_reducible rfl)
                        refine wpTxH_take rfl (by kernel_rfl) (v := ?_) ?_ ?_; rotate_left; · (intro w hS; obtain ⟨s0, s1, s2, s3, s4, _⟩ := hS.cells; go_simp; with_reducible rfl)
                        refine wpTxH_take rfl (by kernel_rfl) (v := ?_) ?_ ?_; rotate_left; · (intro w hS; obtain ⟨s0, s1, s2, s3, s4, _⟩ := hS.cells; go_simp; with_reducible rfl)
                        refine wpTxH_take rfl (by kernel_rfl) (v := ?_) ?_ ?_; rotate_left; · (intro w hS; obtain ⟨s0, s1, s2, s3, s4, _⟩ := hS.cells; go_simp; with_reducible rfl)
                        refine wpTxH_take rfl (by kernel_rfl) (v := ?_) ?_ ?_; rotate_left; · (intro w hS; obtain ⟨s0, s1, s2, s3, s4, _⟩ := hS.cells; go_simp; with_reducible rfl)
                        refine wpTxH_take rfl (by kernel_rfl) (v := ?_) ?_ ?_; rotate_left; · (intro w hS; obtain ⟨s0, s1, s2, s3, s4, _⟩ := hS.cells; go_simp; with_reducible rfl)
                        refine wpTxH_take rfl (by kernel_rfl) (v := ?_) ?_ ?_; rotate_left; · (intro w hS; obtain ⟨s0, s1, s2, s3, s4, _⟩ := hS.cells; go_simp; with_reducible rfl)
                        refine wpTxH_step rfl (fun K hK => ?_)
                        go_simp
                        refine (oisfield_l p.media true HQ3.out _ (le_1t _ HX.out.2.2.2.2.2.2.2.2.2)).mono ?_
                        rintro e wq ⟨rfl, hwq⟩
                        rw [hwq]
                        clear hwq wq
                        refine hK _ _ HP2.out ?_
                        clear hK K
                        refine wpTxH_take rfl (by kernel_rfl) (v := ?_) ?_ ?_; rotate_left; · (intro w hS; obtain ⟨s0, s1, s2, s3, s4, _⟩ := hS.cells; go_simp; with_reducible rfl)
                        refine wpTxH_take rfl (by kernel_rfl) (v := ?_) ?_ ?_; rotate_left; · (intro w hS; obtain ⟨s0, s1, s2, s3, s4, _⟩ := hS.cells; go_simp; with_reducible rfl)
                        refine wpTxH_take rfl (by kernel_rfl) (v := ?_) ?_ ?_; rotate_left; · (intro w hS; obtain ⟨s0, s1, s2, s3, s4, _⟩ := hS.cells; go_simp; with_reducible rfl)
                        refine wpTxH_take rfl (by kernel_rfl) (v := ?_) ?_ ?_; rotate_left; · (intro w hS; obtain ⟨s0, s1, s2, s3, s4, _⟩ := hS.cells; go_simp; with_reducible rfl)
                        refine wpTxH_take rfl (by kernel_rfl) (v := ?_) ?_ ?_; rotate_left; · (intro w hS; obtain ⟨s0, s1, s2, s3, s4, _⟩ := hS.cells; go_simp; with_reducible rfl)
                        refine wpTxH_take rfl (by kernel_rfl) (v := ?_) ?_ ?_; rotate_left; · (intro w hS; obtain ⟨s0, s1, s2, s3, s4, _⟩ := hS.cells; go_simp; with_reducible rfl)
                        refine wpTxH_take rfl (by kernel_rfl) (v := ?_) ?_ ?_; rotate_left; · (intro w hS; obtain ⟨s0, s1, s2, s3, s4, _⟩ := hS.cells; go_simp; with_reducible rfl)
                        refine wpTxH_step rfl (fun K hK => ?_)
                        go_simp
                        refine (otrim_l p.media p.media HQ4.out _ (le_1t _ HX.out.2.2.2.2.2.2.2.2.2)).mono ?_
                        rintro e w5 ⟨rfl, hb7⟩
                        have hP5 := HP2.out.below hb7
                        refine hK _ _ hP5 ?_
                        clear hK K
                        have hb8 := HBX.out.trans (hb7.mono HBX.out.size)
                        have hO5 := bld_later HO4.out hb7
                        have HBX := Lib.hid hb8
                        have HO4 := Lib.hid hO5
                        have HP2 := Lib.hid hP5
                        clear hb7 hP5 hb8 hO5
                        refine wpTxH_take rfl (by kernel_rfl) (v := ?_) ?_ ?_; rotate_left; · (intro w hS; obtain ⟨s0, s1, s2, s3, s4, _⟩ := hS.cells; go_simp; with_reducible rfl)
                        refine wpTxH_take rfl (by kernel_rfl) (v := ?_) ?_ ?_; rotate_left; · (intro w hS; obtain ⟨s0, s1, s2, s3, s4, _⟩ := hS.cells; go_simp; with_reducible rfl)
                        refine wpTxH_take rfl (by kernel_rfl) (v := ?_) ?_ ?_; rotate_left; · (intro w hS; obtain ⟨s0, s1, s2, s3, s4, _⟩ := hS.cells; go_simp; with_reducible rfl)
                        refine wpTxH_take rfl (by kernel_rfl) (v := ?_) ?_ ?_; rotate_left; · (intro w hS; obtain ⟨s0, s1, s2, s3, s4, _⟩ := hS.cells; go_simp; with_reducible rfl)
                        refine wpTxH_take rfl (by kernel_rfl) (v := ?_) ?_ ?_; rotate_left; · (intro w hS; obtain ⟨s0, s1, s2, s3, s4, _⟩ := hS.cells; go_simp; with_reducible rfl)
                        refine wpTxH_take rfl (by kernel_rfl) (v := ?_) ?_ ?_; rotate_left; · (intro w hS; obtain ⟨s0, s1, s2, s3, s4, _⟩ := hS.cells; go_simp; with_reducible rfl)
                        refine wpTxH_take rfl (by kernel_rfl) (v := ?_) ?_ ?_; rotate_left; · (intro w hS; obtain ⟨s0, s1, s2, s3, s4, _⟩ := hS.cells; go_simp; with_reducible rfl)
                        refine wpTxH_take rfl (by kernel_rfl) (v := ?_) ?_ ?_; rotate_left; · (intro w hS; obtain ⟨s0, s1, s2, s3, s4, _⟩ := hS.cells; go_simp; with_reducible rfl)
                        refine wpTxH_take rfl (by kernel_rfl) (v := ?_) ?_ ?_; rotate_left; · (intro w hS; obtain ⟨s0, s1, s2, s3, s4, _⟩ := hS.cells; go_simp; with_reducible rfl)
                        refine wpTxH_take rfl (by kernel_rfl) (v := ?_) ?_ ?_; rotate_left; · (intro w hS; obtain ⟨s0, s1, s2, s3, s4, _⟩ := hS.cells; go_simp; with_reducible rfl)
                        refine wpTxH_take rfl (by kernel_rfl) (v := ?_) ?_ ?_; rotate_left; · (intro w hS; obtain ⟨s0, s1, s2, s3, s4, _⟩ := hS.cells; go_simp; with_reducible rfl)
                        refine wpTxH_take rfl (by kernel_rfl) (v := ?_) ?_ ?_; rotate_left; · (intro w hS; obtain ⟨s0, s1, s2, s3, s4, _⟩ := hS.cells; go_simp; with_reducible rfl)
                        refine wpTxH_nil ?_
                        go_simp
                        obtain ⟨ln, hD1⟩ : ∃ D1, cdB ++ fdB ++ qtL p.name = D1 := ⟨_, rfl⟩
                        have g2 := cat_cd _ ln hD1
                        have hll : lineL p = ln := by rw [line_not p hh, hD1]
                        have n1 := qtL_len p.name
                        have n3 := d1_len _ ln hD1
                        have n5 := HX.out.2.2.2.2.2.2.2.1
                        have z2 := nof 37 (qtL p.name).length (by decide) (by omega)
                        have hln8 : ln.length ≤ 8388608 := by omega
                        clear n1 n3 n5 hD1
                        obtain ⟨hd, hhd⟩ : ∃ hd, t ++ [13, 10] = hd := ⟨_, rfl⟩
                        obtain ⟨lc, hlc⟩ : ∃ lc, ln ++ [13, 10] = lc := ⟨_, rfl⟩
                        obtain ⟨b1, hb1⟩ : ∃ b1, 13 :: 10 :: p.body = b1 := ⟨_, rfl⟩
                        obtain ⟨b2, hb2⟩ : ∃ b2, b1 ++ [13, 10] = b2 := ⟨_, rfl⟩
                        have g5 := cat_nl ln lc hlc
                        have g6 := cat_nl t hd hhd
                        have g7 := cat_ln p.body b1 hb1
                        have g8 := cat_nl b1 b2 hb2
                        have htl : t.length ≤ 100 := by rw [← HBT.out.2.2.2.2]; simp only [List.length_cons]; omega
                        have hlens := lens1 A0 t hd ln lc p.body b1 b2 HAB.out htl hhd hlc hln8 HX.out.2.2.2.2.2.2.1 hb1 hb2
                        have z5 := nof ln.length 2 (Nat.le_trans hlens.2.2.2.2.2.2.1 (by decide)) (by decide)
                        have z6 := nof t.length 2 (Nat.le_trans htl (by decide)) (by decide)
                        have z7 := nof 2 p.body.length (by decide) (Nat.le_trans HX.out.2.2.2.2.2.2.1 (by decide))
                        have z8 := nof b1.length 2 hlens.2.2.2.2.2.1 (by decide)
                        have HLEN := Lib.hid hlens
                        have hlo := line_ok p HQ.out
                        rw [hll] at hlo
                        have HLO := Lib.hid hlo
                        clear hlo hlens
                        by_cases hmd : p.media = []
                        · have HFIN := Lib.hid (fin1 B t hd ln lc b1 b2 p HBT.out.2.2.1 hhd hll hlc (med_not p hmd) hb1 hb2 A0)
                          have hmz : p.media.length ≤ 8192 := by rw [hmd]; simp
                          clear hhd hlc hb1 hb2 hll htl hln8
                          obtain ⟨c0, c1, c2, c3, c4, hl5⟩ := HP2.out.cells
                          have HRW := Lib.hid (rowS_one w5 ln)
                          have hbq := (Below.refl w5.heap.size w5).alloc (Nat.le_refl _) (.cells #[.string ⟨ln.toArray⟩] 9)
                          have hO := bld_later HO4.out hbq
                          have hP := HP2.out.below hbq
                          have hB := HBX.out.alloc HBX.out.size (.cells #[.string ⟨ln.toArray⟩] 9)
                          have HO4 := Lib.hid hO
                          have HP2 := Lib.hid hP
                          have HBX := Lib.hid hB
                          clear hO hP hB hbq
                          go_wp2_with fail
                          refine (writeString_l _ _ _ hd _ HO4.out (len_ok _ _ HLEN.out.2.2.2.2.2.2.2 HLEN.out.1) HBX.out.size).mono ?_
                          rintro e w6 ⟨nz, rfl, hO, hbq, hkq⟩
                          have hP := HP2.out.keeps hkq (by decide) (by decide)
                          have hB := HBX.out.trans hbq
                          have hR := HRW.out.keeps hkq
                          have HRW := Lib.hid hR
                          clear hR
                          have HO4 := Lib.hid hO
                          have HP2 := Lib.hid hP
                          have HBX := Lib.hid hB
                          clear hO hP hB hbq hkq
                          clear c0 c1 c2 c3 c4 hl5
                          obtain ⟨c0, c1, c2, c3, c4, hl5⟩ := HP2.out.cells
                          have q0 := HRW.out.cell 0 ln rfl
                          go_wp2
                          refine wp_loop_rounds 4 ?_
                          rw [rounds_succ]
                          by_cases hv : (valL p).length ≤ 8192
                          · have HOK := Lib.hid (okP_yes p HQ.out hv hmz)
                            have hl0 := HLO.out
                            rw [if_pos hv] at hl0
                            have HL0 := Lib.hid hl0
                            clear hl0 hv
                            go_wp2_with fail
                            refine (pl_0 ln _ HLEN.out.2.2.2.2.2.2.1 (HA2.out.2.1.below HBX.out) HL0.out).mono ?_
                            rintro e w7 ⟨fa, fb, fx, rfl, hbq⟩
                            have hO := bld_later HO4.out hbq
                            have hP := HP2.out.below hbq
                            have hB := HBX.out.trans (hbq.mono HBX.out.size)
                            have hR := HRW.out.below hbq
                            have HRW := Lib.hid hR
                            have HO4 := Lib.hid hO
                            have HP2 := Lib.hid hP
                            have HBX := Lib.hid hB
                            clear hO hP hB hbq hR
                            have hbq := (Below.refl w7.heap.size w7).alloc (Nat.le_refl _) (.cells #[.string fa, .string fb] 103)
                            have hO := bld_later HO4.out hbq
                            have hP := HP2.out.below hbq
                            have hB := HBX.out.alloc HBX.out.size (.cells #[.string fa, .string fb] 103)
                            have hR := HRW.out.below hbq
                            have HRW := Lib.hid hR
                            have HO4 := Lib.hid hO
                            have HP2 := Lib.hid hP
                            have HBX := Lib.hid hB
                            clear hO hP hB hbq hR
                            go_wp2_with fail
                            refine (writeString_l _ _ _ lc _ HO4.out (len_ok _ _ HLEN.out.2.1 HLEN.out.2.2.1) HBX.out.size).mono ?_
                            rintro e w8 ⟨nz, rfl, hO, hbq, hkq⟩
                            have hP := HP2.out.keeps hkq (by decide) (by decide)
                            have hB := HBX.out.trans hbq
                            have hR := HRW.out.keeps hkq
                            have HRW := Lib.hid hR
                            clear hR
                            have HO4 := Lib.hid hO
                            have HP2 := Lib.hid hP
                            have HBX := Lib.hid hB
                            clear hO hP hB hbq hkq
                            clear c0 c1 c2 c3 c4 hl5 q0
                            obtain ⟨c0, c1, c2, c3, c4, hl5⟩ := HP2.out.cells
                            go_wp2
                            rw [rounds_succ]
                            go_wp2_with fail
                            refine (writeString_l _ _ _ b2 _ HO4.out (len_ok _ _ HLEN.out.2.2.2.1 HLEN.out.2.2.2.2.1) HBX.out.size).mono ?_
                            rintro e w9 ⟨nz, rfl, hO, hbq, hkq⟩
                            have hP := HP2.out.keeps hkq (by decide) (by decide)
                            have hB := HBX.out.trans hbq
                            have HO4 := Lib.hid hO
                            have HP2 := Lib.hid hP
                            have HBX := Lib.hid hB
                            clear hO hP hB hbq hkq
                            go_wp2
                            have hwi := HX.out.2.2.2.2.2.1
                            go_roundw
                            case rel => (try rw [hwi]); clear hwi; exact ⟨i + 1, by go_num, hlt, take_all okP l i p HX.out.2.2.2.1 HX.out.2.2.2.2.1 HOK.out, by rw [HTK.out, HFIN.out]; exact HO4.out, HBX.out⟩
                            case measure => (try rw [hwi]); clear hwi; simp [intOf]; omega
                          · have hl0 := HLO.out
                            rw [if_neg hv] at hl0
                            have HL0 := Lib.hid hl0
                            have HBIG := Lib.hid (okP_big p HQ.out (by omega))
                            clear hl0 hv
                            have HR := Lib.hid (HBAD.out HBIG.out)
                            go_wp2_with fail
                            refine (pl_61 ln _ HLEN.out.2.2.2.2.2.2.1 (HA2.out.2.1.below HBX.out) HL0.out).mono ?_
                            rintro e wz ⟨fa, fb, fx, rfl, hbq⟩
                            have hB := (HBX.out.trans (hbq.mono HBX.out.size)).alloc (HBX.out.trans (hbq.mono HBX.out.size)).size (.cells #[.string fa, .string fb] 103)
                            have HBX := Lib.hid hB
                            clear hB hbq
                            go_wp2
                            go_ret2
                            unfold WrtPost
                            rw [HR.out]
                            exact ⟨rfl, HA2.out.2.2.trans (HBX.out.mono HA2.out.2.2.size)⟩
                        · obtain ⟨M, hM⟩ : ∃ M, ctB ++ p.media = M := ⟨_, rfl⟩
                          obtain ⟨mc, hmc⟩ : ∃ mc, M ++ [13, 10] = mc := ⟨_, rfl⟩
                          obtain ⟨i0, hi0, hz0, hz1, hz2⟩ := info_partsS infoStr
                          have g9 := cat_ct p.media M hM
                          have g10 := cat_nl M mc hmc
                          have hlens2 := lens2 A0 t hd ln lc p.media M mc HAB.out htl hhd hlc hln8 HX.out.2.2.2.2.2.2.2.2.2 hM hmc
                          have z9 := nof 14 p.media.length (by decide) (Nat.le_trans HX.out.2.2.2.2.2.2.2.2.2 (by decide))
                          have z10 := nof M.length 2 (Nat.le_trans hlens2.1 (by decide)) (by decide)
                          have HLEN2 := Lib.hid hlens2
                          have hmo := med_ok p HQ.out
                          rw [hM] at hmo
                          have HMO := Lib.hid hmo
                          have hme : p.media.isEmpty = false := by
                            cases hc : p.media with
                            | nil => exact absurd hc hmd
                            | cons => rfl
                          have HFIN := Lib.hid (fin2 B t hd ln lc M mc b1 b2 p HBT.out.2.2.1 hhd hll hlc hM hmc (med_yes p hmd) hb1 hb2 A0)
                          clear hhd hlc hb1 hb2 hll htl hln8 hM hmc hmo hlens2
                          have hown1 := ownsRow_one w5 w2.heap.size 9 (.string ⟨ln.toArray⟩) HBX.out.size
                          obtain ⟨c0, c1, c2, c3, c4, hl5⟩ := HP2.out.cells
                          have hbq := (Below.refl w5.heap.size w5).alloc (Nat.le_refl _) (.cells #[.string ⟨ln.toArray⟩] 9)
                          have hO := bld_later HO4.out hbq
                          have hP := HP2.out.below hbq
                          have hB := HBX.out.alloc HBX.out.size (.cells #[.string ⟨ln.toArray⟩] 9)
                          have hrow1 : (w5.alloc (.cells #[.string ⟨ln.toArray⟩] 9)).heap[w5.heap.size]? = some (.cells #[.string ⟨ln.toArray⟩] 9 (0, 0)) := heap_alloc_new w5 _
                          obtain ⟨X1, hX1⟩ : ∃ X, w5.alloc (.cells #[.string ⟨ln.toArray⟩] 9) = X := ⟨_, rfl⟩
                          rw [hX1] at hO hP hB hown1 hrow1
                          have HX1 := Lib.hid hX1
                          have HOWN := Lib.hid hown1
                          have HROW1 := Lib.hid hrow1
                          have HO4 := Lib.hid hO
                          have HP2 := Lib.hid hP
                          have HBX := Lib.hid hB
                          clear hO hP hB hbq hX1 hown1 hrow1
                          go_upto_region 17 with fail
                          rw [HX1.out]
                          clear c0 c1 c2 c3 c4 hl5
                          obtain ⟨c0, c1, c2, c3, c4, hl5⟩ := HP2.out.cells
                          go_wp2_with (at_builtin; refine wpList_append_own _ rfl (.tmp 95) (.tmp 99) 89 rfl w2.heap.size 9 i0 (.string ByteArray.empty) 1 16 Tryz.underlying89 hi0 hz0 hz1 hz2 rfl (by decide) _ _ _ rfl (HOWN.out.alloc _) ⟨X1.heap.size, 0, none⟩ 1 1 [.string ⟨M.toArray⟩] rfl rfl (cells_new _ _ _) (by simp [Value.oneCell']) (by decide) (by decide) ?d0 ?_)
                          case d0 => exact Nat.le_succ_of_le HBX.out.size
                          intro v1 w7 hI1 hg7 _
                          have hB := (HBX.out.alloc HBX.out.size (.cells #[.string ⟨M.toArray⟩] 9)).grown hg7 (by simp; exact Nat.le_trans HBX.out.size (Nat.le_succ _)) (fun j hj => (HOWN.out.lt j hj).1)
                          have hal := (Below.refl X1.heap.size X1).alloc (Nat.le_refl _) (.cells #[.string ⟨M.toArray⟩] 9)
                          have hrow2 : (X1.alloc (.cells #[.string ⟨M.toArray⟩] 9)).heap[w5.heap.size]? = some (.cells #[.string ⟨ln.toArray⟩] 9 (0, 0)) := by
                            rw [hal.block _ (Array.getElem?_eq_some_iff.1 HROW1.out).1]; exact HROW1.out
                          have hO := bld_grown (bld_later HO4.out hal) hrow2 hg7 (by decide) (by decide)
                          have hP := (HP2.out.below hal).grown hrow2 hg7 (by decide)
                          obtain ⟨gR, cp, rfl, hR⟩ := rowS_own (l := [ln, M]) hI1 (by simp)
                          have HRW := Lib.hid hR
                          have HO4 := Lib.hid hO
                          have HP2 := Lib.hid hP
                          have HBX := Lib.hid hB
                          clear hO hP hB hal hrow2 hI1 hg7 hR
                          go_wp2_with fail
                          refine (writeString_l _ _ _ hd _ HO4.out (len_ok _ _ HLEN.out.2.2.2.2.2.2.2 HLEN.out.1) HBX.out.size).mono ?_
                          rintro e w6 ⟨nz, rfl, hO, hbq, hkq⟩
                          have hP := HP2.out.keeps hkq (by decide) (by decide)
                          have hB := HBX.out.trans hbq
                          have hR := HRW.out.keeps hkq
                          have HRW := Lib.hid hR
                          clear hR
                          have HO4 := Lib.hid hO
                          have HP2 := Lib.hid hP
                          have HBX := Lib.hid hB
                          clear hO hP hB hbq hkq
                          clear c0 c1 c2 c3 c4 hl5
                          obtain ⟨c0, c1, c2, c3, c4, hl5⟩ := HP2.out.cells
                          have q0 := HRW.out.cell 0 ln rfl
                          go_wp2
                          refine wp_loop_rounds 4 ?_
                          rw [rounds_succ]
                          by_cases hv : (valL p).length ≤ 8192
                          · have hl0 := HLO.out
                            rw [if_pos hv] at hl0
                            have HL0 := Lib.hid hl0
                            have HV := Lib.hid hv
                            clear hl0 hv
                            go_wp2_with fail
                            refine (pl_0 ln _ HLEN.out.2.2.2.2.2.2.1 (HA2.out.2.1.below HBX.out) HL0.out).mono ?_
                            rintro e w7 ⟨fa, fb, fx, rfl, hbq⟩
                            have hO := bld_later HO4.out hbq
                            have hP := HP2.out.below hbq
                            have hB := HBX.out.trans (hbq.mono HBX.out.size)
                            have hR := HRW.out.below hbq
                            have HRW := Lib.hid hR
                            have HO4 := Lib.hid hO
                            have HP2 := Lib.hid hP
                            have HBX := Lib.hid hB
                            clear hO hP hB hbq hR
                            have hbq := (Below.refl w7.heap.size w7).alloc (Nat.le_refl _) (.cells #[.string fa, .string fb] 103)
                            have hO := bld_later HO4.out hbq
                            have hP := HP2.out.below hbq
                            have hB := HBX.out.alloc HBX.out.size (.cells #[.string fa, .string fb] 103)
                            have hR := HRW.out.below hbq
                            have HRW := Lib.hid hR
                            have HO4 := Lib.hid hO
                            have HP2 := Lib.hid hP
                            have HBX := Lib.hid hB
                            clear hO hP hB hbq hR
                            go_wp2_with fail
                            refine (writeString_l _ _ _ lc _ HO4.out (len_ok _ _ HLEN.out.2.1 HLEN.out.2.2.1) HBX.out.size).mono ?_
                            rintro e w8 ⟨nz, rfl, hO, hbq, hkq⟩
                            have hP := HP2.out.keeps hkq (by decide) (by decide)
                            have hB := HBX.out.trans hbq
                            have hR := HRW.out.keeps hkq
                            have HRW := Lib.hid hR
                            clear hR
                            have HO4 := Lib.hid hO
                            have HP2 := Lib.hid hP
                            have HBX := Lib.hid hB
                            clear hO hP hB hbq hkq
                            clear c0 c1 c2 c3 c4 hl5 q0
                            obtain ⟨c0, c1, c2, c3, c4, hl5⟩ := HP2.out.cells
                            have q1 := HRW.out.cell 1 M rfl
                            go_wp2
                            rw [rounds_succ]
                            by_cases hv2 : p.media.length ≤ 8192
                            · have hl1 := HMO.out
                              rw [if_pos hv2] at hl1
                              have HL1 := Lib.hid hl1
                              have HOK := Lib.hid (okP_yes p HQ.out HV.out hv2)
                              clear hl1 hv2
                              go_wp2_with fail
                              refine (pl_0 M _ HLEN2.out.1 (HA2.out.2.1.below HBX.out) HL1.out).mono ?_
                              rintro e w9 ⟨fa, fb, fx, rfl, hbq⟩
                              have hO := bld_later HO4.out hbq
                              have hP := HP2.out.below hbq
                              have hB := HBX.out.trans (hbq.mono HBX.out.size)
                              have hR := HRW.out.below hbq
                              have HRW := Lib.hid hR
                              have HO4 := Lib.hid hO
                              have HP2 := Lib.hid hP
                              have HBX := Lib.hid hB
                              clear hO hP hB hbq hR
                              have hbq := (Below.refl w9.heap.size w9).alloc (Nat.le_refl _) (.cells #[.string fa, .string fb] 103)
                              have hO := bld_later HO4.out hbq
                              have hP := HP2.out.below hbq
                              have hB := HBX.out.alloc HBX.out.size (.cells #[.string fa, .string fb] 103)
                              have hR := HRW.out.below hbq
                              have HRW := Lib.hid hR
                              have HO4 := Lib.hid hO
                              have HP2 := Lib.hid hP
                              have HBX := Lib.hid hB
                              clear hO hP hB hbq hR
                              go_wp2_with fail
                              refine (writeString_l _ _ _ mc _ HO4.out (len_ok _ _ HLEN.out.2.2.2.1 HLEN2.out.2.1) HBX.out.size).mono ?_
                              rintro e wa ⟨nz, rfl, hO, hbq, hkq⟩
                              have hP := HP2.out.keeps hkq (by decide) (by decide)
                              have hB := HBX.out.trans hbq
                              have hR := HRW.out.keeps hkq
                              have HRW := Lib.hid hR
                              clear hR
                              have HO4 := Lib.hid hO
                              have HP2 := Lib.hid hP
                              have HBX := Lib.hid hB
                              clear hO hP hB hbq hkq
                              clear c0 c1 c2 c3 c4 hl5 q1
                              obtain ⟨c0, c1, c2, c3, c4, hl5⟩ := HP2.out.cells
                              go_wp2
                              rw [rounds_succ]
                              go_wp2_with fail
                              refine (writeString_l _ _ _ b2 _ HO4.out (len_ok _ _ HLEN2.out.2.2 HLEN.out.2.2.2.2.1) HBX.out.size).mono ?_
                              rintro e wb ⟨nz, rfl, hO, hbq, hkq⟩
                              have hP := HP2.out.keeps hkq (by decide) (by decide)
                              have hB := HBX.out.trans hbq
                              have HO4 := Lib.hid hO
                              have HP2 := Lib.hid hP
                              have HBX := Lib.hid hB
                              clear hO hP hB hbq hkq
                              go_wp2
                              have hwi := HX.out.2.2.2.2.2.1
                              go_roundw
                              case rel => (try rw [hwi]); clear hwi; exact ⟨i + 1, by go_num, hlt, take_all okP l i p HX.out.2.2.2.1 HX.out.2.2.2.2.1 HOK.out, by rw [HTK.out, HFIN.out]; exact HO4.out, HBX.out⟩
                              case measure => (try rw [hwi]); clear hwi; simp [intOf]; omega
                            · have hl1 := HMO.out
                              rw [if_neg hv2] at hl1
                              have HL1 := Lib.hid hl1
                              have HBIG := Lib.hid (okP_med p HQ.out (by omega))
                              clear hl1 hv2
                              have HR := Lib.hid (HBAD.out HBIG.out)
                              go_wp2_with fail
                              refine (pl_61 M _ HLEN2.out.1 (HA2.out.2.1.below HBX.out) HL1.out).mono ?_
                              rintro e wz ⟨fa, fb, fx, rfl, hbq⟩
                              have hB := (HBX.out.trans (hbq.mono HBX.out.size)).alloc (HBX.out.trans (hbq.mono HBX.out.size)).size (.cells #[.string fa, .string fb] 103)
                              have HBX := Lib.hid hB
                              clear hB hbq
                              go_wp2
                              go_ret2
                              unfold WrtPost
                              rw [HR.out]
                              exact ⟨rfl, HA2.out.2.2.trans (HBX.out.mono HA2.out.2.2.size)⟩
                          · have hl0 := HLO.out
                            rw [if_neg hv] at hl0
                            have HL0 := Lib.hid hl0
                            have HBIG := Lib.hid (okP_big p HQ.out (by omega))
                            clear hl0 hv
                            have HR := Lib.hid (HBAD.out HBIG.out)
                            go_wp2_with fail
                            refine (pl_61 ln _ HLEN.out.2.2.2.2.2.2.1 (HA2.out.2.1.below HBX.out) HL0.out).mono ?_
                            rintro e wz ⟨fa, fb, fx, rfl, hbq⟩
                            have hB := (HBX.out.trans (hbq.mono HBX.out.size)).alloc (HBX.out.trans (hbq.mono HBX.out.size)).size (.cells #[.string fa, .string fb] 103)
                            have HBX := Lib.hid hB
                            clear hB hbq
                            go_wp2
                            go_ret2
                            unfold WrtPost
                            rw [HR.out]
                            exact ⟨rfl, HA2.out.2.2.trans (HBX.out.mono HA2.out.2.2.size)⟩
                      · have HR := Lib.hid (HBAD.out (okP_q _ (okQ_has p hh hf)))
                        have hfe : p.file.isEmpty = false := by
                          cases hc : p.file with
                          | nil => exact absurd hc hf
                          | cons => rfl
                        go_wp2
                        refine wp_region_textH (P5 34 wr.heap.size p) [(0, true), (1, true), (2, true), (3, true), (4, true), (5, true), (6, true), (7, true), (8, true), (9, false), (10, true), (11, true), (12, true), (13, true), (14, true), (16, true), (17, true), (15, false), (18, true), (19, true), (20, true), (21, true), (22, true), (23, true), (24, true), (25, true), (26, true), (27, true), (28, true), (29, true)] (by kernel_rfl) (by kernel_rfl) (by kernel_rfl) (by kernel_rfl) HP2.out ?_
                        refine wpTxH_take rfl (by kernel_rfl) (v := ?_) ?_ ?_; rotate_left; · (intro w hS; obtain ⟨s0, s1, s2, s3, s4, _⟩ := hS.cells; go_simp; with_reducible rfl)
                        refine wpTxH_take rfl (by kernel_rfl) (v := ?_) ?_ ?_; rotate_left; · (intro w hS; obtain ⟨s0, s1, s2, s3, s4, _⟩ := hS.cells; go_simp; with_reducible rfl)
                        refine wpTxH_take rfl (by kernel_rfl) (v := ?_) ?_ ?_; rotate_left; · (intro w hS; obtain ⟨s0, s1, s2, s3, s4, _⟩ := hS.cells; go_simp; with_reducible rfl)
                        refine wpTxH_take rfl (by kernel_rfl) (v := ?_) ?_ ?_; rotate_left; · (intro w hS; obtain ⟨s0, s1, s2, s3, s4, _⟩ := hS.cells; go_simp; with_reducible rfl)
                        refine wpTxH_take rfl (by kernel_rfl) (v := ?_) ?_ ?_; rotate_left; · (intro w hS; obtain ⟨s0, s1, s2, s3, s4, _⟩ := hS.cells; go_simp; with_reducible rfl)
                        refine wpTxH_take rfl (by kernel_rfl) (v := ?_) ?_ ?_; rotate_left; · (intro w hS; obtain ⟨s0, s1, s2, s3, s4, _⟩ := hS.cells; go_simp; with_reducible rfl)
                        refine wpTxH_take rfl (by kernel_rfl) (v := ?_) ?_ ?_; rotate_left; · (intro w hS; obtain ⟨s0, s1, s2, s3, s4, _⟩ := hS.cells; go_simp; with_reducible rfl)
                        refine wpTxH_take rfl (by kernel_rfl) (v := ?_) ?_ ?_; rotate_left; · (intro w hS; obtain ⟨s0, s1, s2, s3, s4, _⟩ := hS.cells; go_simp; with_reducible rfl)
                        refine wpTxH_take rfl (by kernel_rfl) (v := ?_) ?_ ?_; rotate_left; · (intro w hS; obtain ⟨s0, s1, s2, s3, s4, _⟩ := hS.cells; go_simp; with_reducible rfl)
                        refine wpTxH_step rfl (fun K hK => ?_)
                        go_simp
                        refine (oisfield_l p.media true HQ3.out _ (le_1t _ HX.out.2.2.2.2.2.2.2.2.2)).mono ?_
                        rintro e wq ⟨rfl, hwq⟩
                        rw [hwq]
                        clear hwq wq
                        refine hK _ _ HP2.out ?_
                        clear hK K
                        refine wpTxH_take rfl (by kernel_rfl) (v := ?_) ?_ ?_; rotate_left; · (intro w hS; obtain ⟨s0, s1, s2, s3, s4, _⟩ := hS.cells; go_simp; with_reducible rfl)
                        refine wpTxH_take rfl (by kernel_rfl) (v := ?_) ?_ ?_; rotate_left; · (intro w hS; obtain ⟨s0, s1, s2, s3, s4, _⟩ := hS.cells; go_simp; with_reducible rfl)
                        refine wpTxH_take rfl (by kernel_rfl) (v := ?_) ?_ ?_; rotate_left; · (intro w hS; obtain ⟨s0, s1, s2, s3, s4, _⟩ := hS.cells; go_simp; with_reducible rfl)
                        refine wpTxH_take rfl (by kernel_rfl) (v := ?_) ?_ ?_; rotate_left; · (intro w hS; obtain ⟨s0, s1, s2, s3, s4, _⟩ := hS.cells; go_simp; with_reducible rfl)
                        refine wpTxH_take rfl (by kernel_rfl) (v := ?_) ?_ ?_; rotate_left; · (intro w hS; obtain ⟨s0, s1, s2, s3, s4, _⟩ := hS.cells; go_simp; with_reducible rfl)
                        refine wpTxH_take rfl (by kernel_rfl) (v := ?_) ?_ ?_; rotate_left; · (intro w hS; obtain ⟨s0, s1, s2, s3, s4, _⟩ := hS.cells; go_simp; with_reducible rfl)
                        refine wpTxH_take rfl (by kernel_rfl) (v := ?_) ?_ ?_; rotate_left; · (intro w hS; obtain ⟨s0, s1, s2, s3, s4, _⟩ := hS.cells; go_simp; with_reducible rfl)
                        refine wpTxH_step rfl (fun K hK => ?_)
                        go_simp
                        refine (otrim_l p.media p.media HQ4.out _ (le_1t _ HX.out.2.2.2.2.2.2.2.2.2)).mono ?_
                        rintro e w5 ⟨rfl, hb7⟩
                        have hP5 := HP2.out.below hb7
                        refine hK _ _ hP5 ?_
                        clear hK K
                        have hb8 := HBX.out.trans (hb7.mono HBX.out.size)
                        have hO5 := bld_later HO4.out hb7
                        have HBX := Lib.hid hb8
                        have HO4 := Lib.hid hO5
                        have HP2 := Lib.hid hP5
                        clear hb7 hP5 hb8 hO5
                        refine wpTxH_take rfl (by kernel_rfl) (v := ?_) ?_ ?_; rotate_left; · (intro w hS; obtain ⟨s0, s1, s2, s3, s4, _⟩ := hS.cells; go_simp; with_reducible rfl)
                        refine wpTxH_take rfl (by kernel_rfl) (v := ?_) ?_ ?_; rotate_left; · (intro w hS; obtain ⟨s0, s1, s2, s3, s4, _⟩ := hS.cells; go_simp; with_reducible rfl)
                        refine wpTxH_take rfl (by kernel_rfl) (v := ?_) ?_ ?_; rotate_left; · (intro w hS; obtain ⟨s0, s1, s2, s3, s4, _⟩ := hS.cells; go_simp; with_reducible rfl)
                        refine wpTxH_take rfl (by kernel_rfl) (v := ?_) ?_ ?_; rotate_left; · (intro w hS; obtain ⟨s0, s1, s2, s3, s4, _⟩ := hS.cells; go_simp; with_reducible rfl)
                        refine wpTxH_take rfl (by kernel_rfl) (v := ?_) ?_ ?_; rotate_left; · (intro w hS; obtain ⟨s0, s1, s2, s3, s4, _⟩ := hS.cells; go_simp; with_reducible rfl)
                        refine wpTxH_take rfl (by kernel_rfl) (v := ?_) ?_ ?_; rotate_left; · (intro w hS; obtain ⟨s0, s1, s2, s3, s4, _⟩ := hS.cells; go_simp; with_reducible rfl)
                        refine wpTxH_take rfl (by kernel_rfl) (v := ?_) ?_ ?_; rotate_left; · (intro w hS; obtain ⟨s0, s1, s2, s3, s4, _⟩ := hS.cells; go_simp; with_reducible rfl)
                        refine wpTxH_take rfl (by kernel_rfl) (v := ?_) ?_ ?_; rotate_left; · (intro w hS; obtain ⟨s0, s1, s2, s3, s4, _⟩ := hS.cells; go_simp; with_reducible rfl)
                        refine wpTxH_take rfl (by kernel_rfl) (v := ?_) ?_ ?_; rotate_left; · (intro w hS; obtain ⟨s0, s1, s2, s3, s4, _⟩ := hS.cells; go_simp; with_reducible rfl)
                        refine wpTxH_take rfl (by kernel_rfl) (v := ?_) ?_ ?_; rotate_left; · (intro w hS; obtain ⟨s0, s1, s2, s3, s4, _⟩ := hS.cells; go_simp; with_reducible rfl)
                        refine wpTxH_take rfl (by kernel_rfl) (v := ?_) ?_ ?_; rotate_left; · (intro w hS; obtain ⟨s0, s1, s2, s3, s4, _⟩ := hS.cells; go_simp; with_reducible rfl)
                        refine wpTxH_take rfl (by kernel_rfl) (v := ?_) ?_ ?_; rotate_left; · (intro w hS; obtain ⟨s0, s1, s2, s3, s4, _⟩ := hS.cells; go_simp; with_reducible rfl)
                        refine wpTxH_nil ?_
                        go_simp
                        go_wp2
                        go_ret2
                        unfold WrtPost
                        rw [HR.out]
                        exact ⟨rfl, HA2.out.2.2.trans (HBX.out.mono HA2.out.2.2.size)⟩
                  · obtain ⟨tm, htm⟩ : ∃ tm, trimL p.media = tm := ⟨_, rfl⟩
                    have HQ4 := Lib.hid htm
                    have HR := Lib.hid (HBAD.out (okP_q _ (okQ_trim _ hq4)))
                    rw [htm] at hq4
                    have hne : (tm == p.media) = false := beq_false_of_ne hq4
                    clear htm hq4
                    go_wp2
                    refine wp_region_textH (P5 34 wr.heap.size p) [(0, true), (1, true), (2, true), (3, true), (4, true), (5, true), (6, true), (7, true), (8, true), (9, false), (10, true), (11, true), (12, true), (13, true), (14, true), (16, true), (17, true), (15, false), (18, true), (19, true), (20, true), (21, true), (22, true), (23, true), (24, true), (25, true), (26, true), (27, true), (28, true), (29, true)] (by kernel_rfl) (by kernel_rfl) (by kernel_rfl) (by kernel_rfl) HP2.out ?_
                    refine wpTxH_take rfl (by kernel_rfl) (v := ?_) ?_ ?_; rotate_left; · (intro w hS; obtain ⟨s0, s1, s2, s3, s4, _⟩ := hS.cells; go_simp; with_reducible rfl)
                    refine wpTxH_take rfl (by kernel_rfl) (v := ?_) ?_ ?_; rotate_left; · (intro w hS; obtain ⟨s0, s1, s2, s3, s4, _⟩ := hS.cells; go_simp; with_reducible rfl)
                    refine wpTxH_take rfl (by kernel_rfl) (v := ?_) ?_ ?_; rotate_left; · (intro w hS; obtain ⟨s0, s1, s2, s3, s4, _⟩ := hS.cells; go_simp; with_reducible rfl)
                    refine wpTxH_take rfl (by kernel_rfl) (v := ?_) ?_ ?_; rotate_left; · (intro w hS; obtain ⟨s0, s1, s2, s3, s4, _⟩ := hS.cells; go_simp; with_reducible rfl)
                    refine wpTxH_take rfl (by kernel_rfl) (v := ?_) ?_ ?_; rotate_left; · (intro w hS; obtain ⟨s0, s1, s2, s3, s4, _⟩ := hS.cells; go_simp; with_reducible rfl)
                    refine wpTxH_take rfl (by kernel_rfl) (v := ?_) ?_ ?_; rotate_left; · (intro w hS; obtain ⟨s0, s1, s2, s3, s4, _⟩ := hS.cells; go_simp; with_reducible rfl)
                    refine wpTxH_take rfl (by kernel_rfl) (v := ?_) ?_ ?_; rotate_left; · (intro w hS; obtain ⟨s0, s1, s2, s3, s4, _⟩ := hS.cells; go_simp; with_reducible rfl)
                    refine wpTxH_take rfl (by kernel_rfl) (v := ?_) ?_ ?_; rotate_left; · (intro w hS; obtain ⟨s0, s1, s2, s3, s4, _⟩ := hS.cells; go_simp; with_reducible rfl)
                    refine wpTxH_take rfl (by kernel_rfl) (v := ?_) ?_ ?_; rotate_left; · (intro w hS; obtain ⟨s0, s1, s2, s3, s4, _⟩ := hS.cells; go_simp; with_reducible rfl)
                    refine wpTxH_step rfl (fun K hK => ?_)
                    go_simp
                    refine (oisfield_l p.media true HQ3.out _ (le_1t _ HX.out.2.2.2.2.2.2.2.2.2)).mono ?_
                    rintro e wq ⟨rfl, hwq⟩
                    rw [hwq]
                    clear hwq wq
                    refine hK _ _ HP2.out ?_
                    clear hK K
                    refine wpTxH_take rfl (by kernel_rfl) (v := ?_) ?_ ?_; rotate_left; · (intro w hS; obtain ⟨s0, s1, s2, s3, s4, _⟩ := hS.cells; go_simp; with_reducible rfl)
                    refine wpTxH_take rfl (by kernel_rfl) (v := ?_) ?_ ?_; rotate_left; · (intro w hS; obtain ⟨s0, s1, s2, s3, s4, _⟩ := hS.cells; go_simp; with_reducible rfl)
                    refine wpTxH_take rfl (by kernel_rfl) (v := ?_) ?_ ?_; rotate_left; · (intro w hS; obtain ⟨s0, s1, s2, s3, s4, _⟩ := hS.cells; go_simp; with_reducible rfl)
                    refine wpTxH_take rfl (by kernel_rfl) (v := ?_) ?_ ?_; rotate_left; · (intro w hS; obtain ⟨s0, s1, s2, s3, s4, _⟩ := hS.cells; go_simp; with_reducible rfl)
                    refine wpTxH_take rfl (by kernel_rfl) (v := ?_) ?_ ?_; rotate_left; · (intro w hS; obtain ⟨s0, s1, s2, s3, s4, _⟩ := hS.cells; go_simp; with_reducible rfl)
                    refine wpTxH_take rfl (by kernel_rfl) (v := ?_) ?_ ?_; rotate_left; · (intro w hS; obtain ⟨s0, s1, s2, s3, s4, _⟩ := hS.cells; go_simp; with_reducible rfl)
                    refine wpTxH_take rfl (by kernel_rfl) (v := ?_) ?_ ?_; rotate_left; · (intro w hS; obtain ⟨s0, s1, s2, s3, s4, _⟩ := hS.cells; go_simp; with_reducible rfl)
                    refine wpTxH_step rfl (fun K hK => ?_)
                    go_simp
                    refine (otrim_l p.media tm HQ4.out _ (le_1t _ HX.out.2.2.2.2.2.2.2.2.2)).mono ?_
                    rintro e w5 ⟨rfl, hb7⟩
                    have hP5 := HP2.out.below hb7
                    refine hK _ _ hP5 ?_
                    clear hK K
                    have hb8 := HBX.out.trans (hb7.mono HBX.out.size)
                    have hO5 := bld_later HO4.out hb7
                    have HBX := Lib.hid hb8
                    have HO4 := Lib.hid hO5
                    have HP2 := Lib.hid hP5
                    clear hb7 hP5 hb8 hO5
                    refine wpTxH_take rfl (by kernel_rfl) (v := ?_) ?_ ?_; rotate_left; · (intro w hS; obtain ⟨s0, s1, s2, s3, s4, _⟩ := hS.cells; go_simp; with_reducible rfl)
                    refine wpTxH_take rfl (by kernel_rfl) (v := ?_) ?_ ?_; rotate_left; · (intro w hS; obtain ⟨s0, s1, s2, s3, s4, _⟩ := hS.cells; go_simp; with_reducible rfl)
                    refine wpTxH_take rfl (by kernel_rfl) (v := ?_) ?_ ?_; rotate_left; · (intro w hS; obtain ⟨s0, s1, s2, s3, s4, _⟩ := hS.cells; go_simp; with_reducible rfl)
                    refine wtxH_pass rfl (by kernel_rfl) ?_
                    refine wtxH_pass rfl (by kernel_rfl) ?_
                    refine wtxH_pass rfl (by kernel_rfl) ?_
                    refine wtxH_pass rfl (by kernel_rfl) ?_
                    refine wtxH_pass rfl (by kernel_rfl) ?_
                    refine wtxH_pass rfl (by kernel_rfl) ?_
                    refine wtxH_pass rfl (by kernel_rfl) ?_
                    refine wtxH_pass rfl (by kernel_rfl) ?_
                    refine wpTxH_take rfl (by kernel_rfl) (v := ?_) ?_ ?_; rotate_left; · (intro w hS; obtain ⟨s0, s1, s2, s3, s4, _⟩ := hS.cells; go_simp; with_reducible rfl)
                    refine wpTxH_nil ?_
                    go_simp
                    go_wp2
                    go_ret2
                    unfold WrtPost
                    rw [HR.out]
                    exact ⟨rfl, HA2.out.2.2.trans (HBX.out.mono HA2.out.2.2.size)⟩
          · obtain rfl : i = l.length := by omega
            have hd : decide (l.length < l.length) = false := decide_eq_false (Nat.lt_irrefl _)
            rw [List.take_length] at hok hO hab
            have HR := Lib.hid (wrt_ok B l HBT.out.1 HBT.out.2.1 HL0.out hok)
            obtain ⟨A, hA⟩ : ∃ A, l.flatMap (partB B) = A := ⟨_, rfl⟩
            rw [hA] at hO hab HR
            clear hok hA
            obtain ⟨A1, hA1⟩ : ∃ A1, A ++ [45, 45] = A1 := ⟨_, rfl⟩
            obtain ⟨A2, hA2⟩ : ∃ A2, A1 ++ s.data.toList = A2 := ⟨_, rfl⟩
            obtain ⟨A3, hA3⟩ : ∃ A3, A2 ++ [45, 45] = A3 := ⟨_, rfl⟩
            obtain ⟨A4, hA4⟩ : ∃ A4, A3 ++ [13, 10] = A4 := ⟨_, rfl⟩
            have f1 := cat_dd A A1 hA1
            have f2 := cat_as A1 s A2 hA2
            have f3 := cat_dd A2 A3 hA3
            have f4 := cat_nl A3 A4 hA4
            have l1 : A1.length = A.length + 2 := by rw [← hA1]; simp
            have l2 : A2.length = A1.length + s.size := by rw [← hA2, List.length_append, size_list]
            have l3 : A3.length = A2.length + 2 := by rw [← hA3]; simp
            have y1 := nof A.length 2 (by omega) (by decide)
            have y2 := nof A1.length s.size (by omega) (by omega)
            have y3 := nof A2.length 2 (by omega) (by decide)
            have y4 := nof A3.length 2 (by omega) (by decide)
            have hfin : A4 = A ++ endL B := by
              rw [← hA4, ← hA3, ← hA2, ← hA1, HBT.out.2.2.2.1]
              unfold endL
              simp
            have HF := Lib.hid hfin
            have hbs := hb.size
            clear hA1 hA2 hA3 hA4 l1 l2 l3 hfin hab
            go_wp2_with (go_at_call 52; refine (Tryz.Builder_String_any _ _ A _ hO hbs).mono ?_)
            rintro e w4 ⟨rfl, hb4⟩
            go_wp2
            go_ret2
            unfold WrtPost
            rw [HR.out, ← HF.out]
            exact ⟨rfl, HA2.out.2.2.trans ((hb.trans hb4).mono HA2.out.2.2.size)⟩
end Go.Proofs.YtlfdeenekjklgaaGreatDoor
