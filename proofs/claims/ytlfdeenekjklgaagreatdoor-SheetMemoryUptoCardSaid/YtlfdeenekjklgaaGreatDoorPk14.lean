/- Rdp, Rdl: texts of the seat, one behind the other (a claim holds at most sixty). Conditions: each theorem names its own. -/
import Derived.Test.YtlfdeenekjklgaaGreatDoorPk11
import Derived.Test.YtlfdeenekjklgaaGreatDoorPa13
import Derived.Test.YtlfdeenekjklgaaGreatDoorPk00
import Derived.Sort.QuietIn
import Derived.LoopIn
import Derived.RangeFuncLeaves
import Derived.Shelf.RegionOpen
import Derived.Shelf.Abstract
namespace Go.Proofs.YtlfdeenekjklgaaGreatDoor
open Go.RowKit
set_option linter.unusedSimpArgs false
set_option linter.unusedVariables false
set_option maxRecDepth 1000000
abbrev prtC (p : Prt) : Array Value := #[.string ⟨p.name.toArray⟩, .string ⟨p.file.toArray⟩, .string ⟨p.media.toArray⟩, .string ⟨p.body.toArray⟩, .bool p.has]
def PrtIs (W : World) (b : Nat) (p : Prt) : Prop := BlkIs W b (prtC p) 34
theorem PrtIs.later {W W' : World} {b : Nat} {p : Prt} (h : PrtIs W b p) (hb : Below W.heap.size W W') : PrtIs W' b p := BlkIs.later h hb
theorem dspL_take (l : List Par) (p : Prt) (i : Nat) (x : Par) (h : l[i]? = some x) : dspL (l.take (i + 1)) p = dspS (dspL (l.take i) p) x := by
  unfold dspL
  rw [List.take_add_one, h, Option.toList_some, List.foldl_append]; rfl
theorem dspS_name (st : Prt × Bool) (x : Par) (h : x.1 = nmL) : dspS st x = (⟨x.2.1, st.1.file, st.1.media, st.1.body, st.1.has⟩, true) := by unfold dspS; rw [if_pos h]
theorem dspS_file (st : Prt × Bool) (x : Par) (h : ¬ x.1 = nmL) (h2 : x.1 = flL) : dspS st x = (⟨st.1.name, x.2.1, st.1.media, st.1.body, true⟩, st.2) := by unfold dspS; rw [if_neg h, if_pos h2]
theorem dspS_not (st : Prt × Bool) (x : Par) (h : ¬ x.1 = nmL) (h2 : ¬ x.1 = flL) : dspS st x = st := by unfold dspS; rw [if_neg h, if_neg h2]
theorem dis_len (v : List UInt8) : (disR v).2.1.length ≤ v.length := by
  unfold disR
  cases hd : disP v with
  | none => simp
  | some r =>
    obtain ⟨k, qs⟩ := r
    unfold disP at hd
    simp only at hd
    split at hd
    · injection hd with hd
      injection hd with _ hd
      subst hd
      simp only [List.length_map]
      obtain ⟨⟨ps, m, e⟩, hp⟩ : ∃ r, parR ((trimL v).drop (runL isSg (trimL v))) = r := ⟨_, rfl⟩
      rw [hp]
      have h1 := (parR_bd _ ps m e hp).2.1
      have h2 := trimL_len v
      rw [List.length_drop] at h1
      show ps.length ≤ _
      omega
    · cases hd
theorem gb_of_below {w w' : World} (hb : Below w.heap.size w w') (row : Option Nat) : w.grownBy w' row := ⟨hb.os, hb.tape, hb.output, hb.size, fun i hi _ => hb.block i hi⟩
theorem gb_set (W : World) (b j : Nat) (v : Value) : W.grownBy (W.setCell ⟨b, j, none⟩ v) (some b) :=
  ⟨rfl, rfl, rfl, by simp, fun k _ hk => Below.heap_setCell W ⟨b, j, none⟩ v k (fun e => hk (by rw [e]))⟩
/-- What dispose leaves: a part, the named one where there is one; nothing else of what lay is touched. -/
def DspPost (b : Nat) (p : Prt) (v : List UInt8) (w : World) (e : Ending) (w' : World) : Prop :=
  ∃ q : Prt, e = .returned (.bool (dsp p v).isSome) ∧ PrtIs w' b q ∧ (∀ r, dsp p v = some r → q = r) ∧ w.grownBy w' (some b)
theorem dsp_no (p : Prt) (v : List UInt8) (h : ¬ ((disR v).2.2 = 0 ∧ (disR v).1 = fdL)) : dsp p v = none := by
  unfold dsp
  rw [if_neg (fun e => h ⟨e.1, e.2.1⟩)]
theorem dsp_yes (p : Prt) (v : List UInt8) (h : (disR v).2.2 = 0 ∧ (disR v).1 = fdL) : dsp p v = if (dspL (disR v).2.1 p).2 = true then some (dspL (disR v).2.1 p).1 else none := by
  unfold dsp
  by_cases hc : (dspL (disR v).2.1 p).2 = true
  · rw [if_pos ⟨h.1, h.2, hc⟩, if_pos hc]
  · rw [if_neg (fun e => hc e.2.2), if_neg hc]
theorem par_cells {w : World} {base g n cap : Nat} {T : TypeId} {l : List Par} (h : w.ownsRow base T 3 (.slice (some ⟨g, 0, none⟩) n cap) n (parsV l)) (i : Nat) (x : Par) (hx : l[i]? = some x) :
    w.cell? ⟨g, i * 3, none⟩ = some (.string ⟨x.1.toArray⟩) ∧ w.cell? ⟨g, i * 3 + 1, none⟩ = some (.string ⟨x.2.1.toArray⟩) ∧ w.cell? ⟨g, i * 3 + 2, none⟩ = some (.bool x.2.2) := by
  obtain ⟨h0, h1, h2⟩ := parsV_get l i x hx
  have hc := h.cells (g := g) rfl
  have ad : ∀ j, (⟨g, 0, none⟩ : Addr).add j = ⟨g, j, none⟩ := fun j => by unfold Addr.add; split <;> simp_all
  exact ⟨by have := hc _ _ h0; rwa [ad] at this, by have := hc _ _ h1; rwa [ad] at this, by have := hc _ _ h2; rwa [ad] at this⟩
set_option maxHeartbeats 8000000 in
theorem dispose_any (b : Nat) (p : Prt) (v : List UInt8) (w : World) (h : PrtIs w b p) (hv : v.length ≤ 1099511627776) (hg : SgAt w) :
    Calls Tryz.prog 101 #[.pointer (some ⟨b, 0, none⟩), .string ⟨v.toArray⟩] w (DspPost b p v w) := by
  have hdis := sdis_any ⟨v.toArray⟩ w (by rw [size_mk]; exact hv) hg
  unfold DisPost at hdis
  rw [show (⟨v.toArray⟩ : ByteArray).data.toList = v from rfl] at hdis
  have hno := dsp_no p v
  have hyes := dsp_yes p v
  have hlen := dis_len v
  obtain ⟨⟨k, l, e0⟩, hD⟩ : ∃ r, disR v = r := ⟨_, rfl⟩
  rw [hD] at hdis hno hyes hlen
  obtain ⟨R, hR⟩ : ∃ R, dsp p v = R := ⟨_, rfl⟩
  unfold DspPost
  rw [hR] at hno hyes ⊢
  have HDIS := Lib.hid hdis; have HH := Lib.hid h; have HYES := Lib.hid hyes
  have hbl := h.lt
  clear hdis h hg hD hR hyes
  by_cases he : e0 = 0
  · subst he
    by_cases hk : k = fdL
    · subst hk
      have HY := Lib.hid (HYES.out ⟨rfl, rfl⟩)
      have HLN := Lib.hid (Nat.le_trans hlen hv)
      clear hno HYES hlen
      go_enter Tryz.func101, Tryz.ntmps101
      go_wp2_with fail
      refine (HDIS.out).mono ?_
      rintro e w1 ⟨v1, rfl, ho1, hb1⟩
      obtain ⟨ao, cap, rfl⟩ : ∃ ao cap, v1 = .slice ao l.length cap := by
        rcases ho1.2 with ⟨rfl, h0⟩ | ⟨g, cap, cur, rfl, _⟩
        · exact ⟨none, 0, by rw [show l.length = 0 from h0]⟩
        · exact ⟨_, cap, rfl⟩
      have HO1 := Lib.hid ho1; have HG1 := Lib.hid (gb_of_below hb1 (some b)); have HP1 := Lib.hid (HH.out.later hb1)
      clear ho1 hb1
      go_wp2
      go_loopw [25, 8] (fun iv nv wr => ∃ i : Nat, iv = .int .i64 i ∧ i ≤ l.length ∧ nv = .bool (dspL (l.take i) p).2 ∧ PrtIs wr b (dspL (l.take i) p).1 ∧ w.grownBy wr (some b) ∧ wr.ownsRow w.heap.size 52 3 (.slice ao l.length cap) l.length (parsV l)) (fun iv _ _ => l.length - (intOf iv).toNat)
      case atStart => exact ⟨0, rfl, Nat.zero_le _, rfl, HP1.out, HG1.out, HO1.out⟩
      case round =>
        obtain ⟨i, rfl, hi, rfl, hp, hgb, hown⟩ := hrel
        by_cases hlt : i < l.length
        · obtain ⟨x, hx⟩ : ∃ x, l[i]? = some x := ⟨_, List.getElem?_eq_getElem hlt⟩
          obtain ⟨g, rfl⟩ : ∃ g, ao = some ⟨g, 0, none⟩ := by
            rcases hown.2 with ⟨hv, h0⟩ | ⟨g, c, cur, hv, _⟩
            · have : l.length = 0 := h0; omega
            · injection hv with hv; exact ⟨g, hv⟩
          obtain ⟨c0, c1, c2⟩ := par_cells hown i x hx
          have htk := dspL_take l p i x hx
          obtain ⟨⟨P, nd⟩, hP⟩ : ∃ st, dspL (l.take i) p = st := ⟨_, rfl⟩
          rw [hP] at hp htk ⊢
          have k0 : (0 : Int) ≤ (i : Int) := Int.natCast_nonneg _
          have k1 : (i : Int) < (l.length : Int) := by omega
          have hwi := wrap64_small i (by have := HLN.out; omega)
          obtain ⟨xn, xv, xh⟩ := x
          obtain ⟨fb, hfb⟩ : ∃ fb, wr.heap.size = fb := ⟨_, rfl⟩
          obtain ⟨W3, hW3⟩ : ∃ W3, wr.alloc (.cells #[.string ⟨xn.toArray⟩, .string ⟨xv.toArray⟩, .bool xh] 52) = W3 := ⟨_, rfl⟩
          have hb3 : Below wr.heap.size wr W3 := by rw [← hW3]; exact (Below.refl _ wr).alloc (Nat.le_refl _) _
          have hF3 : BlkIs W3 fb #[.string ⟨xn.toArray⟩, .string ⟨xv.toArray⟩, .bool xh] 52 := by rw [← hW3, ← hfb]; exact blkIs_new _ _ _
          have hp3 := hp.later hb3
          have hg3 := hgb.trans (gb_of_below hb3 (some b))
          have ho3 := own_later hown hb3
          have hgne : (Value.slice (some ⟨g, 0, none⟩) l.length cap).ownBlock ≠ some b := fun e => by
            have := (ho3.lt b e).1
            omega
          have HW3 := Lib.hid hW3; have HW := Lib.hid hwi; have HX := Lib.hid hx; have HTK := Lib.hid htk
          have HI3 := Lib.hid (And.intro hp3 (And.intro hg3 (And.intro ho3 hgne)))
          have e0 := hF3.cell 0 _ rfl
          have e1 := hF3.cell 1 _ rfl
          have z0 := hp3.cell 0 _ rfl
          have z1 := hp3.cell 1 _ rfl
          have z4 := hp3.cell 4 _ rfl
          have y0 := BlkIs.free hp3 0
          have y1 := BlkIs.free hp3 1
          have y4 := BlkIs.free hp3 4
          clear hW3 hwi hx htk hP hp hgb hown hb3 hF3 hp3 hg3 ho3 hgne
          go_upto_region 8 with fail
          rw [HW3.out]
          clear c0 c1 c2
          by_cases hn1 : xn = nmL
          · have b1 : (xn == [110, 97, 109, 101]) = true := by rw [hn1]; rfl
            have HT := Lib.hid (dspS_name (P, nd) (xn, xv, xh) hn1)
            have HQ := Lib.hid (show BlkIs (W3.setCell ⟨b, 0, none⟩ (.string ⟨xv.toArray⟩)) b (prtC ⟨xv, P.file, P.media, P.body, P.has⟩) 34 from BlkIs.set HI3.out.1 0 _)
            have HR3 := Lib.hid (And.intro (HI3.out.2.1.trans (gb_set W3 b 0 (.string ⟨xv.toArray⟩))) (HI3.out.2.2.1.kept (gb_set W3 b 0 (.string ⟨xv.toArray⟩)) (.inr (fun e => HI3.out.2.2.2 e))))
            clear hn1
            go_wp2
            have hwi := HW.out
            go_roundw
            case rel => (try rw [hwi]); clear hwi; exact ⟨i + 1, by go_num, hlt, by rw [HTK.out, HT.out], by rw [HTK.out, HT.out]; exact HQ.out, HR3.out.1, HR3.out.2⟩
            case measure => (try rw [hwi]); clear hwi; simp [intOf]; omega
          · have b1 : (xn == [110, 97, 109, 101]) = false := beq_false_of_ne hn1
            by_cases hn2 : xn = flL
            · have b2 : (xn == [102, 105, 108, 101, 110, 97, 109, 101]) = true := by rw [hn2]; rfl
              have HT := Lib.hid (dspS_file (P, nd) (xn, xv, xh) hn1 hn2)
              obtain ⟨W4, hW4⟩ : ∃ W4, W3.setCell ⟨b, 1, none⟩ (.string ⟨xv.toArray⟩) = W4 := ⟨_, rfl⟩
              have hq4 : BlkIs W4 b (prtC ⟨P.name, xv, P.media, P.body, P.has⟩) 34 := by rw [← hW4]; exact BlkIs.set HI3.out.1 1 _
              have hq5 : BlkIs (W4.setCell ⟨b, 4, none⟩ (.bool true)) b (prtC ⟨P.name, xv, P.media, P.body, true⟩) 34 := BlkIs.set hq4 4 _
              have hr4 : W3.grownBy W4 (some b) := by rw [← hW4]; exact gb_set W3 b 1 _
              have hr5 := hr4.trans (gb_set W4 b 4 (.bool true))
              have HQ := Lib.hid hq5
              have HR3 := Lib.hid (And.intro (HI3.out.2.1.trans hr5) (HI3.out.2.2.1.kept hr5 (.inr (fun e => HI3.out.2.2.2 e))))
              have z44 := hq4.cell 4 _ rfl
              have y44 := BlkIs.free hq4 4
              have HW4 := Lib.hid hW4
              clear hn1 hn2 hq4 hq5 hr4 hr5 hW4
              go_upto_region 13 with fail
              rw [HW4.out]
              go_wp2
              have hwi := HW.out
              go_roundw
              case rel => (try rw [hwi]); clear hwi; exact ⟨i + 1, by go_num, hlt, by rw [HTK.out, HT.out], by rw [HTK.out, HT.out]; exact HQ.out, HR3.out.1, HR3.out.2⟩
              case measure => (try rw [hwi]); clear hwi; simp [intOf]; omega
            · have b2 : (xn == [102, 105, 108, 101, 110, 97, 109, 101]) = false := beq_false_of_ne hn2
              have HT := Lib.hid (dspS_not (P, nd) (xn, xv, xh) hn1 hn2)
              clear hn1 hn2
              go_wp2
              have hwi := HW.out
              go_roundw
              case rel => (try rw [hwi]); clear hwi; exact ⟨i + 1, by go_num, hlt, by rw [HTK.out, HT.out], by rw [HTK.out, HT.out]; exact HI3.out.1, HI3.out.2.1, HI3.out.2.2.1⟩
              case measure => (try rw [hwi]); clear hwi; simp [intOf]; omega
        · obtain rfl : l.length = i := by omega
          have hd : decide (l.length < l.length) = false := decide_eq_false (Nat.lt_irrefl _)
          rw [List.take_length] at hp ⊢
          have HF := Lib.hid (And.intro hp hgb)
          clear hp hgb hown
          go_wp2
          go_ret
          refine ⟨(dspL l p).1, ?_, HF.out.1, fun r hr => ?_, HF.out.2⟩
          · rw [HY.out]
            cases hc : (dspL l p).2 with
            | true => rfl
            | false => rfl
          · rw [HY.out] at hr
            split at hr
            · injection hr
            · cases hr
    · have hk2 : ¬ k = [102, 111, 114, 109, 45, 100, 97, 116, 97] := hk
      have hk3 : (k == [102, 111, 114, 109, 45, 100, 97, 116, 97]) = false := beq_false_of_ne hk2
      have hk4 : (k != [102, 111, 114, 109, 45, 100, 97, 116, 97]) = true := by simpa using hk2
      have HNO := Lib.hid (hno (fun e => hk e.2))
      clear hno hlen hk hk2
      go_enter Tryz.func101, Tryz.ntmps101
      go_wp2_with fail
      refine (HDIS.out).mono ?_
      rintro e w1 ⟨v1, rfl, ho1, hb1⟩
      have HG1 := Lib.hid (gb_of_below hb1 (some b)); have HP1 := Lib.hid (HH.out.later hb1)
      clear ho1 hb1
      go_wp2
      go_ret
      exact ⟨p, by rw [HNO.out]; rfl, HP1.out, fun r hr => (by rw [HNO.out] at hr; cases hr), HG1.out⟩
  · have he2 : ((e0 : Int) == 0) = false := by simp; omega
    have he3 : ((e0 : Int) != 0) = true := by simp; omega
    have HNO := Lib.hid (hno (fun e => he e.1))
    clear hno hlen he
    go_enter Tryz.func101, Tryz.ntmps101
    go_wp2_with fail
    refine (HDIS.out).mono ?_
    rintro e w1 ⟨v1, rfl, ho1, hb1⟩
    have HG1 := Lib.hid (gb_of_below hb1 (some b)); have HP1 := Lib.hid (HH.out.later hb1)
    clear ho1 hb1
    go_wp2
    go_ret
    exact ⟨p, by rw [HNO.out]; rfl, HP1.out, fun r hr => (by rw [HNO.out] at hr; cases hr), HG1.out⟩
end Go.Proofs.YtlfdeenekjklgaaGreatDoor
namespace Go.Proofs.YtlfdeenekjklgaaGreatDoor
open Go.RowKit Go.Shelf
attribute [local go_sem] Oper.semAt_some
set_option linter.unusedSimpArgs false
set_option linter.unusedVariables false
set_option maxRecDepth 1000000
theorem wide_fn (f : FuncId) : Fence.wide.fn f = True := rfl
attribute [local go_sem] wide_fn
abbrev Ln := Int × List UInt8
/-- The lines from a place on, each with its place, up to the empty one; the last without an end bears -1. -/
def seqL : Nat → List UInt8 → Nat → List Ln
  | 0, _, _ => []
  | f + 1, s, a => match fnd crlf (s.drop a) with
    | none => [(-1, s.drop a)]
    | some 0 => [((a : Int), [])]
    | some (n + 1) => ((a : Int), (s.drop a).take (n + 1)) :: seqL f s (a + (n + 1) + 2)
theorem seqL_at (f : Nat) (s : List UInt8) (a : Nat) (X : List UInt8) (h : s.drop a = X) : seqL (f + 1) s a = match fnd crlf X with
    | none => [(-1, X)]
    | some 0 => [((a : Int), [])]
    | some (n + 1) => ((a : Int), X.take (n + 1)) :: seqL f s (a + (n + 1) + 2) := by subst h; rfl
/-- A head that is being read, or read, or faulty. -/
inductive HdO where
  | run (st : HdSt)
  | done (p : Prt) (q c : Nat)
def stepO (m : Nat) : HdO → Ln → HdO
  | .done p q c, _ => .done p q c
  | .run st, x =>
    if x.1 < 0 then .done st.p m 154
    else if x.2 = [] then (if st.named = true then .done st.p (x.1.toNat + 2) 0 else .done st.p x.1.toNat 152)
    else if (hdStep st x.2).2 ≠ 0 then .done st.p x.1.toNat (hdStep st x.2).2
    else .run (hdStep st x.2).1
def hdO (m : Nat) (l : List Ln) (o : HdO) : HdO := l.foldl (stepO m) o
theorem hdO_done (m : Nat) (p : Prt) (q c : Nat) : ∀ l : List Ln, hdO m l (.done p q c) = .done p q c
  | [] => rfl
  | x :: l => hdO_done m p q c l
theorem hdO_app (m : Nat) (a b : List Ln) (o : HdO) : hdO m (a ++ b) o = hdO m b (hdO m a o) := List.foldl_append
theorem hdO_seq : ∀ (f : Nat) (s : List UInt8) (a : Nat) (st : HdSt), a ≤ s.length → s.length < a + f → hdO s.length (seqL f s a) (.run st) = .done (hdF f s a st).1 (hdF f s a st).2.1 (hdF f s a st).2.2
  | 0, s, a, st, h, h1 => by omega
  | f + 1, s, a, st, h, h1 => by
    unfold seqL hdF
    cases hf : fnd crlf (s.drop a) with
    | none => rfl
    | some n =>
      obtain ⟨h3, _, _⟩ := fnd_spec _ _ _ hf
      rw [List.length_drop] at h3
      simp only [crlf, List.length_cons, List.length_nil] at h3
      cases n with
      | zero =>
        show stepO s.length (.run st) ((a : Int), []) = _
        unfold stepO
        simp only
        rw [if_neg (by omega), if_pos trivial]
        split <;> rfl
      | succ n =>
        have hne : (s.drop a).take (n + 1) ≠ [] := fun e => by
          have := congrArg List.length e
          rw [List.length_take, List.length_drop] at this
          simp at this
          omega
        show hdO s.length (seqL f s (a + (n + 1) + 2)) (stepO s.length (.run st) ((a : Int), (s.drop a).take (n + 1))) = _
        unfold stepO
        simp only
        rw [if_neg (by omega), if_neg hne]
        split
        · rw [hdO_done]; rfl
        · exact hdO_seq f s _ _ (by omega) (by omega)
/-- What a part of the lines has brought to an end, all of them do. -/
theorem hdO_pre (m : Nat) (pre l : List Ln) (o : HdO) (p : Prt) (q c : Nat) (h : pre <+: l) (hd : hdO m pre o = .done p q c) : hdO m l o = .done p q c := by
  obtain ⟨t, rfl⟩ := h
  rw [hdO_app, hd, hdO_done]
def ctR (X : List UInt8) : List UInt8 × List UInt8 × Bool := match fnd crlf X with
  | none => (X, [], false)
  | some i => (X.take i, X.drop (i + 2), true)
theorem cut_crlf (X : List UInt8) : Lib.cut X [13, 10] = ctR X := by
  unfold Lib.cut ctR
  have h := index_fnd crlf X
  rw [show ([13, 10] : List UInt8) = crlf from rfl, h]
  cases fnd crlf X with
  | none => rfl
  | some i =>
    show (if 0 ≤ ((i : Nat) : Int) then _ else _) = _
    rw [if_pos (by omega)]
    rfl
theorem ct_call (X : List UInt8) (m : Int) (w : World) (hX : X.length < 4294967281) (hm : w.cell? ⟨2, 0, none⟩ = some (.int .i64 m)) : Calls Tryz.prog 41 #[.string ⟨X.toArray⟩, .string ⟨#[13, 10]⟩] w fun e w' => e = .returned (.tuple #[.string ⟨(ctR X).1.toArray⟩, .string ⟨(ctR X).2.1.toArray⟩, .bool (ctR X).2.2]) ∧ ∃ n, w' = w.drewN n := by
  have := Tryz.strings_Cut ⟨X.toArray⟩ ⟨#[13, 10]⟩ m w (by rw [size_mk]; exact hX) hm
  rw [show (⟨X.toArray⟩ : ByteArray).data.toList = X from rfl, show (⟨#[13, 10]⟩ : ByteArray).data.toList = [13, 10] from rfl, cut_crlf] at this
  exact this
theorem lines_call (r : Nat) (a : Int) (w : World) : Calls Tryz.prog 100 #[.pointer (some ⟨r, 0, none⟩), .int .i64 a] w fun e w' => e = .returned (.func (.func 127) #[] #[.pointer (some ⟨w.heap.size, 0, none⟩), .pointer (some ⟨w.heap.size + 1, 0, none⟩)]) ∧ w' = (w.alloc (.cells #[.pointer (some ⟨r, 0, none⟩)] 64)).alloc (.cells #[.int .i64 a] 3) := by
  go_enter Tryz.func100, Tryz.ntmps100
  go_wp2
  go_ret
  exact ⟨rfl, rfl⟩
theorem grown_drewN (w : World) (k : Nat) : w.grownBy (w.drewN k) none := gb_of_below (below_drewN (Below.refl _ w) k) none
theorem boxed_same {W W' : World} {b : Nat} {T : TypeId} {v : Value} (h : Boxed W b T v) (he : W'.heap[b]? = W.heap[b]?) : Boxed W' b T v := by
  unfold Boxed at *
  rw [he]; exact h
theorem addW (N K y : Nat) (h : N + K = y) (hy : y ≤ 2147483650) : wrap64 ((N : Int) + (K : Int)) = (y : Int) ∧ IntKind.i64.wrap ((N : Int) + (K : Int)) = (y : Int) := by
  constructor
  · unfold wrap64; omega
  · rw [IntKind.wrap_i64]; omega
set_option maxHeartbeats 8000000 in
theorem lines_in (n l r bR bA n0 : Nat) (hn : 1 ≤ n) (m : Int) (s mk : List UInt8) (most : Int) (lv : Value) (a : Nat) (hs : s.length ≤ 2147483648) (ha : a ≤ s.length) (hr : r < n0) (hgn : 2 < n0) (hbA : n0 ≤ bA) (hRA : bR ≠ bA)
    (SEQ : List Ln) (hSEQ : seqL (s.length + 1) s a = SEQ) (J Jx : List Ln → World → Prop) (hJ : AbBox bA J)
    (hY : ∀ pre x W1, pre ++ [x] <+: SEQ → J pre W1 → YieldAt Fence.wide (n - 1) Tryz.prog l #[.int .i64 x.1, .string ⟨x.2.toArray⟩] W1 fun e W' =>
      (e = .returned (.bool true) ∧ J (pre ++ [x]) W' ∧ Below n0 W1 W' ∧ ∀ k ∈ [bR, bA], W'.heap[k]? = W1.heap[k]?) ∨ (e = .returned (.bool false) ∧ Jx (pre ++ [x]) W'))
    (W : World) (hR : Boxed W bR 64 (.pointer (some ⟨r, 0, none⟩))) (hA : Boxed W bA 3 (.int .i64 (a : Int))) (hRd : RdAt W r s mk most lv) (hm : W.cell? ⟨2, 0, none⟩ = some (.int .i64 m)) (h0 : J [] W) :
    CallsIn Fence.wide n Tryz.prog 127 #[.func (.yield l) #[] #[], .pointer (some ⟨bR, 0, none⟩), .pointer (some ⟨bA, 0, none⟩)] W fun e W' => (∃ v, e = .returned v) ∧
      ((∃ ys, ys = SEQ ∧ J ys W') ∨ (∃ pre, pre <+: SEQ ∧ Jx pre W')) := by
  have HIN := Lib.hid (And.intro hR (And.intro hA (And.intro hRd (And.intro hm (And.intro h0 (And.intro hSEQ ha))))))
  have HYY := Lib.hid hY; have HJJ := Lib.hid hJ
  clear hR hA hRd hm h0 hSEQ hY hJ ha
  refine callsIn_of_wp Tryz.func127 rfl trivial ?_ rfl
  simp only [Tryz.ntmps127, List.size_toArray, List.length_cons, List.length_nil, Nat.reduceAdd, Nat.reduceSub, Array.replicate_succ, Array.replicate_zero, List.push_toArray, List.append_toArray, List.nil_append, List.cons_append]
  gi_wp2
  gi_loopw [7] (fun tv wr => ∃ (f b : Nat) (pre : List Ln), J pre wr ∧ pre ++ seqL f s b = SEQ ∧ b ≤ s.length ∧ s.length < b + f ∧ Boxed wr bA 3 (.int .i64 (b : Int)) ∧ Boxed wr bR 64 (.pointer (some ⟨r, 0, none⟩)) ∧ RdAt wr r s mk most lv ∧ wr.cell? ⟨2, 0, none⟩ = some (.int .i64 m)) (fun _ wr => s.length + 1 - (intOf ((wr.cell? ⟨bA, 0, none⟩).getD undef)).toNat)
  case atStart => exact ⟨s.length + 1, a, [], HIN.out.2.2.2.2.1, by rw [List.nil_append]; exact HIN.out.2.2.2.2.2.1, HIN.out.2.2.2.2.2.2, by omega, HIN.out.2.1, HIN.out.1, HIN.out.2.2.1, HIN.out.2.2.2.1⟩
  case round =>
    clear HIN
    obtain ⟨f, b, pre, hj, hsq, hb, hfb, hA, hR, hRd, hm⟩ := hrel
    obtain ⟨f, rfl⟩ : ∃ g, f = g + 1 := ⟨f - 1, by omega⟩
    obtain ⟨X, hX⟩ : ∃ X, s.drop b = X := ⟨_, rfl⟩
    have hXl : X.length = s.length - b := by rw [← hX, List.length_drop]
    have hct := fun W (hmm : W.cell? ⟨2, 0, none⟩ = some (.int .i64 m)) => ct_call X m W (by omega) hmm
    have hsz : (⟨s.toArray⟩ : ByteArray).size = s.length := size_mk s
    have hxx : (⟨s.toArray⟩ : ByteArray).extract b s.length = ⟨X.toArray⟩ := by rw [← hX, ← hsz]; exact ext_mk2 s b
    have q1 : (0 : Int) ≤ (b : Int) := Int.natCast_nonneg _
    have q2 : (b : Int) ≤ (s.length : Int) := by omega
    have cA : wr.cell? ⟨bA, 0, none⟩ = some (.int .i64 (b : Int)) := hA.cell
    have cR : wr.cell? ⟨bR, 0, none⟩ = some (.pointer (some ⟨r, 0, none⟩)) := hR.cell
    have cS : wr.cell? ⟨r, 0, none⟩ = some (.string ⟨s.toArray⟩) := hRd.cell 0 _ rfl
    have HS := Lib.hid (And.intro hj (And.intro hA (And.intro hR (And.intro hRd hm))))
    have hsq' : pre ++ (match fnd crlf X with
      | none => [((-1 : Int), X)]
      | some 0 => [((b : Int), [])]
      | some (n + 1) => ((b : Int), X.take (n + 1)) :: seqL f s (b + (n + 1) + 2)) = SEQ := by rw [← hsq, seqL_at f s b X hX]
    have hspec := fnd_spec crlf X
    clear hsq hj hA hR hRd hm
    unfold ctR at hct
    cases hf : fnd crlf X with
    | none =>
      rw [hf] at hct hsq'
      have hct2 : ∀ W, W.cell? ⟨2, 0, none⟩ = some (.int .i64 m) → Calls Tryz.prog 41 #[.string ⟨X.toArray⟩, .string ⟨#[13, 10]⟩] W fun e w' => e = .returned (.tuple #[.string ⟨X.toArray⟩, .string ⟨#[]⟩, .bool false]) ∧ ∃ n, w' = W.drewN n := hct
      have HC := Lib.hid hct2; have HQ := Lib.hid hsq'
      clear hct hct2 hsq' hspec hf hX
      gi_wp2
      gi_quiet ((gi_at_call 41; exact CallsIn.quiet_of (callsIn_wide.2 (HC.out _ (by rw [World.cell?_drewN]; exact HS.out.2.2.2.2)))))
      have hjd := HJJ.out _ wr (wr.drewN nq) none HS.out.1 (grown_drewN wr nq) (fun r e => by cases e)
      obtain ⟨fn, tmps, assign, body, hy, hRn⟩ := HYY.out pre (-1, X) (wr.drewN nq) (by rw [← HQ.out]; exact List.prefix_refl _) hjd
      have HRN := Lib.hid hRn
      clear hjd hRn
      gi_wp2
      refine (HRN.out).mono ?_
      rintro e W3 (⟨rfl, hJ3, _, _⟩ | ⟨rfl, hJx3⟩)
      · gi_wp2
        refine bodyPost_ret (results_none rfl _ _ _) rfl ?_
        exact ⟨⟨_, rfl⟩, .inl ⟨SEQ, rfl, by rw [← HQ.out]; exact hJ3⟩⟩
      · gi_wp2
        refine bodyPost_ret (results_none rfl _ _ _) rfl ?_
        exact ⟨⟨_, rfl⟩, .inr ⟨_, by rw [← HQ.out]; exact List.prefix_refl _, hJx3⟩⟩
    | some i =>
      have hsp := (hspec i hf).1
      rw [hf] at hct hsq'
      obtain ⟨L, hL⟩ : ∃ L, X.take i = L := ⟨_, rfl⟩
      have hLl : L.length = i := by rw [← hL, List.length_take]; simp only [crlf, List.length_cons, List.length_nil] at hsp; omega
      have hb2 : b + i + 2 ≤ s.length := by simp only [crlf, List.length_cons, List.length_nil] at hsp; omega
      obtain ⟨T, hT⟩ : ∃ T, X.drop (i + 2) = T := ⟨_, rfl⟩
      have hct2 : ∀ W, W.cell? ⟨2, 0, none⟩ = some (.int .i64 m) → Calls Tryz.prog 41 #[.string ⟨X.toArray⟩, .string ⟨#[13, 10]⟩] W fun e w' => e = .returned (.tuple #[.string ⟨L.toArray⟩, .string ⟨T.toArray⟩, .bool true]) ∧ ∃ n, w' = W.drewN n := by rw [← hL, ← hT]; exact hct
      have HC := Lib.hid hct2
      have hpx : pre ++ ((b : Int), L) :: (if i = 0 then [] else seqL f s (b + i + 2)) = SEQ := by
        rw [← hsq']
        cases i with
        | zero =>
          rw [← hL]; rfl
        | succ i => rw [if_neg (by omega), ← hL]
      have HQ := Lib.hid hpx
      have HN := Lib.hid (And.intro hLl (And.intro hb2 hfb))
      clear hct hct2 hsq' hspec hf hX hsp hpx hT hL
      gi_wp2
      gi_quiet ((gi_at_call 41; exact CallsIn.quiet_of (callsIn_wide.2 (HC.out _ (by rw [World.cell?_drewN]; exact HS.out.2.2.2.2)))))
      have hjd := HJJ.out _ wr (wr.drewN nq) none HS.out.1 (grown_drewN wr nq) (fun r e => by cases e)
      obtain ⟨fn, tmps, assign, body, hy, hRn⟩ := HYY.out pre ((b : Int), L) (wr.drewN nq) ⟨if i = 0 then [] else seqL f s (b + i + 2), by rw [List.append_assoc]; exact HQ.out⟩ hjd
      have HRN := Lib.hid hRn
      clear hjd hRn
      have hpre : pre ++ [((b : Int), L)] <+: SEQ := ⟨if i = 0 then [] else seqL f s (b + i + 2), by rw [List.append_assoc]; exact HQ.out⟩
      have HPR := Lib.hid hpre
      clear hpre
      by_cases hL0 : L = []
      · subst hL0
        have hi0 : i = 0 := by have := HN.out.1; simpa using this.symm
        gi_wp2
        refine (HRN.out).mono ?_
        rintro e W3 (⟨rfl, hJ3, _, _⟩ | ⟨rfl, hJx3⟩)
        · gi_wp2
          refine bodyPost_ret (results_none rfl _ _ _) rfl ?_
          exact ⟨⟨_, rfl⟩, .inl ⟨SEQ, rfl, by rw [← HQ.out, if_pos hi0]; exact hJ3⟩⟩
        · gi_wp2
          refine bodyPost_ret (results_none rfl _ _ _) rfl ?_
          exact ⟨⟨_, rfl⟩, .inr ⟨_, HPR.out, hJx3⟩⟩
      · have t1 : (L == []) = false := beq_false_of_ne hL0
        have t2 : L.isEmpty = false := by cases L with | nil => exact absurd rfl hL0 | cons => rfl
        have t3 : decide (L = []) = false := decide_eq_false hL0
        have hi0 : i ≠ 0 := fun e => hL0 (List.eq_nil_of_length_eq_zero (by rw [HN.out.1, e]))
        have hLz : (⟨L.toArray⟩ : ByteArray).size = L.length := size_mk L
        obtain ⟨c, hc⟩ : ∃ c, b + i + 2 = c := ⟨_, rfl⟩
        obtain ⟨d, hd⟩ : ∃ d, L.length + 2 = d := ⟨_, rfl⟩
        obtain ⟨v1, v2⟩ := addW L.length 2 d hd (by have := HN.out; omega)
        obtain ⟨v3, v4⟩ := addW b d c (by have := HN.out; omega) (by have := HN.out; omega)
        have HCD := Lib.hid (And.intro hc hd)
        clear hc hd
        gi_wp2
        refine (HRN.out).mono ?_
        rintro e W3 (⟨rfl, hJ3, hB3, hk3⟩ | ⟨rfl, hJx3⟩)
        · have hA3 := boxed_same (W' := W3) HS.out.2.1 (by rw [hk3 bA (by simp)]; rfl)
          have hR3 := boxed_same (W' := W3) HS.out.2.2.1 (by rw [hk3 bR (by simp)]; rfl)
          have hRd3 : RdAt W3 r s mk most lv := BlkIs.below (w := wr.drewN nq) HS.out.2.2.2.1 hB3 hr
          have hm3 : W3.cell? ⟨2, 0, none⟩ = some (.int .i64 m) := by rw [hB3.cell (p := ⟨2, 0, none⟩) hgn, World.cell?_drewN]; exact HS.out.2.2.2.2
          have cA3 : W3.cell? ⟨bA, 0, none⟩ = some (.int .i64 (b : Int)) := hA3.cell
          have fA3 : W3.frozen? ⟨bA, 0, none⟩ = false := hA3.frozen
          have hJ4 := HJJ.out _ W3 _ (some bA) hJ3 (gb_set W3 bA 0 (.int .i64 (c : Int))) (fun r e => by injection e with e; exact e.symm)
          have hA4 : Boxed (W3.setCell ⟨bA, 0, none⟩ (.int .i64 (c : Int))) bA 3 (.int .i64 (c : Int)) := hA3.set _
          have hR4 : Boxed (W3.setCell ⟨bA, 0, none⟩ (.int .i64 (c : Int))) bR 64 (.pointer (some ⟨r, 0, none⟩)) := Boxed.kept hR3 (grownBy_setCell' W3 bA (.int .i64 (c : Int))) (by first | exact (fun e => hRA (by injection e with e; exact e.symm)) | exact (fun e => hRA (by injection e)) )
          have hRd4 : RdAt (W3.setCell ⟨bA, 0, none⟩ (.int .i64 (c : Int))) r s mk most lv := BlkIs.setOther hRd3 _ _ (by show r ≠ bA; omega)
          have hm4 : (W3.setCell ⟨bA, 0, none⟩ (.int .i64 (c : Int))).cell? ⟨2, 0, none⟩ = some (.int .i64 m) := by
            rw [World.cell?_setCell_other _ _ _ _ (by first | (simp; omega) | simp)]; exact hm3
          have HF := Lib.hid (And.intro hJ4 (And.intro hA4 (And.intro hR4 (And.intro hRd4 hm4))))
          have HM := Lib.hid (And.intro hA4.cell cA)
          clear hA3 hR3 hRd3 hm3 hJ3 hB3 hk3 hJ4 hA4 hR4 hRd4 hm4
          gi_wp2
          go_roundw
          case rel =>
            rw [show (b : Int) + ((i : Int) + 2) = (c : Int) by have := HCD.out.1; omega]
            refine ⟨f, c, pre ++ [((b : Int), L)], HF.out.1, ?_, by have := HN.out; have := HCD.out; omega, by have := HN.out; have := HCD.out; omega, HF.out.2.1, HF.out.2.2.1, HF.out.2.2.2.1, HF.out.2.2.2.2⟩
            rw [← HQ.out, if_neg hi0, List.append_assoc, HCD.out.1]; rfl
          case measure =>
            rw [show (b : Int) + ((i : Int) + 2) = (c : Int) by have := HCD.out.1; omega]
            rw [HM.out.1, HM.out.2]
            have := HN.out
            have := HCD.out
            simp [intOf]
            omega
        · gi_wp2
          refine bodyPost_ret (results_none rfl _ _ _) rfl ?_
          exact ⟨⟨_, rfl⟩, .inr ⟨_, HPR.out, hJx3⟩⟩
end Go.Proofs.YtlfdeenekjklgaaGreatDoor
