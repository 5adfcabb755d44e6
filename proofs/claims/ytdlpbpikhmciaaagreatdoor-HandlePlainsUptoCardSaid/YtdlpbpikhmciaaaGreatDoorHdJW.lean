/- field.Joined, handle.Wish, and the reference's: both at every list of fields (two texts in one). Conditions: the list is small. -/
import Derived.Test.YtdlpbpikhmciaaaGreatDoorHdS
import Derived.Test.YtdlpbpikhmciaaaGreatDoorJoi
import Derived.Deep.DeepCutAuto
import Derived.Test.YtdlpbpikhmciaaaGreatDoorHdA
namespace Go.Proofs.YtdlpbpikhmciaaaGreatDoor
open Go.RowKit
set_option linter.unusedSimpArgs false
set_option linter.unusedVariables false
set_option maxRecDepth 1000000
def jnF (n : List UInt8) (l : List Fld) : List UInt8 := Lib.join (allF n l) [44, 32]
def hsF (n : List UInt8) (l : List Fld) : Bool := decide (0 < (allF n l).length)
theorem strs_shape {W : World} {L : Nat} {v : Value} {q : List (List UInt8)} (h : W.ownsRow L 9 1 v q.length (strV q)) : ∃ ao cap, v = .slice ao q.length cap := by
  rcases h.2 with ⟨rfl, h0⟩ | ⟨g, cap, cur, rfl, _, hg, _⟩
  · exact ⟨none, 0, by rw [h0]⟩
  · exact ⟨_, cap, rfl⟩
theorem addj18 (g j : Nat) : (⟨g, 0, none⟩ : Addr).add j = ⟨g, 0 + j, none⟩ := by unfold Addr.add; split <;> simp_all
theorem strs_cell {W : World} {L : Nat} {v : Value} {q : List (List UInt8)} (h : W.ownsRow L 9 1 v q.length (strV q)) (hp : 0 < q.length) : ∃ g cap, v = .slice (some ⟨g, 0, none⟩) q.length cap ∧ g < W.heap.size ∧ ∀ (j : Nat) (x : List UInt8), q[j]? = some x → W.cell? ⟨g, j, none⟩ = some (.string ⟨x.toArray⟩) := by
  rcases h.2 with ⟨_, h0⟩ | ⟨g, cap, cur, rfl, _, hg, _⟩
  · omega
  · refine ⟨g, cap, rfl, (Array.getElem?_eq_some_iff.1 hg).1, fun j x hx => ?_⟩
    have := h.cells (g := g) rfl j (.string ⟨x.toArray⟩) (by simp [strV, hx])
    rwa [addj18, Nat.zero_add] at this
theorem join_snoc (x : List UInt8) : ∀ (a : List UInt8) (l : List (List UInt8)), Lib.join ((a :: l) ++ [x]) [44, 32] = Lib.join (a :: l) [44, 32] ++ ([44, 32] ++ x)
  | a, [] => by
    show Lib.join [a, x] [44, 32] = _
    rw [join_cons2, Lib.join_one, Lib.join_one]
  | a, b :: r => by
    have ih := join_snoc x b r
    show Lib.join (a :: b :: (r ++ [x])) [44, 32] = _
    rw [join_cons2, join_cons2]
    have e : b :: (r ++ [x]) = (b :: r) ++ [x] := rfl
    rw [e, ih]
    simp
theorem join_take (q : List (List UInt8)) (i : Nat) (x : List UInt8) (h : q[i]? = some x) : Lib.join (q.take (i + 1)) [44, 32] = if i = 0 then x else Lib.join (q.take i) [44, 32] ++ ([44, 32] ++ x) := by
  have hi := (List.getElem?_eq_some_iff.1 h).1
  rw [List.take_add_one, h, Option.toList_some]
  by_cases h0 : i = 0
  · subst h0; rw [if_pos rfl]; exact Lib.join_one x _
  · rw [if_neg h0]
    cases ht : q.take i with
    | nil => exfalso; have := congrArg List.length ht; rw [List.length_take, Nat.min_eq_left (Nat.le_of_lt hi)] at this; exact h0 this
    | cons a r => exact join_snoc x a r
theorem take_sum (q : List (List UInt8)) (i : Nat) : ((q.take i).map List.length).sum ≤ (q.map List.length).sum := by
  have h := congrArg (fun l => (l.map List.length).sum) (List.take_append_drop i q)
  simp only [List.map_append, List.sum_append] at h
  omega
theorem jn_len (n : List UInt8) (l : List Fld) (i : Nat) (hN : l.length ≤ 4194304) (hT : totF l ≤ 4194304) : (Lib.join ((allF n l).take i) [44, 32]).length ≤ 12582912 := by
  have h1 := join_len ((allF n l).take i)
  have h2 := take_sum (allF n l) i
  have h3 := allF_sum n l
  have h4 := allF_len n l
  rw [List.length_take] at h1
  omega
theorem jn_len' (n : List UInt8) (l : List Fld) (hN : l.length ≤ 4194304) (hT : totF l ≤ 4194304) : (jnF n l).length ≤ 12582912 := by
  have := jn_len n l (allF n l).length hN hT
  rwa [List.take_length] at this
theorem ojoin18_any {w : World} {base : Nat} {v : Value} (q : List (List UInt8)) (h : w.ownsRow base 9 1 v q.length (strV q)) (hN : q.length ≤ 140737488355328) (hlen : (Lib.join q [44, 32]).length ≤ 140737488355328) :
    Calls Tryz.prog 77 #[v] w fun e w' => e = .returned (.string ⟨(Lib.join q [44, 32]).toArray⟩) ∧ Below w.heap.size w w' := by
  have HJ := Lib.hid (join_own q ⟨#[44, 32]⟩ h hN hlen)
  clear h hN hlen
  go_enter Tryz.func77, Tryz.ntmps77
  go_wp2_with fail
  refine (HJ.out).mono ?_
  rintro e w1 ⟨rfl, hb⟩
  go_wp2
  go_ret
  exact ⟨rfl, hb⟩
set_option maxHeartbeats 4000000 in
theorem ojoined_any (v : Value) (l : List Fld) (n : List UInt8) (w : World) (hN : l.length ≤ 4194304) (hT : totF l ≤ 4194304) (hn : n.length ≤ 1099511627776) (h : FldsIn w v l) :
    Calls Tryz.prog 43 #[v, .string ⟨n.toArray⟩] w fun e w' => e = .returned (.tuple #[.string ⟨(jnF n l).toArray⟩, .bool (hsF n l)]) ∧ Below w.heap.size w w' := by
  have HO := Lib.hid (oall_any v l n w hN hT hn h)
  have hjl := jn_len' n l hN hT
  have hal := allF_len n l
  unfold jnF at hjl
  unfold jnF hsF
  obtain ⟨q, hq⟩ : ∃ q, allF n l = q := ⟨_, rfl⟩
  rw [hq] at HO hjl hal ⊢
  have HQ := Lib.hid (And.intro (show q.length ≤ 140737488355328 by omega) (show (Lib.join q [44, 32]).length ≤ 140737488355328 by omega))
  clear hjl hal hN hT hn h hq
  go_enter Tryz.func43, Tryz.ntmps43
  go_wp2_with fail
  refine (HO.out).mono ?_
  rintro e w1 ⟨v', rfl, hown, hb1⟩
  have HJ := Lib.hid (ojoin18_any q hown HQ.out.1 HQ.out.2)
  obtain ⟨ao, cap, rfl⟩ := strs_shape hown
  clear hown
  go_wp2_with fail
  refine (HJ.out).mono ?_
  rintro e w2 ⟨rfl, hb2⟩
  have HB := Lib.hid (hb1.trans (hb2.mono hb1.size))
  clear hb1 hb2
  go_wp2
  go_ret2
  refine ⟨?_, HB.out⟩
  congr 3
set_option maxHeartbeats 4000000 in
theorem rjoined_any (v : Value) (l : List Fld) (n : List UInt8) (w : World) (hN : l.length ≤ 4194304) (hT : totF l ≤ 4194304) (hn : n.length ≤ 1099511627776) (h : FldsIn w v l) :
    Calls Tryz.prog 44 #[v, .string ⟨n.toArray⟩] w fun e w' => e = .returned (.tuple #[.string ⟨(jnF n l).toArray⟩, .bool (hsF n l)]) ∧ Below w.heap.size w w' := by
  have HO := Lib.hid (rall_any v l n w hN hT hn h)
  have hjl := fun i => jn_len n l i hN hT
  have hal := allF_len n l
  unfold jnF hsF
  obtain ⟨q, hq⟩ : ∃ q, allF n l = q := ⟨_, rfl⟩
  rw [hq] at HO hjl hal ⊢
  have HQ := Lib.hid hjl
  have hqs : q.length ≤ 4194304 := by omega
  clear hjl hal hN hT hn h hq
  go_enter Tryz.func44, Tryz.ntmps44
  go_wp2_with fail
  refine (HO.out).mono ?_
  rintro e w1 ⟨v', rfl, hown, hb1⟩
  have HW := Lib.hid (And.intro hown hb1)
  obtain ⟨ao, cap, rfl⟩ := strs_shape hown
  clear hown hb1
  go_wp2
  go_loopw [15, 7] (fun iv jv wr => ∃ i : Nat, iv = .int .i64 i ∧ i ≤ q.length ∧ jv = .string ⟨(Lib.join (q.take i) [44, 32]).toArray⟩ ∧ Below w1.heap.size w1 wr) (fun iv _ _ => q.length - (intOf iv).toNat)
  case atStart => exact ⟨0, rfl, Nat.zero_le _, rfl, Below.refl _ _⟩
  case round =>
    obtain ⟨i, rfl, hi, rfl, hb⟩ := hrel
    have i0 : (0 : Int) ≤ (i : Int) := Int.natCast_nonneg _
    by_cases hil : i < q.length
    case neg =>
      obtain rfl : i = q.length := by omega
      have hd : decide (q.length < q.length) = false := decide_eq_false (Nat.lt_irrefl _)
      rw [List.take_length]
      have HB := Lib.hid (HW.out.2.trans (hb.mono HW.out.2.size))
      clear hb
      go_wp2
      go_ret2
      refine ⟨?_, HB.out⟩
      congr 3
    have i1 : (i : Int) < (q.length : Int) := by omega
    obtain ⟨x, hx⟩ : ∃ x, q[i]? = some x := ⟨_, List.getElem?_eq_getElem hil⟩
    obtain ⟨g, cap', ev, hg, hcell⟩ := strs_cell HW.out.1 (by omega)
    injection ev with ev1 _ ev3
    subst ev1
    subst ev3
    have d0 : wr.cell? ⟨g, i, none⟩ = some (.string ⟨x.toArray⟩) := by rw [hb.cell (p := ⟨g, i, none⟩) hg]; exact hcell i x hx
    have hsn := join_take q i x hx
    have hln := HQ.out (i + 1)
    obtain ⟨J, hJ⟩ : ∃ J, Lib.join (q.take i) [44, 32] = J := ⟨_, rfl⟩
    rw [hJ] at hsn ⊢
    have hwi : wrap64 ((i : Int) + 1) = (i : Int) + 1 := wrap64_small i (by omega)
    by_cases h0 : i = 0
    · rw [if_pos h0] at hsn
      have hJ0 : J = [] := by rw [← hJ, h0]; rfl
      subst hJ0
      have z0 : ¬ (0 : Int) < (i : Int) := by omega
      rw [hsn] at hln
      have l1 : ¬ 9223372036854775807 < 0 + x.length := by omega
      have HX := Lib.hid (And.intro hsn (And.intro hb hwi))
      clear hsn hln hb hwi h0 hx hcell hJ
      go_wp2
      have hwi := HX.out.2.2
      go_roundw
      case rel => (try rw [hwi]); clear hwi; exact ⟨i + 1, by go_num, hil, by rw [HX.out.1]; first | rfl | (congr 1; exact ba_ext (by simp)), HX.out.2.1⟩
      case measure => (try rw [hwi]); clear hwi; simp [intOf]; omega
    · rw [if_neg h0] at hsn
      have z0 : (0 : Int) < (i : Int) := by omega
      rw [hsn, List.length_append, List.length_append] at hln
      have l0 : ¬ 9223372036854775807 < J.length + 2 := by simp at hln; omega
      obtain ⟨D, hD⟩ : ∃ D, J ++ [44, 32] = D := ⟨_, rfl⟩
      have l1 : ¬ 9223372036854775807 < D.length + x.length := by rw [← hD]; simp at hln ⊢; omega
      have e1 : (⟨J.toArray⟩ : ByteArray) ++ ⟨#[44, 32]⟩ = ⟨D.toArray⟩ := by rw [← hD]; exact ba_ext (by simp)
      rw [← List.append_assoc, hD] at hsn
      have HX := Lib.hid (And.intro hsn (And.intro hb hwi))
      clear hsn hln hb hwi h0 hx hcell hJ hD
      go_wp2
      have hwi := HX.out.2.2
      go_roundw
      case rel => (try rw [hwi]); clear hwi; exact ⟨i + 1, by go_num, hil, by rw [HX.out.1]; first | rfl | (congr 1; exact ba_ext (by simp)), HX.out.2.1⟩
      case measure => (try rw [hwi]); clear hwi; simp [intOf]; omega
def acL : List UInt8 := [65, 99, 99, 101, 112, 116]
def aeL : List UInt8 := [65, 99, 99, 101, 112, 116, 45, 69, 110, 99, 111, 100, 105, 110, 103]
def alL : List UInt8 := [65, 99, 99, 101, 112, 116, 45, 76, 97, 110, 103, 117, 97, 103, 101]
def wC (a b c : List UInt8) (x y z : Bool) : Array Value := #[.string ⟨a.toArray⟩, .string ⟨b.toArray⟩, .string ⟨c.toArray⟩, .bool x, .bool y, .bool z]
def wshC (l : List Fld) : Array Value := wC (jnF acL l) (jnF aeL l) (jnF alL l) (hsF acL l) (hsF aeL l) (hsF alL l)
theorem twoBelow {B : Nat} {w W : World} {p : Nat} (h : Below B w W) (hp : B ≤ p) (i j : Nat) (u0 u1 : Value) :
    Below B w ((W.setCell ⟨p, i, none⟩ u0).setCell ⟨p, j, none⟩ u1) := (h.setCell (p := ⟨p, i, none⟩) hp _).setCell (p := ⟨p, j, none⟩) hp _
theorem sixBelow {B : Nat} {w W : World} {p : Nat} (h : Below B w W) (hp : B ≤ p) (u0 u1 u2 u3 u4 u5 : Value) :
    Below B w ((((((W.setCell ⟨p, 0, none⟩ u0).setCell ⟨p, 1, none⟩ u1).setCell ⟨p, 2, none⟩ u2).setCell ⟨p, 3, none⟩ u3).setCell ⟨p, 4, none⟩ u4).setCell ⟨p, 5, none⟩ u5) :=
  twoBelow (twoBelow (twoBelow h hp 0 1 u0 u1) hp 2 3 u2 u3) hp 4 5 u4 u5
theorem six_of (z : Array Value) (h : z.size = 6) : ∃ a b c d e f, z = #[a, b, c, d, e, f] := by
  obtain ⟨l⟩ := z
  rcases l with _ | ⟨a, _ | ⟨b, _ | ⟨c, _ | ⟨d, _ | ⟨e, _ | ⟨f, _ | ⟨g, r⟩⟩⟩⟩⟩⟩⟩
  all_goals first | exact ⟨a, b, c, d, e, f, rfl⟩ | (exfalso; simp at h; done) | (exfalso; simp at h; omega)
theorem sixSet {W : World} {p : Nat} {z : Array Value} {T : TypeId} (h : BlkIs W p z T) (hz : z.size = 6) (u0 u1 u2 u3 u4 u5 : Value) :
    BlkIs ((((((W.setCell ⟨p, 0, none⟩ u0).setCell ⟨p, 1, none⟩ u1).setCell ⟨p, 2, none⟩ u2).setCell ⟨p, 3, none⟩ u3).setCell ⟨p, 4, none⟩ u4).setCell ⟨p, 5, none⟩ u5) p #[u0, u1, u2, u3, u4, u5] T := by
  have h8 := (((((h.set 0 u0).set 1 u1).set 2 u2).set 3 u3).set 4 u4).set 5 u5
  have e : (((((z.setIfInBounds 0 u0).setIfInBounds 1 u1).setIfInBounds 2 u2).setIfInBounds 3 u3).setIfInBounds 4 u4).setIfInBounds 5 u5 = #[u0, u1, u2, u3, u4, u5] := by
    obtain ⟨a, b, c, d, e, f, rfl⟩ := six_of z hz
    rfl
  rw [e] at h8
  exact h8
def zW_owish_any : Array Value := wC [] [] [] false false false
set_option maxHeartbeats 8000000 in
theorem owish_any (v : Value) (l : List Fld) (w : World) (hN : l.length ≤ 4194304) (hT : totF l ≤ 4194304) (h : FldsIn w v l) :
    Calls Tryz.prog 19 #[v] w fun e w' => e = .returned (.agg (wshC l)) ∧ Below w.heap.size w w' := by
  have HJ := Lib.hid (fun (n : List UInt8) (W : World) (hb : Below w.heap.size w W) (hn : n.length ≤ 1099511627776) => ojoined_any v l n W hN hT hn (h.below hb))
  obtain ⟨p, hp⟩ : ∃ p, w.heap.size = p := ⟨_, rfl⟩
  obtain ⟨lb, hlb⟩ : ∃ lb, p + 1 = lb := ⟨_, rfl⟩
  obtain ⟨wa, hwa⟩ : ∃ W, (w.alloc (.cells zW_owish_any 54)).alloc (.cells zW_owish_any 54) = W := ⟨_, rfl⟩
  have Hwa := Lib.hid (show Below w.heap.size w wa ∧ BlkIs wa p zW_owish_any 54 ∧ BlkIs wa lb (wC [] [] [] false false false) 54 by
    rw [← hwa, ← hlb, ← hp]
    refine ⟨((Below.refl _ w).alloc (Nat.le_refl _) _).alloc (by simp) _, (blkIs_new w _ _).alloc _, ?_⟩
    have := blkIs_new (w.alloc (.cells zW_owish_any 54)) zW_owish_any 54
    rwa [World.size_alloc] at this)
  have HN := Lib.hid (show p ≠ lb ∧ w.heap.size ≤ lb by omega)
  have HW := Lib.hid (show (w.alloc (.cells #[.string ⟨#[]⟩, .string ⟨#[]⟩, .string ⟨#[]⟩, .bool false, .bool false, .bool false] 54)).alloc (.cells #[.string ⟨#[]⟩, .string ⟨#[]⟩, .string ⟨#[]⟩, .bool false, .bool false, .bool false] 54) = wa from hwa); have HP := Lib.hid (And.intro hp hlb)
  clear hN hT h hwa
  go_enter Tryz.func19, Tryz.ntmps19
  go_upto_region 2 with fail
  rw [HW.out]
  go_upto_region 2 with fail
  go_wp2_with fail
  refine (HJ.out acL wa Hwa.out.1 (by decide)).mono ?_
  rintro e vwb ⟨rfl, hb⟩
  have hP := Hwa.out.2.1.later hb
  have hL := Hwa.out.2.2.later hb
  have hw := Hwa.out.1.trans (hb.mono Hwa.out.1.size)
  clear hb
  have y0 := hL.free 0
  have y1 := hL.free 3
  have x0 := hL.cell 0 _ rfl
  have x1 := hL.cell 3 _ rfl
  obtain ⟨wb, hwb⟩ : ∃ W, (vwb.setCell ⟨lb, 0, none⟩ (.string ⟨(jnF acL l).toArray⟩)).setCell ⟨lb, 3, none⟩ (.bool (hsF acL l)) = W := ⟨_, rfl⟩
  have Hwb := Lib.hid (show Below w.heap.size w wb ∧ BlkIs wb p zW_owish_any 54 ∧ BlkIs wb lb (wC (jnF acL l) ([]) ([]) (hsF acL l) (false) (false)) 54 by
    rw [← hwb]
    refine ⟨twoBelow hw HN.out.2 0 3 _ _, (hP.setOther ⟨lb, 0, none⟩ _ HN.out.1).setOther ⟨lb, 3, none⟩ _ HN.out.1, ?_⟩
    exact (hL.set 0 (.string ⟨(jnF acL l).toArray⟩)).set 3 (.bool (hsF acL l)))
  have HE := Lib.hid hwb
  clear hP hL hw hwb
  go_upto_region 3 with fail
  rw [HE.out]
  clear HE y0 y1 x0 x1
  go_wp2_with fail
  refine (HJ.out aeL wb Hwb.out.1 (by decide)).mono ?_
  rintro e vwc ⟨rfl, hb⟩
  have hP := Hwb.out.2.1.later hb
  have hL := Hwb.out.2.2.later hb
  have hw := Hwb.out.1.trans (hb.mono Hwb.out.1.size)
  clear hb
  have y0 := hL.free 1
  have y1 := hL.free 4
  have x0 := hL.cell 1 _ rfl
  have x1 := hL.cell 4 _ rfl
  obtain ⟨wc, hwc⟩ : ∃ W, (vwc.setCell ⟨lb, 1, none⟩ (.string ⟨(jnF aeL l).toArray⟩)).setCell ⟨lb, 4, none⟩ (.bool (hsF aeL l)) = W := ⟨_, rfl⟩
  have Hwc := Lib.hid (show Below w.heap.size w wc ∧ BlkIs wc p zW_owish_any 54 ∧ BlkIs wc lb (wC (jnF acL l) (jnF aeL l) ([]) (hsF acL l) (hsF aeL l) (false)) 54 by
    rw [← hwc]
    refine ⟨twoBelow hw HN.out.2 1 4 _ _, (hP.setOther ⟨lb, 1, none⟩ _ HN.out.1).setOther ⟨lb, 4, none⟩ _ HN.out.1, ?_⟩
    exact (hL.set 1 (.string ⟨(jnF aeL l).toArray⟩)).set 4 (.bool (hsF aeL l)))
  have HE := Lib.hid hwc
  clear hP hL hw hwc
  go_upto_region 4 with fail
  rw [HE.out]
  clear HE y0 y1 x0 x1
  go_wp2_with fail
  refine (HJ.out alL wc Hwc.out.1 (by decide)).mono ?_
  rintro e vwd ⟨rfl, hb⟩
  have hP := Hwc.out.2.1.later hb
  have hL := Hwc.out.2.2.later hb
  have hw := Hwc.out.1.trans (hb.mono Hwc.out.1.size)
  clear hb
  have y0 := hL.free 2
  have y1 := hL.free 5
  have x0 := hL.cell 2 _ rfl
  have x1 := hL.cell 5 _ rfl
  obtain ⟨wd, hwd⟩ : ∃ W, (vwd.setCell ⟨lb, 2, none⟩ (.string ⟨(jnF alL l).toArray⟩)).setCell ⟨lb, 5, none⟩ (.bool (hsF alL l)) = W := ⟨_, rfl⟩
  have Hwd := Lib.hid (show Below w.heap.size w wd ∧ BlkIs wd p zW_owish_any 54 ∧ BlkIs wd lb (wC (jnF acL l) (jnF aeL l) (jnF alL l) (hsF acL l) (hsF aeL l) (hsF alL l)) 54 by
    rw [← hwd]
    refine ⟨twoBelow hw HN.out.2 2 5 _ _, (hP.setOther ⟨lb, 2, none⟩ _ HN.out.1).setOther ⟨lb, 5, none⟩ _ HN.out.1, ?_⟩
    exact (hL.set 2 (.string ⟨(jnF alL l).toArray⟩)).set 5 (.bool (hsF alL l)))
  have HE := Lib.hid hwd
  clear hP hL hw hwd
  go_upto_region 5 with fail
  rw [HE.out]
  clear HE y0 y1 x0 x1
  have hP := Hwd.out.2.1
  have hL := Hwd.out.2.2
  have y0 := hP.free 0
  have x0 : wd.cell? ⟨lb, 0, none⟩ = some (.string ⟨(jnF acL l).toArray⟩) := hL.cell 0 _ rfl
  have u0 : wd.cell? ⟨p, 0, none⟩ = some (.string ⟨#[]⟩) := hP.cell 0 _ rfl
  have y1 := hP.free 1
  have x1 : wd.cell? ⟨lb, 1, none⟩ = some (.string ⟨(jnF aeL l).toArray⟩) := hL.cell 1 _ rfl
  have u1 : wd.cell? ⟨p, 1, none⟩ = some (.string ⟨#[]⟩) := hP.cell 1 _ rfl
  have y2 := hP.free 2
  have x2 : wd.cell? ⟨lb, 2, none⟩ = some (.string ⟨(jnF alL l).toArray⟩) := hL.cell 2 _ rfl
  have u2 : wd.cell? ⟨p, 2, none⟩ = some (.string ⟨#[]⟩) := hP.cell 2 _ rfl
  have y3 := hP.free 3
  have x3 : wd.cell? ⟨lb, 3, none⟩ = some (.bool (hsF acL l)) := hL.cell 3 _ rfl
  have u3 : wd.cell? ⟨p, 3, none⟩ = some (.bool false) := hP.cell 3 _ rfl
  have y4 := hP.free 4
  have x4 : wd.cell? ⟨lb, 4, none⟩ = some (.bool (hsF aeL l)) := hL.cell 4 _ rfl
  have u4 : wd.cell? ⟨p, 4, none⟩ = some (.bool false) := hP.cell 4 _ rfl
  have y5 := hP.free 5
  have x5 : wd.cell? ⟨lb, 5, none⟩ = some (.bool (hsF alL l)) := hL.cell 5 _ rfl
  have u5 : wd.cell? ⟨p, 5, none⟩ = some (.bool false) := hP.cell 5 _ rfl
  have HF := Lib.hid (And.intro (sixSet hP rfl (.string ⟨(jnF acL l).toArray⟩) (.string ⟨(jnF aeL l).toArray⟩) (.string ⟨(jnF alL l).toArray⟩) (.bool (hsF acL l)) (.bool (hsF aeL l)) (.bool (hsF alL l))) (sixBelow Hwd.out.1 (Nat.le_of_eq HP.out.1) (.string ⟨(jnF acL l).toArray⟩) (.string ⟨(jnF aeL l).toArray⟩) (.string ⟨(jnF alL l).toArray⟩) (.bool (hsF acL l)) (.bool (hsF aeL l)) (.bool (hsF alL l))))
  clear hP hL
  go_wp2
  refine bodyPost_ret (v := .agg (wshC l)) ?r rfl ⟨rfl, HF.out.2⟩
  case r => exact results_cell_row rfl _ _ p 54 _ (0, 0) _ rfl HF.out.1 Tryz.underlying54 rfl (by kernel_rfl)
def zW_rwish_any : Array Value := wC [] [] [] false false false
set_option maxHeartbeats 8000000 in
theorem rwish_any (v : Value) (l : List Fld) (w : World) (hN : l.length ≤ 4194304) (hT : totF l ≤ 4194304) (h : FldsIn w v l) :
    Calls Tryz.prog 20 #[v] w fun e w' => e = .returned (.agg (wshC l)) ∧ Below w.heap.size w w' := by
  have HJ := Lib.hid (fun (n : List UInt8) (W : World) (hb : Below w.heap.size w W) (hn : n.length ≤ 1099511627776) => rjoined_any v l n W hN hT hn (h.below hb))
  obtain ⟨p, hp⟩ : ∃ p, w.heap.size = p := ⟨_, rfl⟩
  obtain ⟨lb, hlb⟩ : ∃ lb, p + 1 = lb := ⟨_, rfl⟩
  obtain ⟨wa, hwa⟩ : ∃ W, (w.alloc (.cells zW_rwish_any 56)).alloc (.cells zW_rwish_any 56) = W := ⟨_, rfl⟩
  have Hwa := Lib.hid (show Below w.heap.size w wa ∧ BlkIs wa p zW_rwish_any 56 ∧ BlkIs wa lb (wC [] [] [] false false false) 56 by
    rw [← hwa, ← hlb, ← hp]
    refine ⟨((Below.refl _ w).alloc (Nat.le_refl _) _).alloc (by simp) _, (blkIs_new w _ _).alloc _, ?_⟩
    have := blkIs_new (w.alloc (.cells zW_rwish_any 56)) zW_rwish_any 56
    rwa [World.size_alloc] at this)
  have HN := Lib.hid (show p ≠ lb ∧ w.heap.size ≤ lb by omega)
  have HW := Lib.hid (show (w.alloc (.cells #[.string ⟨#[]⟩, .string ⟨#[]⟩, .string ⟨#[]⟩, .bool false, .bool false, .bool false] 56)).alloc (.cells #[.string ⟨#[]⟩, .string ⟨#[]⟩, .string ⟨#[]⟩, .bool false, .bool false, .bool false] 56) = wa from hwa); have HP := Lib.hid (And.intro hp hlb)
  clear hN hT h hwa
  go_enter Tryz.func20, Tryz.ntmps20
  go_upto_region 2 with fail
  rw [HW.out]
  go_upto_region 2 with fail
  go_wp2_with fail
  refine (HJ.out acL wa Hwa.out.1 (by decide)).mono ?_
  rintro e vwb ⟨rfl, hb⟩
  have hP := Hwa.out.2.1.later hb
  have hL := Hwa.out.2.2.later hb
  have hw := Hwa.out.1.trans (hb.mono Hwa.out.1.size)
  clear hb
  have y0 := hL.free 0
  have y1 := hL.free 3
  have x0 := hL.cell 0 _ rfl
  have x1 := hL.cell 3 _ rfl
  obtain ⟨wb, hwb⟩ : ∃ W, (vwb.setCell ⟨lb, 0, none⟩ (.string ⟨(jnF acL l).toArray⟩)).setCell ⟨lb, 3, none⟩ (.bool (hsF acL l)) = W := ⟨_, rfl⟩
  have Hwb := Lib.hid (show Below w.heap.size w wb ∧ BlkIs wb p zW_rwish_any 56 ∧ BlkIs wb lb (wC (jnF acL l) ([]) ([]) (hsF acL l) (false) (false)) 56 by
    rw [← hwb]
    refine ⟨twoBelow hw HN.out.2 0 3 _ _, (hP.setOther ⟨lb, 0, none⟩ _ HN.out.1).setOther ⟨lb, 3, none⟩ _ HN.out.1, ?_⟩
    exact (hL.set 0 (.string ⟨(jnF acL l).toArray⟩)).set 3 (.bool (hsF acL l)))
  have HE := Lib.hid hwb
  clear hP hL hw hwb
  go_upto_region 3 with fail
  rw [HE.out]
  clear HE y0 y1 x0 x1
  go_wp2_with fail
  refine (HJ.out aeL wb Hwb.out.1 (by decide)).mono ?_
  rintro e vwc ⟨rfl, hb⟩
  have hP := Hwb.out.2.1.later hb
  have hL := Hwb.out.2.2.later hb
  have hw := Hwb.out.1.trans (hb.mono Hwb.out.1.size)
  clear hb
  have y0 := hL.free 1
  have y1 := hL.free 4
  have x0 := hL.cell 1 _ rfl
  have x1 := hL.cell 4 _ rfl
  obtain ⟨wc, hwc⟩ : ∃ W, (vwc.setCell ⟨lb, 1, none⟩ (.string ⟨(jnF aeL l).toArray⟩)).setCell ⟨lb, 4, none⟩ (.bool (hsF aeL l)) = W := ⟨_, rfl⟩
  have Hwc := Lib.hid (show Below w.heap.size w wc ∧ BlkIs wc p zW_rwish_any 56 ∧ BlkIs wc lb (wC (jnF acL l) (jnF aeL l) ([]) (hsF acL l) (hsF aeL l) (false)) 56 by
    rw [← hwc]
    refine ⟨twoBelow hw HN.out.2 1 4 _ _, (hP.setOther ⟨lb, 1, none⟩ _ HN.out.1).setOther ⟨lb, 4, none⟩ _ HN.out.1, ?_⟩
    exact (hL.set 1 (.string ⟨(jnF aeL l).toArray⟩)).set 4 (.bool (hsF aeL l)))
  have HE := Lib.hid hwc
  clear hP hL hw hwc
  go_upto_region 4 with fail
  rw [HE.out]
  clear HE y0 y1 x0 x1
  go_wp2_with fail
  refine (HJ.out alL wc Hwc.out.1 (by decide)).mono ?_
  rintro e vwd ⟨rfl, hb⟩
  have hP := Hwc.out.2.1.later hb
  have hL := Hwc.out.2.2.later hb
  have hw := Hwc.out.1.trans (hb.mono Hwc.out.1.size)
  clear hb
  have y0 := hL.free 2
  have y1 := hL.free 5
  have x0 := hL.cell 2 _ rfl
  have x1 := hL.cell 5 _ rfl
  obtain ⟨wd, hwd⟩ : ∃ W, (vwd.setCell ⟨lb, 2, none⟩ (.string ⟨(jnF alL l).toArray⟩)).setCell ⟨lb, 5, none⟩ (.bool (hsF alL l)) = W := ⟨_, rfl⟩
  have Hwd := Lib.hid (show Below w.heap.size w wd ∧ BlkIs wd p zW_rwish_any 56 ∧ BlkIs wd lb (wC (jnF acL l) (jnF aeL l) (jnF alL l) (hsF acL l) (hsF aeL l) (hsF alL l)) 56 by
    rw [← hwd]
    refine ⟨twoBelow hw HN.out.2 2 5 _ _, (hP.setOther ⟨lb, 2, none⟩ _ HN.out.1).setOther ⟨lb, 5, none⟩ _ HN.out.1, ?_⟩
    exact (hL.set 2 (.string ⟨(jnF alL l).toArray⟩)).set 5 (.bool (hsF alL l)))
  have HE := Lib.hid hwd
  clear hP hL hw hwd
  go_upto_region 5 with fail
  rw [HE.out]
  clear HE y0 y1 x0 x1
  have hP := Hwd.out.2.1
  have hL := Hwd.out.2.2
  have y0 := hP.free 0
  have x0 : wd.cell? ⟨lb, 0, none⟩ = some (.string ⟨(jnF acL l).toArray⟩) := hL.cell 0 _ rfl
  have u0 : wd.cell? ⟨p, 0, none⟩ = some (.string ⟨#[]⟩) := hP.cell 0 _ rfl
  have y1 := hP.free 1
  have x1 : wd.cell? ⟨lb, 1, none⟩ = some (.string ⟨(jnF aeL l).toArray⟩) := hL.cell 1 _ rfl
  have u1 : wd.cell? ⟨p, 1, none⟩ = some (.string ⟨#[]⟩) := hP.cell 1 _ rfl
  have y2 := hP.free 2
  have x2 : wd.cell? ⟨lb, 2, none⟩ = some (.string ⟨(jnF alL l).toArray⟩) := hL.cell 2 _ rfl
  have u2 : wd.cell? ⟨p, 2, none⟩ = some (.string ⟨#[]⟩) := hP.cell 2 _ rfl
  have y3 := hP.free 3
  have x3 : wd.cell? ⟨lb, 3, none⟩ = some (.bool (hsF acL l)) := hL.cell 3 _ rfl
  have u3 : wd.cell? ⟨p, 3, none⟩ = some (.bool false) := hP.cell 3 _ rfl
  have y4 := hP.free 4
  have x4 : wd.cell? ⟨lb, 4, none⟩ = some (.bool (hsF aeL l)) := hL.cell 4 _ rfl
  have u4 : wd.cell? ⟨p, 4, none⟩ = some (.bool false) := hP.cell 4 _ rfl
  have y5 := hP.free 5
  have x5 : wd.cell? ⟨lb, 5, none⟩ = some (.bool (hsF alL l)) := hL.cell 5 _ rfl
  have u5 : wd.cell? ⟨p, 5, none⟩ = some (.bool false) := hP.cell 5 _ rfl
  have HF := Lib.hid (And.intro (sixSet hP rfl (.string ⟨(jnF acL l).toArray⟩) (.string ⟨(jnF aeL l).toArray⟩) (.string ⟨(jnF alL l).toArray⟩) (.bool (hsF acL l)) (.bool (hsF aeL l)) (.bool (hsF alL l))) (sixBelow Hwd.out.1 (Nat.le_of_eq HP.out.1) (.string ⟨(jnF acL l).toArray⟩) (.string ⟨(jnF aeL l).toArray⟩) (.string ⟨(jnF alL l).toArray⟩) (.bool (hsF acL l)) (.bool (hsF aeL l)) (.bool (hsF alL l))))
  clear hP hL
  go_wp2
  refine bodyPost_ret (v := .agg (wshC l)) ?r rfl ⟨rfl, HF.out.2⟩
  case r => exact results_cell_row rfl _ _ p 56 _ (0, 0) _ rfl HF.out.1 Tryz.underlying56 rfl (by kernel_rfl)
end Go.Proofs.YtdlpbpikhmciaaaGreatDoor
