/- The walk of a socket handler's method at a request by GET of version 1.1. Conditions: the fields are small; the tables hold what the texts lay. -/
import Derived.Test.YtdlpbpikhmciaaaGreatDoorPk12
import Derived.Test.YtdlpbpikhmciaaaGreatDoorPa16
import Derived.Test.YtdlpbpikhmciaaaGreatDoorPa17
import Derived.Test.YtdlpbpikhmciaaaGreatDoorPa24
import Derived.Test.YtdlpbpikhmciaaaGreatDoorPk06
namespace Go.Proofs.YtdlpbpikhmciaaaGreatDoor
open Go.RowKit
set_option linter.unusedSimpArgs false
set_option linter.unusedVariables false
set_option maxRecDepth 1000000
def upN : List UInt8 := [85, 112, 103, 114, 97, 100, 101]
def wsN : List UInt8 := [119, 101, 98, 115, 111, 99, 107, 101, 116]
def coN : List UInt8 := [67, 111, 110, 110, 101, 99, 116, 105, 111, 110]
def ulN : List UInt8 := [117, 112, 103, 114, 97, 100, 101]
def uuN : List UInt8 := [85, 112, 103, 114, 97, 100, 101]
def veN : List UInt8 := [83, 101, 99, 45, 87, 101, 98, 83, 111, 99, 107, 101, 116, 45, 86, 101, 114, 115, 105, 111, 110]
def keN : List UInt8 := [83, 101, 99, 45, 87, 101, 98, 83, 111, 99, 107, 101, 116, 45, 75, 101, 121]
def acN : List UInt8 := [83, 101, 99, 45, 87, 101, 98, 83, 111, 99, 107, 101, 116, 45, 65, 99, 99, 101, 112, 116]
def v13 : List UInt8 := [49, 51]
abbrev SkRes := Int × List Fld × List UInt8
def sk4 (st : Int) (l : List Fld) : SkRes := (st, (ctL, tpL) :: l, plT st ++ [10])
def skK (k : List UInt8) : SkRes := if (accP k).2 = 0 then (101, [(upN, wsN), (coN, uuN), (acN, (accP k).1)], []) else sk4 400 []
def skM (V : List (List UInt8)) : SkRes := match V with
  | [k] => skK k
  | _ => sk4 400 []
/-- What a socket handler answers. -/
def skR (l : List Fld) : SkRes :=
  if hasF l upN wsN = true ∧ hasF l coN ulN = true then
    if allF veN l = [v13] then skM (allF keN l)
    else sk4 426 [(veN, v13)]
  else sk4 426 [(upN, wsN), (coN, uuN)]
theorem fldRow_own {W : World} {b : Nat} {v : Value} {L : List Fld} {n : Nat} (hn : n = L.length) (h : W.ownsRow b 43 2 v n (fldsV L)) : FldRow W v L := by
  subst hn
  rcases h.2 with ⟨hv, h0⟩ | ⟨g, cap, cur, hv, _, hg, _, _, _, ht⟩
  · exact .inl ⟨List.eq_nil_of_length_eq_zero h0, hv⟩
  · refine .inr ⟨g, cur, cap, (0, 0), hv, hg, fun i p hp => ?_⟩
    have hi : i < L.length := (List.getElem?_eq_some_iff.1 hp).1
    obtain ⟨g0, g1⟩ := fldsV_get L i p hp
    rw [← ht] at g0 g1
    rw [List.getElem?_take, if_pos (by omega)] at g0 g1
    exact ⟨by simpa using g0, by simpa using g1⟩
theorem fldsIn_nil (W : World) : FldsIn W (.slice none 0 0) [] := ⟨none, 0, rfl, fun i p hp => by simp at hp⟩
theorem fldsIn_new {W : World} {g n : Nat} {cs : Array Value} {L : List Fld} (hn : n = L.length) (h : BlkIs W g cs 43) (hc : cs.toList = fldsV L) : FldsIn W (.slice (some ⟨g, 0, none⟩) n n) L := by
  subst hn
  refine ⟨_, _, rfl, fun i p hp => ?_⟩
  obtain ⟨g0, g1⟩ := fldsV_get L i p hp
  rw [← hc] at g0 g1
  exact ⟨g, 0, rfl, h.lt, by rw [Nat.zero_add]; exact h.cell _ _ (by simpa using g0), by rw [Nat.zero_add]; exact h.cell _ _ (by simpa using g1)⟩
theorem one_of {A : Type} (l : List A) (h : ¬ l.length = 1) (x : A) : l ≠ [x] := fun e => h (by rw [e]; rfl)
theorem len1 {A : Type} (l : List A) (h : l.length = 1) : ∃ x, l = [x] := by
  match l, h with
  | [x], _ => exact ⟨x, rfl⟩
theorem skm_no (V : List (List UInt8)) (hv : V.length ≠ 1) : skM V = sk4 400 [] := by
  match V, hv with
  | [], _ => rfl
  | [x], hv => exact absurd rfl hv
  | _ :: _ :: _, _ => rfl
abbrev rqC (ta : ByteArray) (fs : Value) : Array Value := #[.string ⟨#[71, 69, 84]⟩, .string ta, .int .i64 1, .int .i64 1, fs, .string ⟨#[]⟩, .slice none 0 0]
abbrev upC : Array Value := #[.string ⟨#[85, 112, 103, 114, 97, 100, 101]⟩, .string ⟨#[119, 101, 98, 115, 111, 99, 107, 101, 116]⟩]
/-- What stays through the whole method. -/
def SkI (w : World) (p q u : Nat) (ta : ByteArray) (ao : Option Addr) (n c : Nat) (l : List Fld) (W : World) : Prop :=
  BlkIs W p zR 46 ∧ BlkIs W q (rqC ta (.slice ao n c)) 64 ∧ BlkIs W u upC 43 ∧ Below w.heap.size w W ∧ FldsIn W (.slice ao n c) l
theorem SkI.later {w W W' : World} {p q u : Nat} {ta : ByteArray} {ao : Option Addr} {n c : Nat} {l : List Fld} (h : SkI w p q u ta ao n c l W) (hb : Below W.heap.size W W') : SkI w p q u ta ao n c l W' :=
  ⟨h.1.later hb, h.2.1.later hb, h.2.2.1.later hb, h.2.2.2.1.trans (hb.mono h.2.2.2.1.size), h.2.2.2.2.below hb⟩
theorem results_resp2 {fn : Func} {p : Tmp} (h : fn.results = #[.cell p 46]) (tmps : Array Value) (w : World) (g : Nat) (cs : Array Value)
    (hp : tmps.getD p undef = .pointer (some ⟨g, 0, none⟩)) (hg : BlkIs w g cs 46) (hs : cs.size = 4) :
    (results fn tmps).run Tryz.prog w = .ok (.agg cs) w := results_respC h tmps w g cs (0, 0) hp hg hs

theorem sk_fin (W : World) (w : World) (p : Nat) (st : Int) (D : List UInt8) (L : List Fld) (fo : Option Addr) (fn fc : Nat) (hle : w.heap.size ≤ p) (hP : BlkIs W p zR 46) (hb : Below w.heap.size w W) (hF : FldRow W (.slice fo fn fc) L) :
    BlkIs ((((W.setCell ⟨p, 0, none⟩ (.int .i64 st)).setCell ⟨p, 1, none⟩ (.string ⟨#[]⟩)).setCell ⟨p, 2, none⟩ (.slice fo fn fc)).setCell ⟨p, 3, none⟩ (.string ⟨D.toArray⟩)) p (rC st ⟨#[]⟩ (.slice fo fn fc) ⟨D.toArray⟩) 46 ∧
    Below w.heap.size w ((((W.setCell ⟨p, 0, none⟩ (.int .i64 st)).setCell ⟨p, 1, none⟩ (.string ⟨#[]⟩)).setCell ⟨p, 2, none⟩ (.slice fo fn fc)).setCell ⟨p, 3, none⟩ (.string ⟨D.toArray⟩)) ∧
    FldRow ((((W.setCell ⟨p, 0, none⟩ (.int .i64 st)).setCell ⟨p, 1, none⟩ (.string ⟨#[]⟩)).setCell ⟨p, 2, none⟩ (.slice fo fn fc)).setCell ⟨p, 3, none⟩ (.string ⟨D.toArray⟩)) (.slice fo fn fc) L :=
  ⟨fourSet hP rfl _ _ _ _, fourBelow hb hle _ _ _ _, fourFld hF hP _ _ _ _⟩
set_option maxHeartbeats 16000000 in
theorem vsocket_any (v : Nat) (k s c : Int) (n t m ta : ByteArray) (ao : Option Addr) (fl fc : Nat) (sv : Value) (l : List Fld) (w : World) (h : BlkIs w v (vC k s c n t m ⟨#[71, 69, 84]⟩ ta 1 1 (.slice ao fl fc) sv) 100)
    (hf : FldsIn w (.slice ao fl fc) l) (hN : l.length ≤ 1048576) (hT : totF l ≤ 2097152) (hg : SgAt w) (hP0 : PowAt w) :
    Calls Tryz.prog 63 #[.pointer (some ⟨v, 0, none⟩)] w (RespIs (skR l).1 [] (skR l).2.1 (skR l).2.2 w) := by
  obtain ⟨p, hp⟩ : ∃ p, w.heap.size = p := ⟨_, rfl⟩
  obtain ⟨W2, hW2⟩ : ∃ W2, w.alloc (.cells zR 46) = W2 := ⟨_, rfl⟩
  have hS : BlkIs W2 v (vC k s c n t m ⟨#[71, 69, 84]⟩ ta 1 1 (.slice ao fl fc) sv) 100 := by rw [← hW2]; exact h.later (below1 w _)
  have hP : BlkIs W2 p zR 46 := by rw [← hW2, ← hp]; exact blkIs_new _ _ _
  have hb : Below w.heap.size w W2 := by rw [← hW2]; exact below1 w _
  obtain ⟨q, hq⟩ : ∃ q, W2.heap.size = q := ⟨_, rfl⟩
  obtain ⟨u, hu⟩ : ∃ u, q + 1 = u := ⟨_, rfl⟩
  obtain ⟨W4, hW4⟩ : ∃ W4, (W2.alloc (.cells (rqC ta (.slice ao fl fc)) 64)).alloc (.cells upC 43) = W4 := ⟨_, rfl⟩
  have hb4 : Below W2.heap.size W2 W4 := by rw [← hW4]; exact (below1 _ _).alloc (by simp) _
  have hQ4 : BlkIs W4 q (rqC ta (.slice ao fl fc)) 64 := by rw [← hW4, ← hq]; exact (blkIs_new _ _ _).alloc _
  have hU4 : BlkIs W4 u upC 43 := by rw [← hW4, ← hu, ← hq]; have := blkIs_new (W2.alloc (.cells (rqC ta (.slice ao fl fc)) 64)) upC 43; rw [World.size_alloc] at this; exact this
  have hI4 : SkI w p q u ta ao fl fc l W4 := ⟨hP.later hb4, hQ4, hU4, hb.trans (hb4.mono hb.size), hf.below (hb.trans (hb4.mono hb.size))⟩
  have HW2 := Lib.hid hW2; have HW4 := Lib.hid hW4; have HI4 := Lib.hid hI4; have HPP := Lib.hid (Nat.le_of_eq hp)
  have HSG := Lib.hid hg; have HPW := Lib.hid hP0; have HN := Lib.hid (And.intro hN hT)
  have c6 : W2.cell? ⟨v, 6, none⟩ = some (.string ⟨#[71, 69, 84]⟩) := hS.cell 6 _ rfl
  have c7 : W2.cell? ⟨v, 7, none⟩ = some (.string ta) := hS.cell 7 _ rfl
  have c8 : W2.cell? ⟨v, 8, none⟩ = some (.int .i64 1) := hS.cell 8 _ rfl
  have c9 : W2.cell? ⟨v, 9, none⟩ = some (.int .i64 1) := hS.cell 9 _ rfl
  have c10 : W2.cell? ⟨v, 10, none⟩ = some (.slice ao fl fc) := hS.cell 10 _ rfl
  have c11 : W2.cell? ⟨v, 11, none⟩ = some (.string ⟨#[]⟩) := hS.cell 11 _ rfl
  have c12 : W2.cell? ⟨v, 12, none⟩ = some (.slice none 0 0) := hS.cell 12 _ rfl
  have hl1 := allF_len veN l
  have hl2 := allF_len keN l
  have hsum := allF_sum keN l
  have HPL := Lib.hid (fun st l2 W (hB : Below w.heap.size w W) (a : -9223372036854775808 ≤ st) (b : st ≤ 9223372036854775807) (vv : Value) (hl : l2.length ≤ 1048576) (hF : FldsIn W vv l2) => oplain18_any st vv l2 W hl a b (hP0.below hB) hF)
  clear hW2 hP hb hS h hW4 hI4 hQ4 hU4 hb4 hf hg hP0 hN hT
  obtain ⟨V1, hV1⟩ : ∃ V, allF veN l = V := ⟨_, rfl⟩
  obtain ⟨V2, hV2⟩ : ∃ V, allF keN l = V := ⟨_, rfl⟩
  have hskr : skR l = if hasF l upN wsN = true ∧ hasF l coN ulN = true then (if V1 = [v13] then skM V2 else sk4 426 [(veN, v13)]) else sk4 426 [(upN, wsN), (coN, uuN)] := by unfold skR; rw [hV1, hV2]
  obtain ⟨R, hR⟩ : ∃ R, skR l = R := ⟨_, rfl⟩
  rw [hR] at hskr ⊢
  obtain ⟨b1, hb1⟩ : ∃ b, hasF l upN wsN = b := ⟨_, rfl⟩
  obtain ⟨b2, hb2⟩ : ∃ b, hasF l coN ulN = b := ⟨_, rfl⟩
  rw [hb1, hb2] at hskr
  rw [hV1] at hl1
  rw [hV2] at hl2 hsum
  have HSK := Lib.hid hskr
  have HA1 := Lib.hid (fun W (hI : SkI w p q u ta ao fl fc l W) => by have := oall_any (.slice ao fl fc) l veN W (by have := HN.out; omega) (by have := HN.out; omega) (by decide) hI.2.2.2.2; rwa [hV1] at this)
  have HA2 := Lib.hid (fun W (hI : SkI w p q u ta ao fl fc l W) => by have := oall_any (.slice ao fl fc) l keN W (by have := HN.out; omega) (by have := HN.out; omega) (by decide) hI.2.2.2.2; rwa [hV2] at this)
  have HH1 := Lib.hid (fun W (hI : SkI w p q u ta ao fl fc l W) => by have := ohas_any (.slice ao fl fc) l upN wsN W HN.out.1 HN.out.2 (by decide) (by decide) hI.2.2.2.2 (HSG.out.below hI.2.2.2.1); rwa [hb1] at this)
  have HH2 := Lib.hid (fun W (hI : SkI w p q u ta ao fl fc l W) => by have := ohas_any (.slice ao fl fc) l coN ulN W HN.out.1 HN.out.2 (by decide) (by decide) hI.2.2.2.2 (HSG.out.below hI.2.2.2.1); rwa [hb2] at this)
  have HVN := Lib.hid (And.intro (Nat.le_trans hl1 HN.out.1) (And.intro (Nat.le_trans hl2 HN.out.1) (Nat.le_trans hsum HN.out.2)))
  clear hV1 hV2 hskr hR hb1 hb2 hl1 hl2 hsum
  go_enter Tryz.func63, Tryz.ntmps63
  go_upto_region 1 with fail
  rw [HW2.out]
  go_upto_region 3 with fail
  rw [HW4.out]
  clear c6 c7 c8 c9 c10 c11 c12
  have hS : SkI w p q u ta ao fl fc l W4.drew := HI4.out.later ((Below.refl _ W4).drew)
  refine wp_region_textH (SkI w p q u ta ao fl fc l) [(0, true), (1, true), (3, true), (4, true), (2, false), (5, false), (6, true), (7, true)] (by kernel_rfl) (by kernel_rfl) (by kernel_rfl) (by kernel_rfl) hS ?_
  iterate 4 (refine wpTxH_take rfl (by kernel_rfl) (v := ?_) ?_ ?_; rotate_left; · (intro W hS; have t4 : W.cell? ⟨q, 4, none⟩ = some (.slice ao fl fc) := hS.2.1.cell 4 _ rfl; clear hS; go_simp; with_reducible rfl))
  refine wpTxH_step rfl (fun K hK => ?_)
  go_simp
  refine (HA1.out _ hS).mono ?_
  rintro e w5 ⟨v5, rfl, ho5, hb5⟩
  have hS := hS.later hb5
  have HO5 := Lib.hid ho5
  refine hK _ _ hS ?_
  clear hK K ho5 hb5
  refine wpTxH_step rfl (fun K hK => ?_)
  go_simp
  refine (HA2.out _ hS).mono ?_
  rintro e w6 ⟨v6, rfl, ho6, hb6⟩
  have hS := hS.later hb6
  have HT1 := Lib.hid (txtsIn_own (own_later HO5.out hb6))
  have HT2 := Lib.hid (txtsIn_own ho6)
  refine hK _ _ hS ?_
  clear hK K ho6 hb6 HO5
  iterate 2 (refine wpTxH_take rfl (by kernel_rfl) (v := ?_) ?_ ?_; rotate_left; · (intro W hS; clear hS; go_simp; with_reducible rfl))
  refine wpTxH_nil ?_
  go_simp
  have HI6 := Lib.hid hS
  clear hS
  obtain ⟨a1, cap1, rfl, hat1⟩ := HT1.out
  obtain ⟨a2, cap2, rfl, hat2⟩ := HT2.out
  have HT1 := Lib.hid hat1; have HT2 := Lib.hid hat2
  clear hat1 hat2
  have q0 := HI6.out.2.1.cell 0 _ rfl
  have q2 := HI6.out.2.1.cell 2 _ rfl
  have q3 := HI6.out.2.1.cell 3 _ rfl
  have q4 := HI6.out.2.1.cell 4 _ rfl
  go_wp2_with fail
  refine (HH1.out w6 HI6.out).mono ?_
  rintro e w7 ⟨rfl, hb7⟩
  have HI7 := Lib.hid (HI6.out.later hb7)
  have HT71 := Lib.hid (fun (x : List UInt8) (hx : V1[0]? = some x) => HT1.out.below hb7 0 x hx)
  have HT72 := Lib.hid (HT2.out.below hb7)
  have HT7 := Lib.hid (HT1.out.below hb7)
  clear hb7 q0 q2 q3 q4

  cases b1 with
  | false =>
    have u0 := HI7.out.2.2.1.cell 0 _ rfl
    have u1 := HI7.out.2.2.1.cell 1 _ rfl
    obtain ⟨g, hg⟩ : ∃ g, w7.heap.size = g := ⟨_, rfl⟩
    obtain ⟨W8, hW8⟩ : ∃ W8, w7.alloc (.cells #[.string ⟨#[85, 112, 103, 114, 97, 100, 101]⟩, .string ⟨#[119, 101, 98, 115, 111, 99, 107, 101, 116]⟩, .string ⟨#[67, 111, 110, 110, 101, 99, 116, 105, 111, 110]⟩, .string ⟨#[85, 112, 103, 114, 97, 100, 101]⟩] 43) = W8 := ⟨_, rfl⟩
    have hb8 : Below w7.heap.size w7 W8 := by rw [← hW8]; exact below1 _ _
    have hN8 : FldsIn W8 (.slice (some ⟨g, 0, none⟩) 2 2) [(upN, wsN), (coN, uuN)] := by rw [← hW8, ← hg]; exact fldsIn_new rfl (blkIs_new _ _ _) rfl
    have HW8 := Lib.hid hW8; have HB8 := Lib.hid hb8; have HN8 := Lib.hid hN8
    clear hW8 hb8 hN8
    go_wp2_with fail
    (try rw [hg]); rw [HW8.out]
    clear u0 u1 hg
    have HR := Lib.hid (show R = sk4 426 [(upN, wsN), (coN, uuN)] from (by rw [HSK.out, if_neg (by simp)]))
    refine (HPL.out 426 [(upN, wsN), (coN, uuN)] _ (HI7.out.later HB8.out).2.2.2.1 (by decide) (by decide) _ (by decide) (HN8.out)).mono ?_
    rintro e w9 ⟨fv, rfl, ho9, hb9⟩
    have hI9 := (HI7.out.later HB8.out).later hb9
    have hF9 := fldRow_own (by rfl) ho9
    obtain ⟨fo, fn, fc2, rfl⟩ := hF9.shape
    obtain ⟨D, hD⟩ : ∃ D, plT 426 ++ [10] = D := ⟨_, rfl⟩
    rw [hD]
    have y0 := hI9.1.free 0
    have y1 := hI9.1.free 1
    have y2 := hI9.1.free 2
    have y3 := hI9.1.free 3
    have z0 := hI9.1.cell 0 _ rfl
    have z1 := hI9.1.cell 1 _ rfl
    have z2 := hI9.1.cell 2 _ rfl
    have z3 := hI9.1.cell 3 _ rfl
    have HF := Lib.hid (sk_fin w9 w p 426 D _ fo fn fc2 HPP.out hI9.1 hI9.2.2.2.1 hF9)
    have HD := Lib.hid hD
    clear hI9 hF9 ho9 hb9 hD
    go_wp2
    refine bodyPost_ret (v := .agg (rC 426 ⟨#[]⟩ (.slice fo fn fc2) ⟨D.toArray⟩)) ?rr0 rfl ?oo0
    case rr0 => exact results_resp2 rfl _ _ p _ rfl HF.out.1 rfl
    case oo0 =>
      rw [HR.out]
      exact ⟨_, by show _ = Ending.returned (.agg (rC 426 ⟨#[]⟩ (.slice fo fn fc2) ⟨(plT 426 ++ [10]).toArray⟩)); rw [HD.out], HF.out.2.2, HF.out.2.1⟩
  | true =>
    have q4 := HI7.out.2.1.cell 4 _ rfl
    go_wp2_with fail
    refine (HH2.out w7 HI7.out).mono ?_
    rintro e w8 ⟨rfl, hb8⟩
    have HI8 := Lib.hid (HI7.out.later hb8)
    have HT81 := Lib.hid (HT7.out.below hb8)
    have HT82 := Lib.hid (HT72.out.below hb8)
    clear hb8 q4
    cases b2 with
    | false =>
      have u0 := HI8.out.2.2.1.cell 0 _ rfl
      have u1 := HI8.out.2.2.1.cell 1 _ rfl
      obtain ⟨g, hg⟩ : ∃ g, w8.heap.size = g := ⟨_, rfl⟩
      obtain ⟨W8, hW8⟩ : ∃ W8, w8.alloc (.cells #[.string ⟨#[85, 112, 103, 114, 97, 100, 101]⟩, .string ⟨#[119, 101, 98, 115, 111, 99, 107, 101, 116]⟩, .string ⟨#[67, 111, 110, 110, 101, 99, 116, 105, 111, 110]⟩, .string ⟨#[85, 112, 103, 114, 97, 100, 101]⟩] 43) = W8 := ⟨_, rfl⟩
      have hb8 : Below w8.heap.size w8 W8 := by rw [← hW8]; exact below1 _ _
      have hN8 : FldsIn W8 (.slice (some ⟨g, 0, none⟩) 2 2) [(upN, wsN), (coN, uuN)] := by rw [← hW8, ← hg]; exact fldsIn_new rfl (blkIs_new _ _ _) rfl
      have HW8 := Lib.hid hW8; have HB8 := Lib.hid hb8; have HN8 := Lib.hid hN8
      clear hW8 hb8 hN8
      go_wp2_with fail
      (try rw [hg]); rw [HW8.out]
      clear u0 u1 hg
      have HR := Lib.hid (show R = sk4 426 [(upN, wsN), (coN, uuN)] from (by rw [HSK.out, if_neg (by simp)]))
      refine (HPL.out 426 [(upN, wsN), (coN, uuN)] _ (HI8.out.later HB8.out).2.2.2.1 (by decide) (by decide) _ (by decide) (HN8.out)).mono ?_
      rintro e w9 ⟨fv, rfl, ho9, hb9⟩
      have hI9 := (HI8.out.later HB8.out).later hb9
      have hF9 := fldRow_own (by rfl) ho9
      obtain ⟨fo, fn, fc2, rfl⟩ := hF9.shape
      obtain ⟨D, hD⟩ : ∃ D, plT 426 ++ [10] = D := ⟨_, rfl⟩
      rw [hD]
      have y0 := hI9.1.free 0
      have y1 := hI9.1.free 1
      have y2 := hI9.1.free 2
      have y3 := hI9.1.free 3
      have z0 := hI9.1.cell 0 _ rfl
      have z1 := hI9.1.cell 1 _ rfl
      have z2 := hI9.1.cell 2 _ rfl
      have z3 := hI9.1.cell 3 _ rfl
      have HF := Lib.hid (sk_fin w9 w p 426 D _ fo fn fc2 HPP.out hI9.1 hI9.2.2.2.1 hF9)
      have HD := Lib.hid hD
      clear hI9 hF9 ho9 hb9 hD
      go_wp2
      refine bodyPost_ret (v := .agg (rC 426 ⟨#[]⟩ (.slice fo fn fc2) ⟨D.toArray⟩)) ?rr0 rfl ?oo0
      case rr0 => exact results_resp2 rfl _ _ p _ rfl HF.out.1 rfl
      case oo0 =>
        rw [HR.out]
        exact ⟨_, by show _ = Ending.returned (.agg (rC 426 ⟨#[]⟩ (.slice fo fn fc2) ⟨(plT 426 ++ [10]).toArray⟩)); rw [HD.out], HF.out.2.2, HF.out.2.1⟩
    | true =>
      by_cases hv : V1 = [v13]
      · subst hv
        obtain ⟨g1, o1, rfl, _, c1⟩ := HT81.out 0 v13 rfl
        have c1 : w8.cell? ⟨g1, o1, none⟩ = some (.string ⟨#[49, 51]⟩) := c1
        have hSK : R = skM V2 := by rw [HSK.out, if_pos (by simp), if_pos rfl]
        have HSK2 := Lib.hid hSK
        clear hSK
        by_cases hk : V2.length = 1
        · obtain ⟨k2, rfl⟩ := len1 V2 hk
          obtain ⟨g2, o2, rfl, _, c2⟩ := HT82.out 0 k2 rfl
          have c2 : w8.cell? ⟨g2, o2, none⟩ = some (.string ⟨k2.toArray⟩) := c2
          have hks : k2.length ≤ 2097152 := by have := HVN.out.2.2; simpa using this
          have hac := accept_any ⟨k2.toArray⟩ w8 (by rw [size_mk]; omega)
          rw [show (⟨k2.toArray⟩ : ByteArray).data.toList = k2 from rfl] at hac
          have hsk : R = skK k2 := HSK2.out
          have hsk2 : R = if (accP k2).2 = 0 then (101, [(upN, wsN), (coN, uuN), (acN, (accP k2).1)], []) else sk4 400 [] := hsk
          obtain ⟨⟨A, E⟩, hAE⟩ : ∃ r, accP k2 = r := ⟨_, rfl⟩
          rw [hAE] at hac hsk2
          have HAC := Lib.hid hac; have HSK3 := Lib.hid hsk2
          clear hac hsk hsk2 hAE hk hks HSK HSK2
          go_wp2_with fail
          refine (HAC.out).mono ?_
          rintro e w9 ⟨rfl, hb9⟩
          have HI9 := Lib.hid (HI8.out.later hb9)
          clear hb9 c1 c2
          by_cases hE : E = 0
          · subst hE
            have HR := Lib.hid (show R = (101, [(upN, wsN), (coN, uuN), (acN, A)], []) by rw [HSK3.out, if_pos rfl])
            have u0 := HI9.out.2.2.1.cell 0 _ rfl
            have u1 := HI9.out.2.2.1.cell 1 _ rfl
            obtain ⟨g, hg⟩ : ∃ g, w9.heap.size = g := ⟨_, rfl⟩
            obtain ⟨W8, hW8⟩ : ∃ W8, w9.alloc (.cells #[.string ⟨#[85, 112, 103, 114, 97, 100, 101]⟩, .string ⟨#[119, 101, 98, 115, 111, 99, 107, 101, 116]⟩, .string ⟨#[67, 111, 110, 110, 101, 99, 116, 105, 111, 110]⟩, .string ⟨#[85, 112, 103, 114, 97, 100, 101]⟩, .string ⟨#[83, 101, 99, 45, 87, 101, 98, 83, 111, 99, 107, 101, 116, 45, 65, 99, 99, 101, 112, 116]⟩, .string ⟨A.toArray⟩] 43) = W8 := ⟨_, rfl⟩
            have hb8 : Below w9.heap.size w9 W8 := by rw [← hW8]; exact below1 _ _
            have hF8 : FldRow W8 (.slice (some ⟨g, 0, none⟩) 3 3) [(upN, wsN), (coN, uuN), (acN, A)] := by
              have hh : W8.heap[g]? = some (.cells #[.string ⟨#[85, 112, 103, 114, 97, 100, 101]⟩, .string ⟨#[119, 101, 98, 115, 111, 99, 107, 101, 116]⟩, .string ⟨#[67, 111, 110, 110, 101, 99, 116, 105, 111, 110]⟩, .string ⟨#[85, 112, 103, 114, 97, 100, 101]⟩, .string ⟨#[83, 101, 99, 45, 87, 101, 98, 83, 111, 99, 107, 101, 116, 45, 65, 99, 99, 101, 112, 116]⟩, .string ⟨A.toArray⟩] 43) := by rw [← hW8, ← hg]; exact heap_alloc_new w9 _
              exact fldRow_own (b := 0) (n := 3) rfl ⟨rfl, .inr ⟨g, 3, _, rfl, Nat.zero_le _, hh, Nat.le_refl _, by decide, rfl, rfl⟩⟩
            have hI8 := HI9.out.later hb8
            have HW8 := Lib.hid hW8
            have HF := Lib.hid (sk_fin W8 w p 101 [] _ _ 3 3 HPP.out hI8.1 hI8.2.2.2.1 hF8)
            have y0 := hI8.1.free 0
            have y1 := hI8.1.free 1
            have y2 := hI8.1.free 2
            have y3 := hI8.1.free 3
            have z0 := hI8.1.cell 0 _ rfl
            have z1 := hI8.1.cell 1 _ rfl
            have z2 := hI8.1.cell 2 _ rfl
            have z3 := hI8.1.cell 3 _ rfl
            clear hW8 hb8 hF8 hI8
            go_upto_region 16 with fail
            (try rw [hg]); rw [HW8.out]
            clear u0 u1 hg
            go_wp2
            refine bodyPost_ret (v := .agg (rC 101 ⟨#[]⟩ (.slice (some ⟨g, 0, none⟩) 3 3) ⟨#[]⟩)) ?rr0 rfl ?oo0
            case rr0 => exact results_resp2 rfl _ _ p _ rfl HF.out.1 rfl
            case oo0 =>
              rw [HR.out]
              exact ⟨_, rfl, HF.out.2.2, HF.out.2.1⟩
          · have hne : ((E : Int) != 0) = true := by simp; omega
            have hne2 : ((E : Int) == 0) = false := by simp; omega
            have HC := Lib.hid (show R = sk4 400 [] by rw [HSK3.out, if_neg hE])
            clear hE
            go_wp2_with fail
            have HR := Lib.hid (show R = sk4 400 [] from (HC.out))
            refine (HPL.out 400 [] _ HI9.out.2.2.2.1 (by decide) (by decide) _ (by decide) (fldsIn_nil _)).mono ?_
            rintro e w9 ⟨fv, rfl, ho9, hb9⟩
            have hI9 := HI9.out.later hb9
            have hF9 := fldRow_own (by rfl) ho9
            obtain ⟨fo, fn, fc2, rfl⟩ := hF9.shape
            obtain ⟨D, hD⟩ : ∃ D, plT 400 ++ [10] = D := ⟨_, rfl⟩
            rw [hD]
            have y0 := hI9.1.free 0
            have y1 := hI9.1.free 1
            have y2 := hI9.1.free 2
            have y3 := hI9.1.free 3
            have z0 := hI9.1.cell 0 _ rfl
            have z1 := hI9.1.cell 1 _ rfl
            have z2 := hI9.1.cell 2 _ rfl
            have z3 := hI9.1.cell 3 _ rfl
            have HF := Lib.hid (sk_fin w9 w p 400 D _ fo fn fc2 HPP.out hI9.1 hI9.2.2.2.1 hF9)
            have HD := Lib.hid hD
            clear hI9 hF9 ho9 hb9 hD
            go_wp2
            refine bodyPost_ret (v := .agg (rC 400 ⟨#[]⟩ (.slice fo fn fc2) ⟨D.toArray⟩)) ?rr0 rfl ?oo0
            case rr0 => exact results_resp2 rfl _ _ p _ rfl HF.out.1 rfl
            case oo0 =>
              rw [HR.out]
              exact ⟨_, by show _ = Ending.returned (.agg (rC 400 ⟨#[]⟩ (.slice fo fn fc2) ⟨(plT 400 ++ [10]).toArray⟩)); rw [HD.out], HF.out.2.2, HF.out.2.1⟩
        · have hne : ((V2.length : Int) != 1) = true := by simp; omega
          have hne2 : ((V2.length : Int) == 1) = false := by simp; omega
          have HC := Lib.hid (show R = sk4 400 [] by rw [HSK2.out]; exact skm_no V2 hk)
          clear hk
          go_wp2_with fail
          have HR := Lib.hid (show R = sk4 400 [] from (HC.out))
          refine (HPL.out 400 [] _ HI8.out.2.2.2.1 (by decide) (by decide) _ (by decide) (fldsIn_nil _)).mono ?_
          rintro e w9 ⟨fv, rfl, ho9, hb9⟩
          have hI9 := HI8.out.later hb9
          have hF9 := fldRow_own (by rfl) ho9
          obtain ⟨fo, fn, fc2, rfl⟩ := hF9.shape
          obtain ⟨D, hD⟩ : ∃ D, plT 400 ++ [10] = D := ⟨_, rfl⟩
          rw [hD]
          have y0 := hI9.1.free 0
          have y1 := hI9.1.free 1
          have y2 := hI9.1.free 2
          have y3 := hI9.1.free 3
          have z0 := hI9.1.cell 0 _ rfl
          have z1 := hI9.1.cell 1 _ rfl
          have z2 := hI9.1.cell 2 _ rfl
          have z3 := hI9.1.cell 3 _ rfl
          have HF := Lib.hid (sk_fin w9 w p 400 D _ fo fn fc2 HPP.out hI9.1 hI9.2.2.2.1 hF9)
          have HD := Lib.hid hD
          clear hI9 hF9 ho9 hb9 hD
          go_wp2
          refine bodyPost_ret (v := .agg (rC 400 ⟨#[]⟩ (.slice fo fn fc2) ⟨D.toArray⟩)) ?rr0 rfl ?oo0
          case rr0 => exact results_resp2 rfl _ _ p _ rfl HF.out.1 rfl
          case oo0 =>
            rw [HR.out]
            exact ⟨_, by show _ = Ending.returned (.agg (rC 400 ⟨#[]⟩ (.slice fo fn fc2) ⟨(plT 400 ++ [10]).toArray⟩)); rw [HD.out], HF.out.2.2, HF.out.2.1⟩
      · have HC := Lib.hid (show R = sk4 426 [(veN, v13)] by rw [HSK.out, if_pos (by simp), if_neg hv])
        by_cases hk : V1.length = 1
        · obtain ⟨x, rfl⟩ := len1 V1 hk
          obtain ⟨g1, o1, rfl, _, c1⟩ := HT81.out 0 x rfl
          have c1 : w8.cell? ⟨g1, o1, none⟩ = some (.string ⟨x.toArray⟩) := c1
          have hx : ¬ x = [49, 51] := fun e => hv (by rw [e]; rfl)
          have hx2 : (x == [49, 51]) = false := beq_false_of_ne hx
          have hx3 : (x != [49, 51]) = true := by simpa using hx
          clear hv hk
          obtain ⟨g, hg⟩ : ∃ g, w8.heap.size = g := ⟨_, rfl⟩
          obtain ⟨W8, hW8⟩ : ∃ W8, w8.alloc (.cells #[.string ⟨#[83, 101, 99, 45, 87, 101, 98, 83, 111, 99, 107, 101, 116, 45, 86, 101, 114, 115, 105, 111, 110]⟩, .string ⟨#[49, 51]⟩] 43) = W8 := ⟨_, rfl⟩
          have hb8 : Below w8.heap.size w8 W8 := by rw [← hW8]; exact below1 _ _
          have hN8 : FldsIn W8 (.slice (some ⟨g, 0, none⟩) 1 1) [(veN, v13)] := by rw [← hW8, ← hg]; exact fldsIn_new rfl (blkIs_new _ _ _) rfl
          have HW8 := Lib.hid hW8; have HB8 := Lib.hid hb8; have HN8 := Lib.hid hN8
          clear hW8 hb8 hN8
          go_wp2_with fail
          (try rw [hg]); rw [HW8.out]
          clear hg
          have HR := Lib.hid (show R = sk4 426 [(veN, v13)] from (HC.out))
          refine (HPL.out 426 [(veN, v13)] _ (HI8.out.later HB8.out).2.2.2.1 (by decide) (by decide) _ (by decide) (HN8.out)).mono ?_
          rintro e w9 ⟨fv, rfl, ho9, hb9⟩
          have hI9 := (HI8.out.later HB8.out).later hb9
          have hF9 := fldRow_own (by rfl) ho9
          obtain ⟨fo, fn, fc2, rfl⟩ := hF9.shape
          obtain ⟨D, hD⟩ : ∃ D, plT 426 ++ [10] = D := ⟨_, rfl⟩
          rw [hD]
          have y0 := hI9.1.free 0
          have y1 := hI9.1.free 1
          have y2 := hI9.1.free 2
          have y3 := hI9.1.free 3
          have z0 := hI9.1.cell 0 _ rfl
          have z1 := hI9.1.cell 1 _ rfl
          have z2 := hI9.1.cell 2 _ rfl
          have z3 := hI9.1.cell 3 _ rfl
          have HF := Lib.hid (sk_fin w9 w p 426 D _ fo fn fc2 HPP.out hI9.1 hI9.2.2.2.1 hF9)
          have HD := Lib.hid hD
          clear hI9 hF9 ho9 hb9 hD
          go_wp2
          refine bodyPost_ret (v := .agg (rC 426 ⟨#[]⟩ (.slice fo fn fc2) ⟨D.toArray⟩)) ?rr0 rfl ?oo0
          case rr0 => exact results_resp2 rfl _ _ p _ rfl HF.out.1 rfl
          case oo0 =>
            rw [HR.out]
            exact ⟨_, by show _ = Ending.returned (.agg (rC 426 ⟨#[]⟩ (.slice fo fn fc2) ⟨(plT 426 ++ [10]).toArray⟩)); rw [HD.out], HF.out.2.2, HF.out.2.1⟩
        · have hne : ((V1.length : Int) != 1) = true := by simp; omega
          have hne2 : ((V1.length : Int) == 1) = false := by simp; omega
          clear hv hk
          obtain ⟨g, hg⟩ : ∃ g, w8.heap.size = g := ⟨_, rfl⟩
          obtain ⟨W8, hW8⟩ : ∃ W8, w8.alloc (.cells #[.string ⟨#[83, 101, 99, 45, 87, 101, 98, 83, 111, 99, 107, 101, 116, 45, 86, 101, 114, 115, 105, 111, 110]⟩, .string ⟨#[49, 51]⟩] 43) = W8 := ⟨_, rfl⟩
          have hb8 : Below w8.heap.size w8 W8 := by rw [← hW8]; exact below1 _ _
          have hN8 : FldsIn W8 (.slice (some ⟨g, 0, none⟩) 1 1) [(veN, v13)] := by rw [← hW8, ← hg]; exact fldsIn_new rfl (blkIs_new _ _ _) rfl
          have HW8 := Lib.hid hW8; have HB8 := Lib.hid hb8; have HN8 := Lib.hid hN8
          clear hW8 hb8 hN8
          go_wp2_with fail
          (try rw [hg]); rw [HW8.out]
          clear hg
          have HR := Lib.hid (show R = sk4 426 [(veN, v13)] from (HC.out))
          refine (HPL.out 426 [(veN, v13)] _ (HI8.out.later HB8.out).2.2.2.1 (by decide) (by decide) _ (by decide) (HN8.out)).mono ?_
          rintro e w9 ⟨fv, rfl, ho9, hb9⟩
          have hI9 := (HI8.out.later HB8.out).later hb9
          have hF9 := fldRow_own (by rfl) ho9
          obtain ⟨fo, fn, fc2, rfl⟩ := hF9.shape
          obtain ⟨D, hD⟩ : ∃ D, plT 426 ++ [10] = D := ⟨_, rfl⟩
          rw [hD]
          have y0 := hI9.1.free 0
          have y1 := hI9.1.free 1
          have y2 := hI9.1.free 2
          have y3 := hI9.1.free 3
          have z0 := hI9.1.cell 0 _ rfl
          have z1 := hI9.1.cell 1 _ rfl
          have z2 := hI9.1.cell 2 _ rfl
          have z3 := hI9.1.cell 3 _ rfl
          have HF := Lib.hid (sk_fin w9 w p 426 D _ fo fn fc2 HPP.out hI9.1 hI9.2.2.2.1 hF9)
          have HD := Lib.hid hD
          clear hI9 hF9 ho9 hb9 hD
          go_wp2
          refine bodyPost_ret (v := .agg (rC 426 ⟨#[]⟩ (.slice fo fn fc2) ⟨D.toArray⟩)) ?rr0 rfl ?oo0
          case rr0 => exact results_resp2 rfl _ _ p _ rfl HF.out.1 rfl
          case oo0 =>
            rw [HR.out]
            exact ⟨_, by show _ = Ending.returned (.agg (rC 426 ⟨#[]⟩ (.slice fo fn fc2) ⟨(plT 426 ++ [10]).toArray⟩)); rw [HD.out], HF.out.2.2, HF.out.2.1⟩
end Go.Proofs.YtdlpbpikhmciaaaGreatDoor
