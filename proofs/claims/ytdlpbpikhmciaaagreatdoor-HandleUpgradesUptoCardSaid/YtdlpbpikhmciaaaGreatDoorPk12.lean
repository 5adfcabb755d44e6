/- HuL, HuH, ApO: texts of the seat, one behind the other (a claim holds at most sixty). Conditions: each theorem names its own. -/
import Derived.Test.YtdlpbpikhmciaaaGreatDoorPk11
import Derived.Laws.AppendOwnNone
import Derived.Test.YtdlpbpikhmciaaaGreatDoorPk00
import Derived.Deep.AppendSrc
namespace Go.Proofs.YtdlpbpikhmciaaaGreatDoor
open Go.RowKit
set_option linter.unusedSimpArgs false
set_option linter.unusedVariables false
set_option maxRecDepth 1000000
theorem wpList_append_row {P : Program} {w : World} {ops : Array Oper} {rest : List Oper} {o : Oper} {a : Act} {Q : Exit → Act → World → Prop} (hgd : o.guard = none) (s x : Operand) (t : TypeId)
    (ho : o.op = .call { callee := .builtin .append, args := #[s, x], argTypes := #[t, t] })
    (base : Nat) (e : TypeId) (i : TypeInfo) (z : Value) (size bytes : Nat) (ht : P.underlying t = some (.slice e)) (hi : P.info? e = some i) (hz : i.zero = some z)
    (hsize : i.size = size) (hby : i.bytes = bytes) (hzs : z.cells.size = size) (hsz : 0 < size)
    (v : Value) (n : Nat) (xs : List Value) (hs : a.eval s = v) (hown : w.ownsRow base e size v n xs)
    (base2 : Nat) (vx : Value) (m : Nat) (ys : List Value) (hx : a.eval x = vx) (hown2 : w.ownsRow base2 e size vx m ys) (h1 : ∀ u ∈ ys, u.oneCell' = true)
    (h63 : n + m ≤ maxLen) (hbytes : (n + m) * bytes ≤ 140737488355328) (hbase : base ≤ w.heap.size)
    (h : ∀ v' w', w'.ownsRow base e size v' (n + m) (xs ++ ys) → w.grownBy w' v.ownBlock → wpList P ops Q rest (a.put o.dst v') w') : wpList P ops Q (o :: rest) a w := by
  rcases hown2.2 with ⟨hv, h0⟩ | ⟨g, cap, cur, hv, hb, hg, hrest⟩
  · subst hv; subst h0
    have hn : ys = [] := List.eq_nil_of_length_eq_zero (by simpa using hown2.1)
    subst hn
    exact wpList_append_own_none hgd s x t ho base e i size ht hi v n xs hs hown hx (h v w (by rw [List.append_nil]; exact hown) ⟨rfl, rfl, rfl, Nat.le_refl _, fun _ _ _ => rfl⟩)
  · subst hv
    exact wpList_append_own _ hgd s x t ho base e i z size bytes ht hi hz hsize hby hzs hsz v n xs hs hown ⟨g, 0, none⟩ m cap ys hx hown2.1 (fun j u hj => hown2.cells (g := g) rfl j u hj) h1 h63 hbytes hbase fun v' w' h2 h3 _ => h v' w' h2 h3
def flL (V : List (List UInt8)) : List (List UInt8) := (flO V).getD []
def flE (V : List (List UInt8)) : Int := match flO V with | some _ => 0 | none => 14
theorem flE_some (V xs : List (List UInt8)) (h : flO V = some xs) : flL V = xs ∧ flE V = 0 := by unfold flL flE; rw [h]; exact ⟨rfl, rfl⟩
theorem flE_none (V : List (List UInt8)) (h : flO V = none) : flL V = [] ∧ flE V = 14 := by unfold flL flE; rw [h]; exact ⟨rfl, rfl⟩
def FlPost (V : List (List UInt8)) (w : World) (e : Ending) (w' : World) : Prop := ∃ v, e = .returned (.tuple #[v, .int .i64 (flE V)]) ∧ w'.ownsRow w.heap.size 9 1 v (flL V).length (strV (flL V)) ∧ Below w.heap.size w w'
theorem strV_one (l : List (List UInt8)) : ∀ u ∈ strV l, u.oneCell' = true := by
  intro u hu
  obtain ⟨p, _, rfl⟩ := List.mem_map.1 hu
  rfl
theorem strV_app (a b : List (List UInt8)) : strV (a ++ b) = strV a ++ strV b := by simp [strV]
theorem lsR_of (x : List UInt8) : lsR x = match lstP x with | some xs => (xs, 0) | none => ([], 14) := rfl
theorem fl_bd (a b : Nat) (h : a + b ≤ 4194304) : a + b ≤ maxLen ∧ (a + b) * 16 ≤ 140737488355328 := by unfold maxLen; omega
theorem flO_bd (V : List (List UInt8)) (i : Nat) (x : List UInt8) (a b : List (List UInt8)) (h : V[i]? = some x) (ha : flO (V.take i) = some a) (hb : lstP x = some b) (hT : (V.map List.length).sum + V.length ≤ 4194304) : a.length + b.length ≤ 4194304 := by
  have h1 := flO_take V i x a b h ha hb
  have h2 := flO_size _ _ h1
  have h3 := sum_take V (i + 1)
  have h4 : (V.take (i + 1)).length ≤ V.length := by rw [List.length_take]; omega
  rw [List.length_append] at h2
  omega
set_option maxHeartbeats 8000000 in
theorem oflist_any (v : Value) (l : List Fld) (n : List UInt8) (w : World) (hN : l.length ≤ 1048576) (hT : totF l ≤ 2097152) (hn : n.length ≤ 1099511627776) (h : FldsIn w v l) :
    Calls Tryz.prog 191 #[v, .string ⟨n.toArray⟩] w (FlPost (allF n l) w) := by
  have hall := oall_any v l n w (by omega) (by omega) hn h
  have hl1 := allF_len n l
  have hl2 := allF_sum n l
  obtain ⟨i0, hi0, hz0, hz1, hz2⟩ := info_str18_parts
  obtain ⟨V, hV⟩ : ∃ V, allF n l = V := ⟨_, rfl⟩
  rw [hV] at hall hl1 hl2 ⊢
  have hVT : (V.map List.length).sum + V.length ≤ 4194304 := by omega
  have hVN : V.length ≤ 2199023255552 := by omega
  have HALL := Lib.hid hall; have HVT := Lib.hid hVT; have HVN := Lib.hid hVN
  clear hall hV hl1 hl2 hVT hVN h hn hN hT
  go_enter Tryz.func191, Tryz.ntmps191
  go_wp2_with fail
  refine (HALL.out).mono ?_
  rintro e w1 ⟨v1, rfl, ho1, hb1⟩
  obtain ⟨ao, cap, rfl, hat⟩ := txtsIn_own ho1
  have HAT := Lib.hid hat; have HB1 := Lib.hid hb1
  clear ho1 hb1 hat HALL
  go_wp2
  go_loopw [15, 6] (fun iv ev wr => ∃ (i : Nat) (done : List (List UInt8)), iv = .int .i64 i ∧ i ≤ V.length ∧ flO (V.take i) = some done ∧ wr.ownsRow w1.heap.size 9 1 ev done.length (strV done) ∧ Below w1.heap.size w1 wr) (fun iv _ _ => V.length - (intOf iv).toNat)
  case atStart => exact ⟨0, [], rfl, Nat.zero_le _, rfl, World.ownsRow_nil _ _ _ _, Below.refl _ _⟩
  case round =>
    obtain ⟨i, done, rfl, hi, hdone, hown, hb⟩ := hrel
    have HO := Lib.hid hown; have HB := Lib.hid hb; have HD := Lib.hid hdone
    have hbz := hb.size
    clear hown
    by_cases hlt : i < V.length
    · obtain ⟨x, hx⟩ : ∃ x, V[i]? = some x := ⟨_, List.getElem?_eq_getElem hlt⟩
      obtain ⟨g, o, rfl, _, c0⟩ := HAT.out.below hb i x hx
      have hxl : x.length ≤ 1073741824 := by have := sum_get V i x hx; have := HVT.out; omega
      have k0 : (0 : Int) ≤ (i : Int) := Int.natCast_nonneg _
      have k1 : (i : Int) < (V.length : Int) := by omega
      have hwi := wrap64_small i (by have := HVN.out; omega)
      have hu := olist_any ⟨x.toArray⟩ wr (by rw [size_mk]; exact hxl)
      rw [show (⟨x.toArray⟩ : ByteArray).data.toList = x from rfl] at hu
      have HW := Lib.hid hwi
      clear hwi hb hdone hxl
      cases hq : lstP x with
      | none =>
        have hls : lsR x = ([], 14) := by rw [lsR_of, hq]
        have HN := Lib.hid (flE_none V (flO_bad x hq V i hx))
        unfold LsPost at hu
        rw [hls] at hu
        have HU := Lib.hid hu
        clear hu hls hq hx
        go_wp2_with fail
        refine (HU.out).mono ?_
        rintro e w2 ⟨v2, rfl, _, hb2⟩
        have HB2 := Lib.hid (HB1.out.trans ((HB.out.trans (hb2.mono HB.out.size)).mono HB1.out.size))
        clear hb2
        go_wp2
        go_ret2
        unfold FlPost
        rw [HN.out.1, HN.out.2]
        exact ⟨_, rfl, World.ownsRow_nil _ _ _ _, HB2.out⟩
      | some xs =>
        have hls : lsR x = (xs, 0) := by rw [lsR_of, hq]
        have HT1 := Lib.hid (flO_take V i x done xs hx HD.out hq)
        have HBD := Lib.hid (fl_bd _ _ (flO_bd V i x done xs hx HD.out hq HVT.out))
        unfold LsPost at hu
        rw [hls] at hu
        have HU := Lib.hid hu
        clear hu hls hq hx
        go_wp2_with fail
        refine (HU.out).mono ?_
        rintro e w2 ⟨v2, rfl, ho2, hb2⟩
        have HB2 := Lib.hid (HB.out.trans (hb2.mono HB.out.size))
        have HO1 := Lib.hid (own_later HO.out hb2)
        have HO2 := Lib.hid ho2
        have hz2' : w1.heap.size ≤ w2.heap.size := HB2.out.size
        clear hb2 ho2 c0
        go_wp2_with (at_builtin; refine wpList_append_row rfl _ _ 104 rfl w1.heap.size 9 i0 (.string ByteArray.empty) 1 16 Tryz.underlying104 hi0 hz0 hz1 hz2 rfl (by decide) _ _ _ rfl HO1.out _ _ _ (strV xs) rfl HO2.out (strV_one xs) HBD.out.1 HBD.out.2 hz2' ?_)
        intro v3 w3 ho3 hg3
        have hb3 := HB2.out.grown hg3 hz2' (fun k hk => (HO1.out.lt k hk).1)
        have ho3' : w3.ownsRow w1.heap.size 9 1 v3 (done ++ xs).length (strV (done ++ xs)) := by rw [List.length_append, strV_app]; exact ho3
        have HI3 := Lib.hid ho3'; have HB3 := Lib.hid hb3
        clear ho3 hg3 hb3 ho3'
        go_wp2
        have hwi := HW.out
        go_roundw
        case rel => (try rw [hwi]); clear hwi; exact ⟨i + 1, done ++ xs, by go_num, hlt, HT1.out, HI3.out, HB3.out⟩
        case measure => (try rw [hwi]); clear hwi; simp [intOf]; omega
    · obtain rfl : V.length = i := by omega
      have hd : decide (V.length < V.length) = false := decide_eq_false (Nat.lt_irrefl _)
      have hD := HD.out
      rw [List.take_length] at hD
      have HN := Lib.hid (flE_some V done hD)
      have HF := Lib.hid (And.intro (own_base HO.out HB1.out.size) (HB1.out.trans (HB.out.mono HB1.out.size)))
      clear hb hdone hD
      go_wp2
      go_ret2
      unfold FlPost
      rw [HN.out.1, HN.out.2]
      exact ⟨_, rfl, HF.out.1, HF.out.2⟩
def tkE (V : List (List UInt8)) : Int := match flO V with | some xs => if xs.all isTok then 0 else 10 | none => 14
def tkL (V : List (List UInt8)) : List (List UInt8) := (tkO V).getD []
theorem tk_none (V : List (List UInt8)) (h : flO V = none) : tkL V = [] ∧ tkE V = 14 ∧ tkO V = none := by unfold tkL tkE tkO; rw [h]; exact ⟨rfl, rfl, rfl⟩
theorem tk_bad (V xs : List (List UInt8)) (h : flO V = some xs) (hx : xs.all isTok = false) : tkL V = [] ∧ tkE V = 10 ∧ tkO V = none := by unfold tkL tkE tkO; rw [h]; simp only [hx]; exact ⟨rfl, rfl, rfl⟩
theorem tk_good (V xs : List (List UInt8)) (h : flO V = some xs) (hx : xs.all isTok = true) : tkL V = xs.map lowL ∧ tkE V = 0 ∧ tkO V = some (xs.map lowL) := by unfold tkL tkE tkO; rw [h]; simp only [hx]; exact ⟨rfl, rfl, rfl⟩
def TkPost (V : List (List UInt8)) (w : World) (e : Ending) (w' : World) : Prop := ∃ v, e = .returned (.tuple #[v, .int .i64 (tkE V)]) ∧ w'.ownsRow w.heap.size 9 1 v (tkL V).length (strV (tkL V)) ∧ Below w.heap.size w w'
theorem el_len : ∀ (V xs : List (List UInt8)), flO V = some xs → ∀ x ∈ xs, x.length ≤ (V.map List.length).sum
  | [], xs, h, x, hx => by
    have h : some [] = some xs := h
    injection h with h; subst h; simp at hx
  | v :: r, xs, h, x, hx => by
    rw [flO_cons] at h
    cases hv : lstP v with
    | none => rw [hv] at h; cases h
    | some a =>
      cases hr : flO r with
      | none => rw [hv, hr] at h; cases h
      | some b =>
        rw [hv, hr] at h
        have h : some (a ++ b) = some xs := h
        injection h with h; subst h
        simp only [List.map_cons, List.sum_cons]
        rcases List.mem_append.1 hx with hx | hx
        · have := lst_el v a hv x hx; omega
        · have := el_len r b hr x hx; omega
set_option maxHeartbeats 8000000 in
theorem otokens_any (v : Value) (l : List Fld) (n : List UInt8) (w : World) (hN : l.length ≤ 1048576) (hT : totF l ≤ 2097152) (hn : n.length ≤ 1099511627776) (h : FldsIn w v l) (hg : SgAt w) :
    Calls Tryz.prog 146 #[v, .string ⟨n.toArray⟩] w (TkPost (allF n l) w) := by
  have hfl := oflist_any v l n w hN hT hn h
  have hl1 := allF_len n l
  have hl2 := allF_sum n l
  obtain ⟨V, hV⟩ : ∃ V, allF n l = V := ⟨_, rfl⟩
  rw [hV] at hfl hl1 hl2 ⊢
  have hVT : (V.map List.length).sum + V.length ≤ 4194304 := by omega
  have HG := Lib.hid hg; have HVT := Lib.hid hVT
  clear hV hl1 hl2 hVT h hn hN hT hg
  cases hq : flO V with
  | none =>
    unfold FlPost at hfl
    rw [(flE_none V hq).1, (flE_none V hq).2] at hfl
    have HF := Lib.hid hfl
    have HT := Lib.hid (tk_none V hq)
    clear hfl hq
    go_enter Tryz.func146, Tryz.ntmps146
    go_wp2_with fail
    refine (HF.out).mono ?_
    rintro e w1 ⟨v1, rfl, _, hb1⟩
    have HB1 := Lib.hid hb1
    clear hb1
    go_wp2
    go_ret2
    unfold TkPost
    rw [HT.out.1, HT.out.2.1]
    exact ⟨_, rfl, World.ownsRow_nil _ _ _ _, HB1.out⟩
  | some xs =>
    unfold FlPost at hfl
    rw [(flE_some V xs hq).1, (flE_some V xs hq).2] at hfl
    have hxl : ∀ x ∈ xs, x.length ≤ 4194304 := fun x hx => by have := el_len V xs hq x hx; have := HVT.out; omega
    have hxn : xs.length ≤ 4194304 := by have h1 := flO_size V xs hq; have := HVT.out; omega
    have HF := Lib.hid hfl
    have HQ := Lib.hid hq; have HXL := Lib.hid hxl; have HXN := Lib.hid hxn
    clear hfl hq hxl hxn
    go_enter Tryz.func146, Tryz.ntmps146
    go_wp2_with fail
    refine (HF.out).mono ?_
    rintro e w1 ⟨v1, rfl, ho1, hb1⟩
    have HB1 := Lib.hid hb1; have HO1 := Lib.hid ho1
    clear hb1
    obtain ⟨ao, cap, rfl⟩ : ∃ ao cap, v1 = .slice ao xs.length cap := by
      rcases ho1.2 with ⟨rfl, h0⟩ | ⟨g, cap, cur, rfl, _⟩
      · exact ⟨none, 0, by rw [h0]⟩
      · exact ⟨_, cap, rfl⟩
    clear ho1
    go_wp2
    go_loopw [21] (fun iv wr => ∃ i : Nat, iv = .int .i64 i ∧ i ≤ xs.length ∧ (xs.take i).all isTok = true ∧ wr.ownsRow w.heap.size 9 1 (.slice ao xs.length cap) xs.length (strV (lowMx xs i)) ∧ Below w.heap.size w wr) (fun iv _ => xs.length - (intOf iv).toNat)
    case atStart => exact ⟨0, rfl, Nat.zero_le _, rfl, by rw [lowMx_zero]; exact HO1.out, HB1.out⟩
    case round =>
      obtain ⟨i, rfl, hi, hall, hown, hb⟩ := hrel
      have HO := Lib.hid hown; have HB := Lib.hid hb
      by_cases hlt : i < xs.length
      · obtain ⟨x, hx⟩ : ∃ x, xs[i]? = some x := ⟨_, List.getElem?_eq_getElem hlt⟩
        obtain ⟨g, rfl⟩ : ∃ g, ao = some ⟨g, 0, none⟩ := by
          rcases hown.2 with ⟨hv, h0⟩ | ⟨g, c, cur, hv, _⟩
          · omega
          · injection hv with hv; exact ⟨g, hv⟩
        have c0 : wr.cell? ⟨g, i, none⟩ = some (.string ⟨x.toArray⟩) := own_cellAt hown i _ (by simp [strV, lowMx_at xs i x hx])
        have hxl := HXL.out x (List.mem_of_getElem? hx)
        have k0 : (0 : Int) ≤ (i : Int) := Int.natCast_nonneg _
        have k1 : (i : Int) < (xs.length : Int) := by omega
        have hwi := wrap64_small i (by have := HXN.out; omega)
        have htk := otoken_any ⟨x.toArray⟩ wr (by rw [size_mk]; omega) (HG.out.below hb)
        rw [show (⟨x.toArray⟩ : ByteArray).data.toList = x from rfl] at htk
        have hlw := olower_any ⟨x.toArray⟩ wr (by rw [size_mk]; omega)
        rw [show (⟨x.toArray⟩ : ByteArray).data.toList = x from rfl] at hlw
        have HW := Lib.hid hwi; have HLW := Lib.hid hlw; have HX := Lib.hid hx
        have HALL := Lib.hid hall
        clear hwi hlw hown hb hall
        cases ht : isTok x with
        | false =>
          rw [ht] at htk
          have HTK := Lib.hid htk
          have HN := Lib.hid (tk_bad V xs HQ.out (by rw [List.all_eq_false]; exact ⟨x, List.mem_of_getElem? hx, by rw [ht]; simp⟩))
          clear htk ht hx
          go_wp2_with fail
          refine (HTK.out).mono ?_
          rintro e w2 ⟨rfl, rfl⟩
          go_wp2
          go_ret2
          unfold TkPost
          rw [HN.out.1, HN.out.2.1]
          exact ⟨_, rfl, World.ownsRow_nil _ _ _ _, HB.out⟩
        | true =>
          rw [ht] at htk
          have HTK := Lib.hid htk
          have HA2 := Lib.hid (take_all isTok xs i x hx HALL.out ht)
          clear htk ht hx
          go_wp2_with fail
          refine (HTK.out).mono ?_
          rintro e w2 ⟨rfl, hwe⟩
          obtain rfl : wr = w2 := hwe.symm
          clear hwe
          go_wp2_with fail
          refine (HLW.out).mono ?_
          rintro e w3 ⟨rfl, hb3⟩
          have HO3 := Lib.hid (own_later HO.out hb3)
          have HB3 := Lib.hid (HB.out.trans (hb3.mono HB.out.size))
          have hst := own_low HO3.out HX.out
          have hgb := (HO3.out.lt g rfl).1
          have c3 : w3.cell? ⟨g, i, none⟩ = some (.string ⟨x.toArray⟩) := own_cellAt HO3.out i _ (by simp [strV, lowMx_at xs i x HX.out])
          have f3 : w3.frozen? ⟨g, i, none⟩ = false := HO3.out.frozenAt i
          obtain ⟨y, hy⟩ : ∃ y, lowL x = y := ⟨_, rfl⟩
          rw [hy] at hst ⊢
          have HX3 := Lib.hid (And.intro hst.1 (HB3.out.setCell (p := ⟨g, i, none⟩) hgb (.string ⟨y.toArray⟩)))
          clear hst hgb hb3 c0 hy
          go_wp2
          have hwi := HW.out
          go_roundw
          case rel => (try rw [hwi]); clear hwi; exact ⟨i + 1, by go_num, hlt, HA2.out, HX3.out.1, HX3.out.2⟩
          case measure => (try rw [hwi]); clear hwi; simp [intOf]; omega
      · obtain rfl : xs.length = i := by omega
        have hd : decide (xs.length < xs.length) = false := decide_eq_false (Nat.lt_irrefl _)
        rw [List.take_length] at hall
        rw [lowMx_all] at hown
        have HN := Lib.hid (tk_good V xs HQ.out hall)
        have HF2 := Lib.hid hown
        clear hown hb hall HO
        go_wp2
        go_ret2
        unfold TkPost
        rw [HN.out.1, HN.out.2.1]
        exact ⟨_, rfl, by rw [List.length_map]; exact HF2.out, HB.out⟩
end Go.Proofs.YtdlpbpikhmciaaaGreatDoor
namespace Go.Proofs.YtdlpbpikhmciaaaGreatDoor
open Go.RowKit
set_option linter.unusedSimpArgs false
set_option linter.unusedVariables false
set_option maxRecDepth 1000000
def anyT (xs : List (List UInt8)) (t : List UInt8) : Bool := xs.any fun x => t == x
def IxPost (xs : List (List UInt8)) (t : List UInt8) (w : World) (e : Ending) (w' : World) : Prop := ∃ k : Int, e = .returned (.int .i64 k) ∧ decide (0 ≤ k) = anyT xs t ∧ w' = w
theorem any_takeT (xs : List (List UInt8)) (t x : List UInt8) (i : Nat) (h : xs[i]? = some x) (h0 : anyT (xs.take i) t = false) (hx : (t == x) = false) : anyT (xs.take (i + 1)) t = false := by
  unfold anyT at *
  rw [List.take_add_one, h, Option.toList_some, List.any_append, h0]
  simp [hx]
theorem any_yes (xs : List (List UInt8)) (t x : List UInt8) (i : Nat) (h : xs[i]? = some x) (hx : (t == x) = true) : anyT xs t = true := by
  unfold anyT
  rw [List.any_eq_true]
  exact ⟨x, List.mem_of_getElem? h, hx⟩
set_option maxHeartbeats 4000000 in
theorem oindexT_any (v : Value) (xs : List (List UInt8)) (t : List UInt8) (w : World) (hN : xs.length ≤ 4194304) (h : TxtsIn w v xs) : Calls Tryz.prog 192 #[v, .string ⟨t.toArray⟩] w (IxPost xs t w) := by
  obtain ⟨ao, cap, rfl, hat⟩ := h
  have HAT := Lib.hid hat; clear hat
  go_enter Tryz.func192, Tryz.ntmps192
  go_wp2
  go_loopw [8] (fun iv wr => ∃ i : Nat, iv = .int .i64 i ∧ i ≤ xs.length ∧ anyT (xs.take i) t = false ∧ wr = w) (fun iv _ => xs.length - (intOf iv).toNat)
  case atStart => exact ⟨0, rfl, Nat.zero_le _, rfl, rfl⟩
  case round =>
    obtain ⟨i, rfl, hi, hno, hwr⟩ := hrel
    obtain rfl : w = wr := hwr.symm
    clear hwr
    by_cases hlt : i < xs.length
    · obtain ⟨x, hx⟩ : ∃ x, xs[i]? = some x := ⟨_, List.getElem?_eq_getElem hlt⟩
      obtain ⟨g, o, rfl, _, c0⟩ := HAT.out i x hx
      have k0 : (0 : Int) ≤ (i : Int) := Int.natCast_nonneg _
      have k1 : (i : Int) < (xs.length : Int) := by omega
      have hwi := wrap64_small i (by omega)
      have HW := Lib.hid hwi; have HX := Lib.hid hx; have HNO := Lib.hid hno
      clear hwi hx hno
      cases hq : (t == x) with
      | true =>
        have HY := Lib.hid (any_yes xs t x i HX.out hq)
        go_wp2
        go_ret
        exact ⟨_, rfl, by rw [HY.out]; simp, rfl⟩
      | false =>
        have HN := Lib.hid (any_takeT xs t x i HX.out HNO.out hq)
        go_wp2
        have hwi := HW.out
        go_roundw
        case rel => (try rw [hwi]); clear hwi; exact ⟨i + 1, by go_num, hlt, HN.out, trivial⟩
        case measure => (try rw [hwi]); clear hwi; simp [intOf]; omega
    · obtain rfl : xs.length = i := by omega
      have hd : decide (xs.length < xs.length) = false := decide_eq_false (Nat.lt_irrefl _)
      rw [List.take_length] at hno
      have HNO := Lib.hid hno
      clear hno
      go_wp2
      go_ret
      exact ⟨_, rfl, by rw [HNO.out]; simp, rfl⟩
set_option maxHeartbeats 4000000 in
theorem ocontT_any (v : Value) (xs : List (List UInt8)) (t : List UInt8) (w : World) (hN : xs.length ≤ 4194304) (h : TxtsIn w v xs) : Calls Tryz.prog 147 #[v, .string ⟨t.toArray⟩] w fun e w' => e = .returned (.bool (anyT xs t)) ∧ w' = w := by
  have H := Lib.hid (oindexT_any v xs t w hN h)
  obtain ⟨ao, cap, rfl, _⟩ := h
  go_enter Tryz.func147, Tryz.ntmps147
  go_wp2_with fail
  refine (H.out).mono ?_
  rintro e w1 ⟨k, rfl, hk, rfl⟩
  have HK := Lib.hid hk
  clear hk
  go_wp2
  go_ret
  exact ⟨by rw [HK.out]; rfl, rfl⟩
theorem hasF_of (l : List Fld) (n t : List UInt8) : hasF l n t = match tkO (allF n l) with | none => false | some xs => anyT xs (lowL t) := rfl
set_option maxHeartbeats 4000000 in
theorem ohas_any (v : Value) (l : List Fld) (n t : List UInt8) (w : World) (hN : l.length ≤ 1048576) (hT : totF l ≤ 2097152) (hn : n.length ≤ 1099511627776) (ht : t.length ≤ 1099511627776) (h : FldsIn w v l) (hg : SgAt w) :
    Calls Tryz.prog 95 #[v, .string ⟨n.toArray⟩, .string ⟨t.toArray⟩] w fun e w' => e = .returned (.bool (hasF l n t)) ∧ Below w.heap.size w w' := by
  have htk := otokens_any v l n w hN hT hn h hg
  have hl1 := allF_len n l
  have hl2 := allF_sum n l
  have hr := hasF_of l n t
  obtain ⟨V, hV⟩ : ∃ V, allF n l = V := ⟨_, rfl⟩
  rw [hV] at htk hl1 hl2 hr
  obtain ⟨R, hR⟩ : ∃ R, hasF l n t = R := ⟨_, rfl⟩
  rw [hR] at hr ⊢
  have hVT : (V.map List.length).sum + V.length ≤ 4194304 := by omega
  have HLW := Lib.hid (fun W => olower_any ⟨t.toArray⟩ W (by rw [size_mk]; exact ht))
  clear hV hl1 hl2 hR h hn hN hT hg ht
  cases hq : tkO V with
  | none =>
    rw [hq] at hr
    have hc : tkE V = 14 ∨ tkE V = 10 := by
      unfold tkE
      cases hf : flO V with
      | none => exact .inl rfl
      | some xs =>
        cases ha : xs.all isTok with
        | false => simp only [ha]; exact .inr rfl
        | true => rw [(tk_good V xs hf ha).2.2] at hq; cases hq
    obtain ⟨E, hE⟩ : ∃ E, tkE V = E := ⟨_, rfl⟩
    unfold TkPost at htk
    rw [hE] at htk hc
    have hne : (E == 0) = false := by rcases hc with rfl | rfl <;> rfl
    have HT := Lib.hid htk; have HR := Lib.hid hr
    clear htk hr hq hE hc HLW hVT
    go_enter Tryz.func95, Tryz.ntmps95
    go_wp2_with fail
    refine (HT.out).mono ?_
    rintro e w1 ⟨v1, rfl, _, hb1⟩
    have HB1 := Lib.hid hb1
    clear hb1
    go_wp2
    go_ret
    rw [HR.out]
    exact ⟨rfl, HB1.out⟩
  | some xs =>
    rw [hq] at hr
    have hE : tkE V = 0 ∧ tkL V = xs := by
      cases hf : flO V with
      | none => rw [(tk_none V hf).2.2] at hq; cases hq
      | some ys =>
        cases ha : ys.all isTok with
        | false => rw [(tk_bad V ys hf ha).2.2] at hq; cases hq
        | true =>
          obtain ⟨h1, h2, h3⟩ := tk_good V ys hf ha
          rw [hq] at h3
          injection h3 with h3
          exact ⟨h2, by rw [h1, h3]⟩
    have hxn : xs.length ≤ 4194304 := by
      cases hf : flO V with
      | none => rw [(tk_none V hf).2.2] at hq; cases hq
      | some ys =>
        cases ha : ys.all isTok with
        | false => rw [(tk_bad V ys hf ha).2.2] at hq; cases hq
        | true =>
          have h3 := (tk_good V ys hf ha).2.2
          rw [hq] at h3
          injection h3 with h3
          have := flO_size V ys hf
          rw [h3, List.length_map]
          omega
    unfold TkPost at htk
    rw [hE.1, hE.2] at htk
    obtain ⟨y, hy⟩ : ∃ y, lowL t = y := ⟨_, rfl⟩
    have hr : R = anyT xs y := by rw [hr, ← hy]
    have hlw : ∀ W, Calls Tryz.prog 148 #[.string ⟨t.toArray⟩] W fun e w' => e = .returned (.string ⟨y.toArray⟩) ∧ Below W.heap.size W w' := fun W => by have := HLW.out W; rw [show (⟨t.toArray⟩ : ByteArray).data.toList = t from rfl, hy] at this; exact this
    have HT := Lib.hid htk; have HR := Lib.hid hr; have HL2 := Lib.hid hlw; have HXN := Lib.hid hxn
    clear htk hr hq hE HLW hlw hVT hy hxn
    go_enter Tryz.func95, Tryz.ntmps95
    go_wp2_with fail
    refine (HT.out).mono ?_
    rintro e w1 ⟨v1, rfl, ho1, hb1⟩
    have HB1 := Lib.hid hb1; have HO1 := Lib.hid ho1
    clear hb1 ho1
    go_wp2_with fail
    refine (HL2.out _).mono ?_
    rintro e w2 ⟨rfl, hb2⟩
    have HC := Lib.hid (ocontT_any v1 xs y w2 HXN.out (txtsIn_own (own_later HO1.out hb2)))
    have HB2 := Lib.hid (HB1.out.trans (hb2.mono HB1.out.size))
    clear hb2
    go_wp2_with fail
    refine (HC.out).mono ?_
    rintro e w3 ⟨rfl, rfl⟩
    go_wp2
    go_ret
    rw [HR.out]
    exact ⟨rfl, HB2.out⟩
end Go.Proofs.YtdlpbpikhmciaaaGreatDoor
namespace Go.Proofs.YtdlpbpikhmciaaaGreatDoor
open Go.RowKit
set_option linter.unusedSimpArgs false
set_option linter.unusedVariables false
theorem wpList_append_opt {P : Program} {w : World} {ops : Array Oper} {rest : List Oper} {o : Oper} {a : Act} {Q : Exit → Act → World → Prop} (hgd : o.guard = none) (s x : Operand) (t : TypeId)
    (ho : o.op = .call { callee := .builtin .append, args := #[s, x], argTypes := #[t, t] })
    (base : Nat) (e : TypeId) (i : TypeInfo) (z : Value) (size bytes : Nat) (ht : P.underlying t = some (.slice e)) (hi : P.info? e = some i) (hz : i.zero = some z)
    (hsize : i.size = size) (hby : i.bytes = bytes) (hzs : z.cells.size = size) (hsz : 0 < size)
    (g n cap : Nat) (xs : List Value) (hs : a.eval s = .slice (some ⟨g, 0, none⟩) n cap) (hown : w.ownsRow base e size (.slice (some ⟨g, 0, none⟩) n cap) n xs)
    (ao : Option Addr) (m c : Nat) (news : List Value) (hx : a.eval x = .slice ao m c) (hl : news.length = m * size) (hno : ao = none → m = 0) (hnews : ∀ ad, ao = some ad → ∀ j u, news[j]? = some u → w.cell? (ad.add j) = some u) (h1 : ∀ u ∈ news, u.oneCell' = true)
    (h63 : n + m ≤ maxLen) (hbytes : (n + m) * bytes ≤ 140737488355328) (hbase : base ≤ w.heap.size)
    (h : ∀ v' w', w'.ownsRow base e size v' (n + m) (xs ++ news) → w.grownBy w' (some g) → wpList P ops Q rest (a.put o.dst v') w') : wpList P ops Q (o :: rest) a w := by
  cases ao with
  | some ad => exact wpList_append_own _ hgd s x t ho base e i z size bytes ht hi hz hsize hby hzs hsz _ n xs hs hown ad m c news hx hl (hnews ad rfl) h1 h63 hbytes hbase fun v' w' h2 h3 _ => h v' w' h2 h3
  | none =>
    obtain rfl := hno rfl
    have hn : news = [] := List.eq_nil_of_length_eq_zero (by simpa using hl)
    subst hn
    have hle : n ≤ cap := by
      rcases hown.2 with ⟨hv, _⟩ | ⟨g', cap', cur, hv, _, _, hc, _⟩
      · cases hv
      · injection hv with _ _ hv; subst hv; exact hc
    have hr := run_append_room_src (P := P) (w := w) t t o.type e i ht hi g 0 n cap (.slice none 0 c) 0 [] (Src.ofNil _ ht c) (by omega) (fun j hj => by simp at hj) (fun j hj => by simp at hj)
    have hset : w.setCells g (0 + n * i.size) [] = w := by simp [World.setCells]
    rw [hset] at hr
    refine wpList_plain hgd fun K hK => ?_
    unfold Oper.wp execOp
    simp only [ho, resolve, invoke, builtin, Sem.run_bind, Sem.run_pure, Result.andThen_ok, List.map_toArray, List.map_cons, List.map_nil, hs, hx, hr]
    exact hK _ _ (h _ w (by rw [List.append_nil]; exact hown) ⟨rfl, rfl, rfl, Nat.le_refl _, fun _ _ _ => rfl⟩)
end Go.Proofs.YtdlpbpikhmciaaaGreatDoor
