/- The walks of the reference's CodingLiking, of accept.ChooseCoding and of the reference's: the plain functions codG, chTx. Conditions: at most 2^30 words and offers; names of at most 2^40 bytes. -/
import Derived.Test.YthnniiakmjonjaaDoorNamd
import Derived.Test.YthnniiakmjonjaaDoorRChs
namespace Go.Proofs.YthnniiakmjonjaaDoor
open Go.RowKit
set_option linter.unusedSimpArgs false
set_option linter.unusedVariables false
set_option maxRecDepth 1000000
def TLen (l : List (List UInt8)) : Prop := ∀ (i : Nat) (p : List UInt8), l[i]? = some p → p.length ≤ 1099511627776
theorem wIs_star (w : Wgt) : wIs [42] w = decide (w.1 = [42]) := sameL_star w.1
theorem txs_map (f : List UInt8 → Int) (o : List (List UInt8)) : (fstS (fun i => (o.map f).getD i 0) (o.map f).length).1 = chTx f o := by
  unfold chTx
  rw [List.length_map]
  rw [fstS_congr _ (txAt f o) o.length (fun i hi => ?_)]
  obtain ⟨m, hm⟩ : ∃ m, o[i]? = some m := ⟨_, List.getElem?_eq_getElem hi⟩
  rw [txAt_get f o i m hm]
  simp [List.getD_eq_getElem?_getD, hm]
theorem txs_step (f : List UInt8 → Int) (o : List (List UInt8)) (i : Nat) (m : List UInt8) (h : o[i]? = some m) : intsV ((o.map f).take (i + 1)) = intsV ((o.map f).take i) ++ [.int .i64 (f m)] := by
  rw [take_map f o i m h, intsV_snoc]
set_option maxHeartbeats 4000000 in
theorem rcoding_any (v : Value) (l : List Wgt) (gv : Bool) (n : List UInt8) (w : World) (hN : l.length ≤ 1073741824) (hs : WLen l) (hn : n.length ≤ 1099511627776) (h : WgtsIn w v l) :
    Calls Tryd.prog 65 #[v, .bool gv, .string ⟨n.toArray⟩] w fun e w' => e = .returned (.int .i64 (codG l gv n)) ∧ Below w.heap.size w w' := by
  obtain ⟨ao, cap, rfl, hat⟩ := h
  cases gv with
  | false =>
    go_enter Tryd.func65, Tryd.ntmps65
    go_wp2
    go_ret
    exact ⟨rfl, Below.refl _ _⟩
  | true =>
  have HAT := Lib.hid hat; have HS := Lib.hid hs; have HN := Lib.hid hn
  clear hat hs hn
  go_enter Tryd.func65, Tryd.ntmps65
  go_wp2
  go_loopw [7] (fun iv wr => ∃ i : Nat, iv = .int .i64 i ∧ i ≤ l.length ∧ (l.take i).any (wIs n) = false ∧ Below w.heap.size w wr) (fun iv _ => l.length - (intOf iv).toNat)
  case atStart => exact ⟨0, rfl, Nat.zero_le _, rfl, Below.refl _ _⟩
  case round =>
    obtain ⟨i, rfl, hi, hno, hb⟩ := hrel
    by_cases hlt : i < l.length
    · obtain ⟨p, hp⟩ : ∃ p, l[i]? = some p := ⟨_, List.getElem?_eq_getElem hlt⟩
      obtain ⟨g, o, rfl, hgl, c0, c1⟩ := HAT.out.below hb i p hp
      have k0 : (0 : Int) ≤ (i : Int) := Int.natCast_nonneg _
      have k1 : (i : Int) < (l.length : Int) := by omega
      have hwi := wrap64_small i (small30 i _ hi hN)
      have hpl := HS.out i p hp
      obtain ⟨p1, p2⟩ := p
      simp only at c0 c1 hpl
      have S1 := fun w => rsame_any p1 n w hpl HN.out
      have HB2 := Lib.hid hb; have HW := Lib.hid hwi; have HNO := Lib.hid hno; have HP := Lib.hid hp
      clear hb hwi hno hp hpl
      cases hsm : sameL p1 n with
      | false =>
        have HST := Lib.hid (wIs_step n l i _ HP.out HNO.out (show wIs n (p1, p2) = false from hsm))
        rw [hsm] at S1
        have HS1 := Lib.hid S1
        clear S1 hsm
        go_wp2_with fail
        refine (HS1.out _).mono ?_
        rintro e w3 ⟨rfl, hb3⟩
        have HB3 := Lib.hid (HB2.out.trans (hb3.mono HB2.out.size))
        clear hb3
        go_wp2
        have hwi := HW.out
        go_roundw
        case rel => (try rw [hwi]); clear hwi; exact ⟨i + 1, by go_num, hlt, HST.out, HB3.out⟩
        case measure => (try rw [hwi]); clear hwi; simp [intOf]; omega
      | true =>
        have HST := Lib.hid (codP_name l n p2 (namP_at n l i _ HP.out HNO.out (show wIs n (p1, p2) = true from hsm)))
        rw [hsm] at S1
        have HS1 := Lib.hid S1
        clear S1 hsm
        go_wp2_with fail
        refine (HS1.out _).mono ?_
        rintro e w3 ⟨rfl, hb3⟩
        have HB3 := Lib.hid (HB2.out.trans (hb3.mono HB2.out.size))
        have e1 : w3.cell? ⟨g, o + i * 2 + 1, none⟩ = some (.int .i64 p2) := by rw [hb3.cell (p := ⟨g, o + i * 2 + 1, none⟩) hgl]; exact c1
        clear hb3 c0 c1
        go_wp2
        go_ret
        rw [show codG l true n = codP l n from rfl, HST.out]
        exact ⟨rfl, HB3.out⟩
    · obtain rfl : i = l.length := by omega
      have hd : decide (l.length < l.length) = false := decide_eq_false (Nat.lt_irrefl _)
      rw [List.take_length] at hno
      have HX := Lib.hid (And.intro (namP_end n l hno) hb)
      clear hno hb
      go_wp2
      go_loopw [8] (fun iv wr => ∃ i : Nat, iv = .int .i64 i ∧ i ≤ l.length ∧ (l.take i).any (wIs [42]) = false ∧ Below w.heap.size w wr) (fun iv _ => l.length - (intOf iv).toNat)
      case atStart => exact ⟨0, rfl, Nat.zero_le _, rfl, HX.out.2⟩
      case round =>
        clear hd
        obtain ⟨i, rfl, hi, hno, hb⟩ := hrel
        by_cases hlt : i < l.length
        · obtain ⟨p, hp⟩ : ∃ p, l[i]? = some p := ⟨_, List.getElem?_eq_getElem hlt⟩
          obtain ⟨g, o, rfl, hgl, c0, c1⟩ := HAT.out.below hb i p hp
          have k0 : (0 : Int) ≤ (i : Int) := Int.natCast_nonneg _
          have k1 : (i : Int) < (l.length : Int) := by omega
          have hwi := wrap64_small i (small30 i _ hi hN)
          obtain ⟨p1, p2⟩ := p
          simp only at c0 c1
          have HB2 := Lib.hid hb; have HW := Lib.hid hwi; have HNO := Lib.hid hno; have HP := Lib.hid hp
          clear hb hwi hno hp
          by_cases hst : p1 = [42]
          · have hbe : (p1 == [42]) = true := by rw [hst]; rfl
            have HST := Lib.hid (codP_star l n p2 HX.out.1 (namP_at [42] l i _ HP.out HNO.out (by rw [wIs_star]; exact decide_eq_true hst)))
            clear hst
            go_wp2
            go_ret
            rw [show codG l true n = codP l n from rfl, HST.out]
            exact ⟨rfl, HB2.out⟩
          · have hbe : (p1 == [42]) = false := beq_false_of_ne hst
            have HST := Lib.hid (wIs_step [42] l i _ HP.out HNO.out (by rw [wIs_star]; exact decide_eq_false hst))
            clear hst
            go_wp2
            have hwi := HW.out
            go_roundw
            case rel => (try rw [hwi]); clear hwi; exact ⟨i + 1, by go_num, hlt, HST.out, HB2.out⟩
            case measure => (try rw [hwi]); clear hwi; simp [intOf]; omega
        · obtain rfl : i = l.length := by omega
          have hd : decide (l.length < l.length) = false := decide_eq_false (Nat.lt_irrefl _)
          rw [List.take_length] at hno
          have hnn := codP_none l n HX.out.1 (namP_end [42] l hno)
          have h3 := fun w => rsame_any n ideL w HN.out (by decide)
          have HB := Lib.hid hb
          clear hno hb
          cases hid3 : sameL n ideL
          all_goals
            have HR := Lib.hid (hnn.trans (by rw [hid3]))
            simp only [hid3] at h3
            have H3 := Lib.hid h3
            clear h3 hid3
            go_wp2_with fail
            refine (H3.out _).mono ?_
            rintro e w3 ⟨rfl, hb3⟩
            have HB3 := Lib.hid (HB.out.trans (hb3.mono HB.out.size))
            clear hb3
            go_wp2
            go_ret
            rw [show codG l true n = codP l n from rfl, HR.out]
            exact ⟨rfl, HB3.out⟩
set_option maxHeartbeats 4000000 in
theorem chooseC_any (p q r : Value) (f : Nat → Int) (n : Nat) (w : World) (hn : n ≤ 1073741824)
    (hc : ∀ (W : World) (i : Nat), Below w.heap.size w W → i < n → Calls Tryd.prog 62 #[.int .i64 (i : Int), p, q, r] W fun e W' => e = .returned (.int .i64 (f i)) ∧ Below W.heap.size W W') :
    Calls Tryd.prog 64 #[.agg #[.int .i64 (n : Int), .func (.func 62) #[] #[p, q, r]]] w fun e w' => e = .returned (.int .i64 (fstS f n).1) ∧ Below w.heap.size w w' := by
  have hb0 := (Below.refl _ w).alloc (Nat.le_refl _) (.cells #[.int .i64 (n : Int), .func (.func 62) #[] #[p, q, r]] 114)
  have hB0 := blkIs_new w #[.int .i64 (n : Int), .func (.func 62) #[] #[p, q, r]] 114
  have HC := Lib.hid hc; have HREL := Lib.hid (And.intro hb0 hB0)
  clear hc hb0 hB0
  go_enter Tryd.func64, Tryd.ntmps64
  go_wp2
  go_loopw [9, 3, 4] (fun iv bv qv wr => ∃ i : Nat, iv = .int .i64 i ∧ bv = .int .i64 (fstS f i).1 ∧ qv = .int .i64 (fstS f i).2 ∧ i ≤ n ∧ Below w.heap.size w wr ∧ BlkIs wr w.heap.size #[.int .i64 (n : Int), .func (.func 62) #[] #[p, q, r]] 114) (fun iv _ _ _ => n - (intOf iv).toNat)
  case atStart => exact ⟨0, rfl, rfl, rfl, Nat.zero_le _, HREL.out⟩
  case round =>
    clear HREL
    obtain ⟨i, rfl, rfl, rfl, hi, hb, hB⟩ := hrel
    obtain ⟨b, hbv⟩ : ∃ b, (fstS f i).1 = b := ⟨_, rfl⟩
    obtain ⟨x, hxv⟩ : ∃ x, (fstS f i).2 = x := ⟨_, rfl⟩
    rw [hbv, hxv]
    by_cases hlt : i < n
    · have k0 : (0 : Int) ≤ (i : Int) := Int.natCast_nonneg _
      have k1 : (i : Int) < (n : Int) := by omega
      have hwi := wrap64_small i (small30 i _ hi hn)
      have c1 : wr.cell? ⟨w.heap.size, 1, none⟩ = some (.func (.func 62) #[] #[p, q, r]) := hB.cell 1 _ rfl
      have HCC := Lib.hid (HC.out wr i hb hlt)
      have HW := Lib.hid hwi; have HB := Lib.hid (And.intro hb hB); have HBX := Lib.hid (And.intro hbv hxv)
      clear hwi hb hB hbv hxv
      obtain ⟨y, hy⟩ : ∃ y, f i = y := ⟨_, rfl⟩
      rw [hy] at HCC
      have HY := Lib.hid hy
      clear hy
      go_wp2_with fail
      refine (HCC.out).mono ?_
      rintro e w1 ⟨rfl, hb1⟩
      have HB1 := Lib.hid (And.intro (HB.out.1.trans (hb1.mono HB.out.1.size)) (HB.out.2.later hb1))
      clear hb1 c1
      by_cases hup : x < y
      · have HST := Lib.hid (fstS_up f i (by rw [HBX.out.2, HY.out]; exact hup))
        go_wp2
        have hwi := HW.out
        go_roundw
        case rel => (try rw [hwi]); clear hwi; exact ⟨i + 1, by go_num, by rw [HST.out], by rw [HST.out, HY.out], hlt, HB1.out⟩
        case measure => (try rw [hwi]); clear hwi; simp [intOf]; omega
      · have HST := Lib.hid (fstS_stay f i (by rw [HBX.out.2, HY.out]; omega))
        have hle : y ≤ x := by omega
        go_wp2
        have hwi := HW.out
        go_roundw
        case rel => (try rw [hwi]); clear hwi; exact ⟨i + 1, by go_num, by rw [HST.out, HBX.out.1], by rw [HST.out, HBX.out.2], hlt, HB1.out⟩
        case measure => (try rw [hwi]); clear hwi; simp [intOf]; omega
    · obtain rfl : i = n := by omega
      have hd : decide (i < i) = false := decide_eq_false (Nat.lt_irrefl _)
      have HX := Lib.hid (And.intro hbv hb)
      clear hb hB hbv hxv
      go_wp2
      go_ret
      rw [HX.out.1]
      exact ⟨rfl, HX.out.2⟩
set_option maxHeartbeats 4000000 in
theorem codlit_any (v ov : Value) (b1 b2 b3 : Nat) (l : List Wgt) (gv : Bool) (o : List (List UInt8)) (i : Nat) (w : World) (hN : l.length ≤ 1073741824) (hs : WLen l) (hT : TLen o) (h : WgtsIn w v l) (ho : TxtsIn w ov o) (hi : i < o.length) (h1 : BlkIs w b1 #[v] 43) (h2 : BlkIs w b2 #[.bool gv] 4) (h3 : BlkIs w b3 #[ov] 44) :
    Calls Tryd.prog 62 #[.int .i64 (i : Int), .pointer (some ⟨b2, 0, none⟩), .pointer (some ⟨b1, 0, none⟩), .pointer (some ⟨b3, 0, none⟩)] w fun e w' => e = .returned (.int .i64 (txAt (codG l gv) o i)) ∧ Below w.heap.size w w' := by
  obtain ⟨m, hm⟩ : ∃ m, o[i]? = some m := ⟨_, List.getElem?_eq_getElem hi⟩
  have hml := hT i m hm
  rw [txAt_get _ o i m hm]
  have d2 : w.cell? ⟨b2, 0, none⟩ = some (.bool gv) := h2.cell 0 _ rfl
  cases gv with
  | false =>
    go_enter Tryd.func62, Tryd.ntmps62
    go_wp2
    go_ret
    exact ⟨rfl, Below.refl _ _⟩
  | true =>
  obtain ⟨oo, ocap, rfl, hat⟩ := ho
  obtain ⟨g, off, rfl, lt, c0⟩ := hat i m hm
  have k0 : (0 : Int) ≤ (i : Int) := Int.natCast_nonneg _
  have k1 : (i : Int) < (o.length : Int) := by omega
  have d1 : w.cell? ⟨b1, 0, none⟩ = some v := h1.cell 0 _ rfl
  have d3 : w.cell? ⟨b3, 0, none⟩ = some (.slice (some ⟨g, off, none⟩) o.length ocap) := h3.cell 0 _ rfl
  have HS := Lib.hid (show w.drew.cell? ⟨b1, 0, none⟩ = some v ∧ w.drew.cell? ⟨b3, 0, none⟩ = some (.slice (some ⟨g, off, none⟩) o.length ocap) ∧ w.drew.cell? ⟨g, off + i, none⟩ = some (.string ⟨m.toArray⟩) from ⟨d1, d3, c0⟩)
  have HL := Lib.hid (codingLiking_any v l m w.drew hN hs hml (h.below ((Below.refl _ w).drew)))
  clear hN hs hT h hat h1 h2 h3 hm hml d1 d3 c0
  go_enter Tryd.func62, Tryd.ntmps62
  go_wp2
  refine wp_region_textH (fun w' => w'.cell? ⟨b1, 0, none⟩ = some v ∧ w'.cell? ⟨b3, 0, none⟩ = some (.slice (some ⟨g, off, none⟩) o.length ocap) ∧ w'.cell? ⟨g, off + i, none⟩ = some (.string ⟨m.toArray⟩)) [(0, true), (1, true), (2, true), (3, true), (4, true), (5, false), (6, true)] (by kernel_rfl) (by kernel_rfl) (by kernel_rfl) (by kernel_rfl) HS.out ?_
  iterate 5 (refine wpTxH_take rfl (by kernel_rfl) (v := ?_) ?_ ?_; rotate_left; · (intro w hS; obtain ⟨s0, s1, s2⟩ := hS; go_simp; with_reducible rfl))
  refine wpTxH_step rfl (fun K hK => ?_)
  go_simp
  refine (HL.out).mono ?_
  rintro e w1 ⟨rfl, hb1⟩
  obtain ⟨s0, s1, s2⟩ := HS.out
  refine hK _ _ ⟨mx_later (B := 0) s0 hb1, mx_later (B := 0) s1 hb1, mx_later (B := 0) s2 hb1⟩ ?_
  clear hK K s0 s1 s2
  have HB := Lib.hid ((Below.refl _ w).drew.trans hb1)
  clear hb1
  refine wpTxH_take rfl (by kernel_rfl) (v := ?_) ?_ ?_; rotate_left; · (intro w hS; clear hS; go_simp; with_reducible rfl)
  refine wpTxH_nil ?_
  go_simp
  go_wp2
  go_ret
  rw [show codG l true m = codP l m from rfl]
  exact ⟨rfl, HB.out⟩
set_option maxHeartbeats 4000000 in
theorem chooseCoding_any (v ov : Value) (l : List Wgt) (gv : Bool) (o : List (List UInt8)) (w : World) (hN : l.length ≤ 1073741824) (hs : WLen l) (hO : o.length ≤ 1073741824) (hT : TLen o) (h : WgtsIn w v l) (ho : TxtsIn w ov o) :
    Calls Tryd.prog 27 #[v, .bool gv, ov] w fun e w' => e = .returned (.int .i64 (chTx (codG l gv) o)) ∧ Below w.heap.size w w' := by
  obtain ⟨lo, lcap, rfl, hlat⟩ := h
  have h : WgtsIn w (.slice lo l.length lcap) l := ⟨_, _, rfl, hlat⟩
  obtain ⟨oo, ocap, rfl, hoat⟩ := ho
  have ho : TxtsIn w (.slice oo o.length ocap) o := ⟨_, _, rfl, hoat⟩
  obtain ⟨v, hv⟩ : ∃ v, Value.slice lo l.length lcap = v := ⟨_, rfl⟩
  obtain ⟨ov, hov⟩ : ∃ ov, Value.slice oo o.length ocap = ov := ⟨_, rfl⟩
  rw [hv] at h
  rw [hov] at ho
  obtain ⟨W1, hW1⟩ : ∃ W1, w.alloc (.cells #[v] 43) = W1 := ⟨_, rfl⟩
  obtain ⟨W2, hW2⟩ : ∃ W2, (W1.alloc (.cells #[.bool gv] 4)) = W2 := ⟨_, rfl⟩
  obtain ⟨W3, hW3⟩ : ∃ W3, W2.alloc (.cells #[ov] 44) = W3 := ⟨_, rfl⟩
  have z1 : W1.heap.size = w.heap.size + 1 := by rw [← hW1]; simp
  have z2 : W2.heap.size = w.heap.size + 1 + 1 := by rw [← hW2]; simp [z1]
  have b1 : BlkIs W1 w.heap.size #[v] 43 := by rw [← hW1]; exact blkIs_new w _ _
  have b2 : BlkIs W2 (w.heap.size + 1) #[.bool gv] 4 := by rw [← hW2, ← z1]; exact blkIs_new W1 _ _
  have b3 : BlkIs W3 (w.heap.size + 1 + 1) #[ov] 44 := by rw [← hW3, ← z2]; exact blkIs_new W2 _ _
  have c1 : BlkIs W3 w.heap.size #[v] 43 := by rw [← hW3, ← hW2]; exact (b1.alloc _).alloc _
  have c2 : BlkIs W3 (w.heap.size + 1) #[.bool gv] 4 := by rw [← hW3]; exact b2.alloc _
  have hb : Below w.heap.size w W3 := by
    rw [← hW3]
    refine Below.alloc ?_ (by rw [z2]; omega) _
    rw [← hW2]
    refine Below.alloc ?_ (by rw [z1]; omega) _
    rw [← hW1]
    exact (Below.refl _ w).alloc (Nat.le_refl _) _
  have HC := Lib.hid (chooseC_any (.pointer (some ⟨w.heap.size + 1, 0, none⟩)) (.pointer (some ⟨w.heap.size, 0, none⟩)) (.pointer (some ⟨w.heap.size + 1 + 1, 0, none⟩)) (txAt (codG l gv) o) o.length W3 hO (fun W i hW hi => codlit_any v ov w.heap.size (w.heap.size + 1) (w.heap.size + 1 + 1) l gv o i W hN hs hT ((h.below hb).below hW) ((ho.below hb).below hW) hi (c1.later hW) (c2.later hW) (b3.later hW)))
  rw [← hW2, ← hW1, ← hv, ← hov] at hW3
  have hmf := hmf7
  have HB := Lib.hid hb; have HW := Lib.hid hW3
  have d2 : W3.cell? ⟨w.heap.size + 1 + 1, 0, none⟩ = some (.slice oo o.length ocap) := by rw [hov]; exact b3.cell 0 _ rfl
  clear hN hs hO hT h ho hlat hoat hb b1 b2 b3 c1 c2 hW1 hW2 hW3 hv hov z1 z2
  go_enter Tryd.func27, Tryd.ntmps27
  go_upto_region 1 with fail
  rw [HW.out]
  go_wp2_with fail
  refine (HC.out).mono ?_
  rintro e w1 ⟨rfl, hb1⟩
  have HB1 := Lib.hid (HB.out.trans (hb1.mono HB.out.size))
  clear hb1 d2
  go_wp2
  go_ret
  exact ⟨rfl, HB1.out⟩
set_option maxHeartbeats 4000000 in
theorem rchooseCoding_any (v ov : Value) (l : List Wgt) (gv : Bool) (o : List (List UInt8)) (w : World) (hN : l.length ≤ 1073741824) (hs : WLen l) (hO : o.length ≤ 1073741824) (hT : TLen o) (h : WgtsIn w v l) (ho : TxtsIn w ov o) :
    Calls Tryd.prog 28 #[v, .bool gv, ov] w fun e w' => e = .returned (.int .i64 (chTx (codG l gv) o)) ∧ Below w.heap.size w w' := by
  obtain ⟨oo, ocap, rfl, hat⟩ := ho
  obtain ⟨i0, hi0, hz0, hz1, hz2⟩ := info_partsI infoInt7
  obtain ⟨L, hL⟩ : ∃ L, w.heap.size = L := ⟨_, rfl⟩
  have hbb : Below L w (w.alloc (.cells #[] 3)) := by rw [← hL]; exact (Below.refl _ w).alloc (Nat.le_refl _) _
  have hrm : (w.alloc (.cells #[] 3)).ownsRow L 3 1 (.slice (some ⟨w.heap.size, 0, none⟩) 0 0) 0 [] := by rw [← hL]; exact World.ownsRow_made w #[] 0 (Nat.le_refl _) (by simp) rfl
  have HL := Lib.hid hL; have HAT := Lib.hid hat; have HH := Lib.hid (And.intro h (And.intro hN (And.intro hs hT)))
  clear hL hat h hN hs hT
  go_enter Tryd.func28, Tryd.ntmps28
  go_wp2
  go_loopw [8, 7] (fun iv qv wr => ∃ i : Nat, iv = .int .i64 i ∧ i ≤ o.length ∧ wr.ownsRow L 3 1 qv i (intsV ((o.map (codG l gv)).take i)) ∧ Below L w wr) (fun iv _ _ => o.length - (intOf iv).toNat)
  case atStart => exact ⟨0, rfl, Nat.zero_le _, hrm, hbb⟩
  case round =>
    clear hbb hrm
    obtain ⟨i, rfl, hi, hown, hb⟩ := hrel
    have hb' : Below w.heap.size w wr := by rw [HL.out]; exact hb
    by_cases hlt : i < o.length
    · obtain ⟨m, hm⟩ : ∃ m, o[i]? = some m := ⟨_, List.getElem?_eq_getElem hlt⟩
      obtain ⟨g, off, rfl, _, c0⟩ := HAT.out.below hb' i m hm
      have k0 : (0 : Int) ≤ (i : Int) := Int.natCast_nonneg _
      have k1 : (i : Int) < (o.length : Int) := by omega
      have hbd := int_bd i o.length hlt hO
      have hwi := wrap64_small i (small30 i _ hi hO)
      have HLK := Lib.hid (rcoding_any v l gv m wr HH.out.2.1 HH.out.2.2.1 (HH.out.2.2.2 i m hm) (HH.out.1.below hb'))
      have HST := Lib.hid (txs_step (codG l gv) o i m hm)
      have HO := Lib.hid hown; have HB := Lib.hid hb; have HW := Lib.hid hwi
      obtain ⟨y, hy⟩ : ∃ y, codG l gv m = y := ⟨_, rfl⟩
      rw [hy] at HLK HST
      clear hown hb hb' hwi hm hy
      go_wp2_with fail
      refine (HLK.out).mono ?_
      rintro e w1 ⟨rfl, hb1⟩
      have hbL := bsz HB.out HL
      have HO1 := Lib.hid (own_later HO.out hb1)
      have hb2 := HB.out.trans (hb1.mono hbL)
      have HB1 := Lib.hid hb2
      have hbz := hb2.size
      rw [HL.out] at hbz
      clear hb1 c0 hb2
      go_wp2_with (at_builtin; refine wpList_append_own _ rfl (.tmp 16) (.tmp 24) 116 rfl L 3 i0 (.int .i64 0) 1 8 Tryd.underlying116 hi0 hz0 hz1 hz2 rfl (by decide) _ _ _ rfl (HO1.out.alloc _) ⟨w1.heap.size, 0, none⟩ 1 1 [.int .i64 y] rfl rfl (cells_new w1 3 _) (by simp [Value.oneCell']) hbd.1 hbd.2 ?dd ?_)
      case dd => simp; omega
      intro v1 w2 hI1 hg1 _
      have hb2 : Below L w w2 := (HB1.out.alloc hbz _).grown hg1 (by simp; omega) (fun k hk => (HO1.out.lt k hk).1)
      have HI1 := Lib.hid hI1; have HB2 := Lib.hid hb2
      clear hI1 hg1 hb2
      go_wp2
      have hwi := HW.out
      go_roundw
      case rel =>
        (try rw [hwi]); clear hwi
        refine ⟨i + 1, by go_num, by omega, ?_, HB2.out⟩
        rw [HST.out]
        exact HI1.out
      case measure => (try rw [hwi]); clear hwi; simp [intOf]; omega
    · obtain rfl : i = o.length := by omega
      have hd : decide (o.length < o.length) = false := decide_eq_false (Nat.lt_irrefl _)
      have hfull : (o.map (codG l gv)).take o.length = o.map (codG l gv) := by rw [List.take_of_length_le (by rw [List.length_map]; exact Nat.le_refl _)]
      rw [hfull] at hown
      have hin : IntsIn wr _ (o.map (codG l gv)) := intsIn_own (l := o.map (codG l gv)) (by rw [List.length_map]; exact hown)
      have HF := Lib.hid (rfirst_any _ (o.map (codG l gv)) wr (by rw [List.length_map]; exact hO) hin)
      have HB := Lib.hid hb'
      have HC := Lib.hid (txs_map (codG l gv) o)
      clear hown hb hb' hin hfull
      go_wp2_with fail
      refine (HF.out).mono ?_
      rintro e w1 ⟨rfl, hb1⟩
      rw [HC.out]
      have HB1 := Lib.hid (HB.out.trans (hb1.mono HB.out.size))
      clear hb1
      go_wp2
      go_ret
      exact ⟨rfl, HB1.out⟩
end Go.Proofs.YthnniiakmjonjaaDoor
