/- RNr, RSp4: texts of the seat, one behind the other (a claim holds at most sixty). Conditions: each theorem names its own. -/
import Derived.Test.YtpdbejeiceodkaaGreatDoorPk07
import Derived.Lib.AppendStr
import Derived.Test.YtpdbejeiceodkaaGreatDoorPk16
import Derived.Test.YtpdbejeiceodkaaGreatDoorPa02
import Derived.Deep.DeepCutAuto
import Derived.Laws.ResultCell
namespace Go.Proofs.YtpdbejeiceodkaaGreatDoor
open Go.RowKit
set_option linter.unusedSimpArgs false
set_option linter.unusedVariables false
set_option maxRecDepth 1000000
theorem step_append_str {P : Program} {ops : Array Oper} {o : Oper} {a : Act} {w : World} {K : Act → World → Prop} {Q : Exit → Act → World → Prop} {E : Prop} (hgd : o.guard = none) (sl x : Operand) (t u : TypeId)
    (ho : o.op = .call { callee := .builtin .append, args := #[sl, x], argTypes := #[t, u] })
    (base : Nat) (e : TypeId) (i : TypeInfo) (ht : P.underlying t = some (.slice e)) (hu : P.underlying u = some .string) (hi : P.info? e = some i) (hz : i.zero = some (.int .u8 0))
    (hsize : i.size = 1) (hby : i.bytes = 1)
    (v : Value) (n : Nat) (xs : List Value) (hs : a.eval sl = v) (hown : w.ownsRow base e 1 v n xs) (s : ByteArray) (hx : a.eval x = .string s)
    (h63 : n + s.size ≤ maxLen) (hbytes : n + s.size ≤ 140737488355328) (hbase : base ≤ w.heap.size)
    (h : ∀ v' w', w'.ownsRow base e 1 v' (n + s.size) (xs ++ Lib.strCells s) → w.grownBy w' v.ownBlock → K (a.put o.dst v') w') :
    if Region.wanted o (yielded ops a.tmps) = true then Oper.wp P o a w K Q else E := by
  have hw : Region.wanted o (yielded ops a.tmps) = true := by simp [Region.wanted, hgd]
  rw [if_pos hw]
  obtain ⟨v', w', hr, h2, h3, h4⟩ := Lib.run_append_own_string (P := P) w base t u o.type e i ht hu hi hz hsize hby v n xs hown s h63 hbytes hbase
  unfold Oper.wp execOp
  simp only [ho, resolve, invoke, builtin, Sem.run_bind, Sem.run_pure, Result.andThen_ok, List.map_toArray, List.map_cons, List.map_nil, hs, hx, hr]
  exact h v' w' h2 h3
set_option maxHeartbeats 8000000 in
theorem rnormal_any (s : ByteArray) (w : World) (hs : s.size ≤ 1099511627776) :
    Calls Tryz.prog 102 #[.string s] w fun e w' => e = .returned (.tuple #[.string ⟨(nrm s.data.toList).1.toArray⟩, .int .i64 ((nrm s.data.toList).2 : Nat)]) ∧ Below w.heap.size w w' := by
  have H1 := Lib.hid (fun w => rIsPath_any s w hs)
  cases hp : isP s.data.toList with
  | false =>
    rw [hp] at H1
    have HR := Lib.hid (nrm_bad _ hp)
    clear hp
    go_enter Tryz.func102, Tryz.ntmps102
    go_wp2_with fail
    refine (H1.out _).mono ?_
    rintro e w1 ⟨rfl, hw1⟩
    subst hw1
    go_wp2
    go_ret2
    exact ⟨by rw [HR.out]; rfl, Below.refl _ _⟩
  | true =>
    rw [hp] at H1
    obtain ⟨T0, hT0, hT⟩ := isP_head _ hp
    obtain ⟨T, hTT⟩ : ∃ T, pln T0 = T := ⟨_, rfl⟩
    rw [hTT] at hT
    have hTl : T.length + 1 ≤ s.size := by
      have := pln_le _ s.data.toList (Nat.le_refl _)
      rw [hT, size_list, List.length_cons] at this
      exact this
    have hres := nrm_good _ T hp hT
    have hspl := split_tot 47 _ T (Nat.le_refl _)
    obtain ⟨SG, hSG⟩ : ∃ SG, Lib.split T [47] = SG := ⟨_, rfl⟩
    rw [hSG] at hres hspl
    have hsz : (⟨(47 :: T).toArray⟩ : ByteArray).size = T.length + 1 := by rw [← size_list]; simp
    have hex := ext_one T _ hsz
    have HPL := Lib.hid (fun w => rplain_any s w hs)
    rw [hT] at HPL
    have HSP := Lib.hid (fun w => rsplit_any ⟨T.toArray⟩ 47 w (by rw [← size_list]; simp; omega))
    rw [show (⟨T.toArray⟩ : ByteArray).data.toList = T from by simp, hSG] at HSP
    obtain ⟨z, hz⟩ : ∃ z, (⟨(47 :: T).toArray⟩ : ByteArray).size = z := ⟨_, rfl⟩
    rw [hz] at hsz hex
    have hlt1 : (1 : Int) ≤ (z : Int) := by omega
    have HR := Lib.hid (And.intro hres (And.intro hspl hTl)); have HZ := Lib.hid hz; have HEX := Lib.hid hex
    obtain ⟨i0, hi0, hz0, hz1, hz2⟩ := info_partsS infoStr
    obtain ⟨j0, hj0, hy0, hy1, hy2⟩ := info_parts infoByte
    clear hp hT0 hT hTT hres hspl hSG hTl hsz hz hex
    go_enter Tryz.func102, Tryz.ntmps102
    go_wp2_with fail
    refine (H1.out _).mono ?_
    rintro e w1 ⟨rfl, hw1⟩
    subst hw1
    go_wp2_with fail
    refine (HPL.out _).mono ?_
    rintro e w2 ⟨rfl, hb2⟩
    have hz := HZ.out
    have hex := HEX.out
    go_wp2_with fail
    refine (HSP.out _).mono ?_
    rintro e w3 ⟨v4, rfl, hown4, hb3⟩
    obtain ⟨g, cap4, rfl, hg2, hst⟩ := strs_of_own hown4 HR.out.2.1.2.2
    have hb03 := hb2.trans (hb3.mono hb2.size)
    have hsl : SG.length ≤ 1099511627777 := by have := HR.out.2.1.1; have := HR.out.2.2; omega
    have HB3 := Lib.hid (And.intro hb03 hst); have HL := Lib.hid hsl
    clear hown4 hb3 hb03 hst hb2 hz hex hlt1
    go_wp2
    go_loopw [7, 5, 6] (fun iv v dv wr => ∃ i : Nat, iv = .int .i64 i ∧ i ≤ SG.length ∧ wr.ownsRow w3.heap.size 9 1 v (kpt (SG.take i)).length (strV (kpt (SG.take i))) ∧ dv = .bool (dtl (SG.take i)) ∧ Below w3.heap.size w3 wr) (fun iv _ _ _ => SG.length - (intOf iv).toNat)
    case atStart => exact ⟨0, rfl, Nat.zero_le _, World.ownsRow_made w3 #[] 0 (Nat.le_refl _) (by simp) rfl, rfl, (Below.refl _ w3).alloc (Nat.le_refl _) _⟩
    case round =>
      obtain ⟨i, rfl, hi, hown, rfl, hbw⟩ := hrel
      have hbs := hbw.size
      by_cases hlt : i < SG.length
      · obtain ⟨p, hpp⟩ : ∃ p, SG[i]? = some p := ⟨_, List.getElem?_eq_getElem hlt⟩
        have c4 : wr.cell? ⟨g, i, none⟩ = some (.string ⟨p.toArray⟩) := (strsAt_below HB3.out.2 hbw HB3.out.2.1).2 i p hpp
        have htk : SG.take (i + 1) = SG.take i ++ [p] := by rw [List.take_add_one, hpp]; rfl
        have hkl := kpt_le (SG.take i)
        rw [List.length_take, Nat.min_eq_left hi] at hkl
        have hn1 : kpt (SG.take (i + 1)) = stp (kpt (SG.take i)) p := by rw [htk, kpt_snoc]
        have hn2 : dtl (SG.take (i + 1)) = dts p := by rw [htk, dtl_snoc]
        have k0 : (0 : Int) ≤ (i : Int) := Int.natCast_nonneg _
        have k1 : (i : Int) < (SG.length : Int) := by omega
        have hwi := wrap64_small i (by have := HL.out; omega)
        generalize kpt (SG.take i) = K at *
        generalize dtl (SG.take i) = d at *
        have HN := Lib.hid (And.intro hn1 (And.intro hn2 (And.intro hkl hlt))); have HW := Lib.hid hwi
        clear hn1 hn2 htk hpp hkl hwi hsl
        cases b1 : (p == [46]) with
        | true =>
          obtain rfl : p = [46] := by simpa using b1
          have hfin : stp K [46] = K := stp_dot K
          have HF := Lib.hid hfin
          clear b1 hfin
          obtain ⟨ao, cap, rfl⟩ := own_shape hown
          go_wp2
          have hwi := HW.out
          go_roundw
          case rel => (try rw [hwi]); clear hwi; exact ⟨i + 1, by go_num, HN.out.2.2.2, by rw [HN.out.1, HF.out]; exact hown, by rw [HN.out.2.1]; rfl, hbw⟩
          case measure => (try rw [hwi]); clear hwi; simp [intOf]; omega
        | false =>
          cases b2 : (p == [46, 46]) with
          | true =>
            obtain rfl : p = [46, 46] := by simpa using b2
            clear b1 b2
            by_cases hK : K = []
            · subst hK
              have HF := Lib.hid stp_nil
              obtain ⟨ao, cap, rfl⟩ := own_shape hown
              go_wp2
              have hwi := HW.out
              go_roundw
              case rel => (try rw [hwi]); clear hwi; exact ⟨i + 1, by go_num, HN.out.2.2.2, by rw [HN.out.1, HF.out]; exact hown, by rw [HN.out.2.1]; rfl, hbw⟩
              case measure => (try rw [hwi]); clear hwi; simp [intOf]; omega
            · have hpos : 0 < K.length := List.length_pos_iff.2 hK
              obtain ⟨gk, cap, rfl, hgk, hgk2, hcap⟩ := own_pos hown hpos
              have hcut := own_cut1 hown (K.length - 1) (by omega)
              rw [strV_take, ← drop_last_take] at hcut
              have hfin := stp_cut K hK
              obtain ⟨N, hN⟩ : ∃ N, K.length = N := ⟨_, rfl⟩
              obtain ⟨M, hM⟩ : ∃ M, N = M + 1 := ⟨N - 1, by omega⟩
              have hdl : K.dropLast.length = M := by rw [List.length_dropLast]; omega
              rw [hN, hM, Nat.add_sub_cancel] at hcut
              have hwm : wrap64 ((N : Int) - 1) = (M : Int) := by unfold wrap64; have := HL.out; have := HN.out.2.2.1; omega
              have hwm2 : IntKind.i64.wrap ((N : Int) - 1) = (M : Int) := by rw [IntKind.wrap_i64]; have := HL.out; have := HN.out.2.2.1; omega
              rw [hN] at hpos hcap ⊢
              have p1 : (0 : Int) < (N : Int) := by omega
              have p2 : (0 : Int) ≤ (M : Int) := by omega
              have p3 : (M : Int) ≤ (cap : Int) := by omega
              have HF := Lib.hid (And.intro hfin (And.intro hcut hdl))
              clear hfin hcut hdl hown hN hM hK
              go_wp2
              have hwi := HW.out
              go_roundw
              case rel => (try rw [hwi]); clear hwi; exact ⟨i + 1, by go_num, HN.out.2.2.2, by rw [HN.out.1, HF.out.1, HF.out.2.2]; exact HF.out.2.1, by rw [HN.out.2.1]; rfl, hbw⟩
              case measure => (try rw [hwi]); clear hwi; simp [intOf]; omega
          | false =>
            have hfin := stp_keep K p b1 b2
            have hdt : dts p = false := by unfold dts; rw [b1, b2]; rfl
            have HF := Lib.hid (And.intro hfin hdt)
            have hsm : K.length + 1 ≤ maxLen := by have := HL.out; have := HN.out.2.2.1; unfold maxLen; omega
            have hsm2 : (K.length + 1) * 16 ≤ 140737488355328 := by have := HL.out; have := HN.out.2.2.1; omega
            clear hfin hdt
            obtain ⟨ao, cap, rfl⟩ := own_shape hown
            go_wp2_with (at_builtin; refine wpList_append_own _ rfl (.tmp 53) (.tmp 58) 34 rfl w3.heap.size 9 i0 (.string ByteArray.empty) 1 16 Tryz.underlying34 hi0 hz0 hz1 hz2 rfl (by decide) _ _ _ rfl (hown.alloc _) ⟨wr.heap.size, 0, none⟩ 1 1 [.string ⟨p.toArray⟩] rfl rfl (cells_new _ _ _) (by simp [Value.oneCell']) hsm hsm2 ?d1 ?_)
            case d1 => simp; omega
            intro v1 w7 hI1 hg7 _
            have hb8 := (hbw.alloc (by omega) _).grown hg7 (by simp; omega) (fun j hj => (hown.lt j hj).1)
            rw [← strV_snoc] at hI1
            have HI1 := Lib.hid hI1; have HB8 := Lib.hid hb8
            clear hI1 hb8 hg7 hown hbw hsm hsm2
            go_wp2
            have hwi := HW.out
            go_roundw
            case rel => (try rw [hwi]); clear hwi; exact ⟨i + 1, by go_num, HN.out.2.2.2, by rw [HN.out.1, HF.out.1, List.length_append]; exact HI1.out, by rw [HN.out.2.1, HF.out.2], HB8.out⟩
            case measure => (try rw [hwi]); clear hwi; simp [intOf]; omega
      · obtain rfl : i = SG.length := by omega
        have hd : decide (SG.length < SG.length) = false := decide_eq_false (Nat.lt_irrefl _)
        rw [List.take_of_length_le (Nat.le_refl _)] at hown ⊢
        have hkpe : kpe SG = if dtl SG = true then kpt SG ++ [[]] else kpt SG := rfl
        have hkb := kpe_tot SG
        have hkn := kpe_ne SG HR.out.2.1.2.2
        have hkl := kpt_le SG
        have hfin2 : nrm s.data.toList = (slj (kpe SG), 0) := by rw [HR.out.1, slj_join _ hkn]
        obtain ⟨KP, hKP⟩ : ∃ KP, kpe SG = KP := ⟨_, rfl⟩
        rw [hKP] at hkpe hkb hkn hfin2
        have HX := Lib.hid (And.intro hfin2 (And.intro hkn (show tot KP ≤ 1099511627776 ∧ KP.length ≤ 1099511627778 by have := HR.out.2.1.2.1; have := HR.out.2.2; have := HL.out; omega)))
        obtain ⟨K, hK⟩ : ∃ K, kpt SG = K := ⟨_, rfl⟩
        rw [hK] at hown hkl hkpe
        have hkl2 : K.length + 1 ≤ maxLen ∧ (K.length + 1) * 16 ≤ 140737488355328 := by unfold maxLen; have := HL.out; omega
        obtain ⟨dd, hdd⟩ : ∃ d, dtl SG = d := ⟨_, rfl⟩
        rw [hdd] at hkpe ⊢
        have HK := Lib.hid (And.intro hkpe (And.intro hkl2 (And.intro hown hbw)))
        clear hkpe hkb hkn hfin2 hKP hK hkl hkl2 hdd hown hbw hsl
        go_upto_if 60 with fail
        go_cut [5] (fun v5 wx => wx.ownsRow w3.heap.size 9 1 v5 KP.length (strV KP) ∧ Below w3.heap.size w3 wx)
        case first =>
          obtain ⟨hkpe, ⟨hsm, hsm2⟩, hown, hbw⟩ := HK.out
          have hbs := hbw.size
          cases dd with
          | true =>
            rw [if_pos rfl] at hkpe
            go_wp2_with (at_builtin; refine wpList_append_own _ rfl _ _ 34 rfl w3.heap.size 9 i0 (.string ByteArray.empty) 1 16 Tryz.underlying34 hi0 hz0 hz1 hz2 rfl (by decide) _ _ _ rfl (hown.alloc _) ⟨wr.heap.size, 0, none⟩ 1 1 [.string ⟨#[]⟩] rfl rfl (cells_new _ _ _) (by simp [Value.oneCell']) hsm hsm2 ?d2 ?_)
            case d2 => (try simp); omega
            intro v1 w7 hI1 hg7 _
            have hb8 := (hbw.alloc (by omega) _).grown hg7 (by simp; omega) (fun j hj => (hown.lt j hj).1)
            have HI1 := Lib.hid (show w7.ownsRow w3.heap.size 9 1 v1 KP.length (strV KP) by rw [hkpe, strV_snoc, List.length_append]; exact hI1); have HB8 := Lib.hid hb8
            clear hI1 hb8 hg7 hown hbw hsm hsm2 hkpe
            go_wp2
            go_meet
            exact ⟨HI1.out, HB8.out⟩
          | false =>
            rw [if_neg (by decide)] at hkpe
            subst hkpe
            go_wp2
            go_meet
            exact ⟨hown, hbw⟩
        case rest =>
        obtain ⟨hown5, hb5⟩ := hcut
        obtain ⟨g5, cap5, rfl, hg5, hst5⟩ := strs_of_own hown5 HX.out.2.1
        have HB5 := Lib.hid (And.intro hst5 (And.intro hb5 (show g5 < wc.heap.size from hst5.1)))
        clear hown5 hst5 hb5 hg5
        go_wp2
        go_loopw [9, 8] (fun jv ov wr => ∃ j : Nat, jv = .int .i64 j ∧ j ≤ KP.length ∧ wr.ownsRow wc.heap.size 5 1 ov (slj (KP.take j)).length (Lib.byteCells (slj (KP.take j))) ∧ Below wc.heap.size wc wr) (fun jv _ _ => KP.length - (intOf jv).toNat)
        case atStart => exact ⟨0, rfl, Nat.zero_le _, World.ownsRow_made wc #[] 0 (Nat.le_refl _) (by simp) rfl, (Below.refl _ wc).alloc (Nat.le_refl _) _⟩
        case round =>
          obtain ⟨j, rfl, hj, hown, hbw⟩ := hrel
          have hbs := hbw.size
          by_cases hlt : j < KP.length
          · obtain ⟨p, hpp⟩ : ∃ p, KP[j]? = some p := ⟨_, List.getElem?_eq_getElem hlt⟩
            have htk : slj (KP.take (j + 1)) = slj (KP.take j) ++ 47 :: p := by rw [List.take_add_one, hpp]; exact slj_snoc _ _
            have hsl1 : (slj (KP.take (j + 1))).length ≤ 2199023255560 := by
              rw [slj_len, List.length_take]
              have := tot_take KP (j + 1)
              have := HX.out.2.2
              omega
            have hS : StrsAt wr g5 KP := HB5.out.1.laterB hbw HB5.out.2.2
            obtain ⟨A, hA⟩ : ∃ A, slj (KP.take j) = A := ⟨_, rfl⟩
            rw [hA] at htk hown
            rw [htk] at hsl1
            have hl1 : A.length + 1 + p.length ≤ 2199023255560 := by simp at hsl1; omega
            have k0 : (0 : Int) ≤ (j : Int) := Int.natCast_nonneg _
            have k1 : (j : Int) < (KP.length : Int) := by omega
            have hwi := wrap64_small j (by have := HX.out.2.2; omega)
            have hpz : (⟨p.toArray⟩ : ByteArray).size = p.length := by rw [← size_list]
            have HN := Lib.hid (And.intro htk (And.intro hl1 hpz)); have HW := Lib.hid hwi; have HO := Lib.hid (And.intro hown hbw); have HS := Lib.hid (And.intro hS hpp)
            clear htk hsl1 hl1 hpp hwi hown hbw hA hS hpz
            go_wp2
            refine wp_region_textH (fun w' => StrsAt w' g5 KP) [(0, true), (3, true), (4, true), (5, true), (6, true), (1, false), (2, false), (7, false), (8, true)] (by kernel_rfl) (by kernel_rfl) (by kernel_rfl) (by kernel_rfl) HS.out.1 ?_
            iterate 5 (refine wpTxH_take rfl (by kernel_rfl) (v := ?_) ?_ ?_; rotate_left; · (intro w hS; have c4 := hS.2 j p HS.out.2; clear hS; go_simp; with_reducible rfl))
            refine wpTxH_step rfl (fun K hK => ?_)
            go_simp
            refine hK _ _ (strsAt_grown (w := wr.drew) HS.out.1 (World.grownBy_alloc _ _ none) (by simp)) ?_
            clear hK K
            refine wpTxH_step rfl (fun K hK => ?_)
            refine step_append_own rfl (.tmp 71) (.tmp 72) 76 rfl wc.heap.size 5 j0 (.int .u8 0) 1 1 Tryz.underlying76 hj0 hy0 hy1 hy2 rfl (by decide) _ _ _ rfl ((HO.out.1.drew).alloc _) ⟨wr.heap.size, 0, none⟩ 1 1 [.int .u8 47] rfl rfl (cells_new _ _ _) (by simp [Value.oneCell']) (by have := HN.out.2.1; unfold maxLen; omega) (by have := HN.out.2.1; omega) (by simp; omega) ?_
            intro v1 w7 hI1 hg7
            have hb8 := ((HO.out.2.drew).alloc (by simpa using hbs) (.cells #[.int .u8 47] 5)).grown hg7 (by simp; omega) (fun j hj => (HO.out.1.lt j hj).1)
            refine hK _ _ (HB5.out.1.laterB hb8 HB5.out.2.2) ?_
            clear hK K
            refine wpTxH_step rfl (fun K hK => ?_)
            refine step_append_str rfl (.tmp 73) (.tmp 77) 76 9 rfl wc.heap.size 5 j0 Tryz.underlying76 Tryz.underlying9 hj0 hy0 hy1 hy2 v1 (A.length + 1) _ rfl hI1 ⟨p.toArray⟩ rfl (by have := HN.out.2; unfold maxLen; omega) (by have := HN.out.2; omega) hb8.size ?_
            intro v2 w8 hI2 hg8
            have hb9 := hb8.grown hg8 hb8.size (fun j hj => (hI1.lt j hj).1)
            refine hK _ _ (HB5.out.1.laterB hb9 HB5.out.2.2) ?_
            clear hK K
            refine wpTxH_take rfl (by kernel_rfl) (v := ?_) ?_ ?_; rotate_left; · (intro w hS; clear hS; go_simp; with_reducible rfl)
            refine wpTxH_nil ?_
            have hfin3 : w8.ownsRow wc.heap.size 5 1 v2 (slj (KP.take (j + 1))).length (Lib.byteCells (slj (KP.take (j + 1)))) := by
              rw [HN.out.1]
              have e1 : (A ++ 47 :: p).length = A.length + 1 + (⟨p.toArray⟩ : ByteArray).size := by rw [HN.out.2.2]; simp; omega
              have e2 : Lib.byteCells (A ++ 47 :: p) = Lib.byteCells A ++ [Value.int .u8 47] ++ Lib.strCells ⟨p.toArray⟩ := by
                rw [show A ++ 47 :: p = A ++ [47] ++ p by simp, Lib.byteCells_append, Lib.byteCells_append]
                rfl
              rw [e1, e2]
              exact hI2
            have HF3 := Lib.hid (And.intro hfin3 hb9)
            clear hfin3 hb9 hI2 hg8 hI1 hg7 hb8
            go_simp
            go_wp2
            have hwi := HW.out
            go_roundw
            case rel => (try rw [hwi]); clear hwi; exact ⟨j + 1, by go_num, hlt, HF3.out⟩
            case measure => (try rw [hwi]); clear hwi; simp [intOf]; omega
          · obtain rfl : j = KP.length := by omega
            have hd : decide (KP.length < KP.length) = false := decide_eq_false (Nat.lt_irrefl _)
            rw [List.take_length] at hown
            have hcv := run_str_own wr 76 5 Tryz.underlying76 Tryz.underlying5 hown 9 Tryz.underlying9
            have HFB := Lib.hid (HB3.out.1.trans ((HB5.out.2.1.trans (hbw.mono HB5.out.2.1.size)).mono HB3.out.1.size))
            clear hown hbw
            go_wp2
            go_ret2
            exact ⟨by rw [HX.out.1]; rfl, HFB.out⟩
end Go.Proofs.YtpdbejeiceodkaaGreatDoor
namespace Go.Proofs.YtpdbejeiceodkaaGreatDoor
open Go.RowKit
set_option linter.unusedSimpArgs false
set_option linter.unusedVariables false
set_option maxRecDepth 1000000
def leapB (y : Int) : Bool := y.tmod 400 == 0 || (y.tmod 4 == 0 && y.tmod 100 != 0)
theorem rleap_any (y : Int) (w : World) : Calls Tryz.prog 192 #[.int .i64 y] w fun e w' => e = .returned (.bool (leapB y)) ∧ w' = w := by
  cases h1 : (y.tmod 400 == 0) <;> cases h2 : (y.tmod 4 == 0) <;> cases h3 : (y.tmod 100 == 0)
  all_goals
    obtain ⟨b, hb⟩ : ∃ b, leapB y = b := ⟨_, rfl⟩
    have hb2 := hb
    unfold leapB bne at hb2
    rw [h1, h2, h3] at hb2
    simp at hb2
    subst hb2
    have HR := Lib.hid hb
    have h4 : (y.tmod 100 != 0) = (!(y.tmod 100 == 0)) := rfl
    rw [h3] at h4
    simp only [Bool.not_true, Bool.not_false] at h4
    clear hb
    go_enter Tryz.func192, Tryz.ntmps192
    go_wp2
    go_ret
    rw [HR.out]
    exact ⟨rfl, by first | rfl | trivial⟩
def ydN (y : Int) : Int := if leapB y = true then 366 else 365
theorem ydN_bd (y : Int) : 365 ≤ ydN y ∧ ydN y ≤ 366 := by unfold ydN; split <;> omega
theorem ryear_any (y : Int) (w : World) : Calls Tryz.prog 155 #[.int .i64 y] w fun e w' => e = .returned (.int .i64 (ydN y)) ∧ w' = w := by
  have H := Lib.hid (rleap_any y w)
  have HY := Lib.hid (show ydN y = if leapB y = true then 366 else 365 from rfl)
  cases hl : leapB y with
  | true =>
    rw [hl] at H HY
    clear hl
    go_enter Tryz.func155, Tryz.ntmps155
    go_wp2_with fail
    refine (H.out).mono ?_
    rintro e w1 ⟨rfl, hw1⟩
    subst hw1
    go_wp2
    go_ret
    rw [HY.out]
    exact ⟨rfl, by first | rfl | trivial⟩
  | false =>
    rw [hl] at H HY
    clear hl
    go_enter Tryz.func155, Tryz.ntmps155
    go_wp2_with fail
    refine (H.out).mono ?_
    rintro e w1 ⟨rfl, hw1⟩
    subst hw1
    go_wp2
    go_ret
    rw [HY.out]
    exact ⟨rfl, by first | rfl | trivial⟩
def mdT : List Int := [31, 28, 31, 30, 31, 30, 31, 31, 30, 31, 30, 31]
def mdN (y : Int) (m : Nat) : Int := if m = 2 ∧ leapB y = true then 29 else mdT.getD (m - 1) 0
set_option maxHeartbeats 2000000 in
theorem rmonth_any (y : Int) (m : Nat) (h1 : 1 ≤ m) (h2 : m ≤ 12) (w : World) : Calls Tryz.prog 156 #[.int .i64 y, .int .i64 (m : Int)] w fun e w' => e = .returned (.int .i64 (mdN y m)) ∧ Below w.heap.size w w' := by
  have hbel := (Below.refl _ w).alloc (Nat.le_refl _) (.cells #[.int .i64 31, .int .i64 28, .int .i64 31, .int .i64 30, .int .i64 31, .int .i64 30, .int .i64 31, .int .i64 31, .int .i64 30, .int .i64 31, .int .i64 30, .int .i64 31] 247)
  have HB := Lib.hid hbel
  clear hbel
  by_cases hm : m = 2
  · subst hm
    have H := Lib.hid (rleap_any y w)
    cases hl : leapB y with
    | true =>
      rw [hl] at H
      have HR := Lib.hid (show mdN y 2 = 29 by unfold mdN; rw [hl]; rfl)
      clear hl
      go_enter Tryz.func156, Tryz.ntmps156
      go_wp2_with fail
      refine (H.out).mono ?_
      rintro e w1 ⟨rfl, hw1⟩
      subst hw1
      go_wp2
      go_ret
      rw [HR.out]
      exact ⟨rfl, Below.refl _ _⟩
    | false =>
      rw [hl] at H
      have HR := Lib.hid (show mdN y 2 = 28 by unfold mdN; rw [hl]; rfl)
      clear hl
      go_enter Tryz.func156, Tryz.ntmps156
      go_wp2_with fail
      refine (H.out).mono ?_
      rintro e w1 ⟨rfl, hw1⟩
      subst hw1
      go_wp2
      go_ret
      rw [HR.out]
      exact ⟨rfl, HB.out⟩
  · have HR := Lib.hid (show mdN y m = mdT.getD (m - 1) 0 by unfold mdN; rw [if_neg (fun h => hm h.1)])
    rcases (by omega : m = 1 ∨ m = 3 ∨ m = 4 ∨ m = 5 ∨ m = 6 ∨ m = 7 ∨ m = 8 ∨ m = 9 ∨ m = 10 ∨ m = 11 ∨ m = 12) with rfl | rfl | rfl | rfl | rfl | rfl | rfl | rfl | rfl | rfl | rfl
    all_goals
      clear hm h1 h2
      go_enter Tryz.func156, Tryz.ntmps156
      go_wp2
      go_ret
      rw [HR.out]
      exact ⟨rfl, HB.out⟩
/-- The days from a month on. -/
def rstD (y : Int) (m : Nat) : Int := ((List.range (13 - m)).map fun k => mdN y (m + k)).foldr (· + ·) 0
theorem rstD_step (y : Int) (m : Nat) (h1 : 1 ≤ m) (h2 : m ≤ 12) : rstD y m = mdN y m + rstD y (m + 1) := by
  unfold rstD
  rw [show 13 - m = (13 - (m + 1)) + 1 by omega, List.range_succ_eq_map]
  simp only [List.map_cons, List.foldr_cons, List.map_map, Nat.add_zero]
  congr 3
  funext k
  simp [Function.comp]
  congr 1
  omega
theorem rstD_end (y : Int) : rstD y 13 = 0 := rfl
theorem rstD_year (y : Int) : rstD y 1 = ydN y := by
  unfold ydN
  cases h : leapB y with
  | true =>
    unfold rstD mdN
    rw [h]
    decide
  | false =>
    unfold rstD mdN
    rw [h]
    decide
theorem mdN_bd (y : Int) (m : Nat) (h1 : 1 ≤ m) (h2 : m ≤ 12) : 28 ≤ mdN y m ∧ mdN y m ≤ 31 := by
  unfold mdN
  split
  · omega
  · rcases (by omega : m = 1 ∨ m = 2 ∨ m = 3 ∨ m = 4 ∨ m = 5 ∨ m = 6 ∨ m = 7 ∨ m = 8 ∨ m = 9 ∨ m = 10 ∨ m = 11 ∨ m = 12) with rfl | rfl | rfl | rfl | rfl | rfl | rfl | rfl | rfl | rfl | rfl | rfl <;> decide
def tmR (t : Int) : Bool := decide (-62135596800 ≤ t) && decide (t ≤ 253402300799)
abbrev datC (y : Int) (m : Int) (d a b c e : Int) : Array Value := #[.int .i64 y, .int .i64 m, .int .i64 d, .int .i64 a, .int .i64 b, .int .i64 c, .int .i64 e]
def Sp4Post (t : Int) (w : World) (e : Ending) (w' : World) : Prop := ∃ y m d a b c f : Int, e = .returned (.tuple #[.agg (datC y m d a b c f), .int .i64 (if tmR t = true then 0 else 40)]) ∧ Below w.heap.size w w'
theorem results_dat {fn : Func} {p u : Tmp} (h : fn.results = #[.cell p 168, .tmp u]) (tmps : Array Value) (w : World) (g : Nat) (cs : Array Value) (fr : Nat × Nat)
    (hp : tmps.getD p undef = .pointer (some ⟨g, 0, none⟩)) (hg : w.heap[g]? = some (.cells cs 168 fr)) (hs : cs.size = 7) :
    (results fn tmps).run Tryz.prog w = .ok (.tuple #[.agg cs, tmps.getD u undef]) w := by
  rw [results_cell_tmp h, hp]
  have := run_loadVar_row (P := Tryz.prog) w g 168 168 cs fr _ hg Tryz.underlying168 rfl (by rw [hs]; kernel_rfl)
  simp [asAddr, this, Result.andThen]
theorem tq_bd (t : Int) (h : tmR t = true) : -719163 ≤ t.tdiv 86400 ∧ t.tdiv 86400 ≤ 2932897 ∧ -86400 < t.tmod 86400 ∧ t.tmod 86400 < 86400 := by
  unfold tmR at h
  simp only [Bool.and_eq_true, decide_eq_true_eq] at h
  have h1 := Int.tmod_lt_of_pos t (show (0 : Int) < 86400 by decide)
  have h2 := Int.lt_tmod_of_pos t (show (0 : Int) < 86400 by decide)
  have h3 := Int.mul_tdiv_add_tmod t 86400
  omega
theorem tmR_no (t : Int) (h : tmR t = false) : t < -62135596800 ∨ (¬ t < -62135596800 ∧ 253402300799 < t) := by
  unfold tmR at h
  rw [Bool.and_eq_false_iff] at h
  simp only [decide_eq_false_iff_not] at h
  omega
theorem tmR_yes (t : Int) (h : tmR t = true) : ¬ t < -62135596800 ∧ ¬ 253402300799 < t := by
  unfold tmR at h
  simp only [Bool.and_eq_true, decide_eq_true_eq] at h
  omega
theorem rweek_any (d : Int) (w : World) (h1 : -10000000 ≤ d) (h2 : d ≤ 10000000) : Calls Tryz.prog 154 #[.int .i64 d] w fun e w' => (∃ v, e = .returned (.int .i64 v)) ∧ w' = w := by
  go_enter Tryz.func154, Tryz.ntmps154
  go_wp2
  go_ret
  exact ⟨⟨_, rfl⟩, by first | rfl | trivial⟩
end Go.Proofs.YtpdbejeiceodkaaGreatDoor
