/- The walk of target.Normal at every path. Conditions: the path is small; bytealg's MaxLen holds an int. -/
import Derived.Test.YtpdbejeiceodkaaGreatDoorPk22
import Derived.Test.YtpdbejeiceodkaaGreatDoorPk23
namespace Go.Proofs.YtpdbejeiceodkaaGreatDoor
open Go.RowKit Go.Shelf
attribute [local go_sem] Oper.semAt_some
set_option linter.unusedSimpArgs false
set_option linter.unusedVariables false
set_option maxRecDepth 1000000
theorem class_nat (n : Nat) (hn : n < 256) (w : World) : Calls Tryz.prog 141 #[.int .u8 (n : Int)] w fun e w' => e = .returned (.int .i64 (cls n)) ∧ w' = w := by
  have := class_any (UInt8.ofNat n) w
  rw [show (UInt8.ofNat n).toNat = n from by simp; omega] at this
  exact this
theorem cls_one (n : Nat) : (cls n == 1) = unr n := by
  unfold cls
  cases unr n with
  | true => rfl
  | false =>
    rw [if_neg (by decide)]
    split
    · rfl
    · split
      · rfl
      · split
        · rfl
        · split <;> rfl
def NrmG (w : World) (B1 B2 : Nat) (pre : List (List UInt8)) (W : World) : Prop :=
  ((∃ v, Boxed W B1 34 v ∧ W.ownsRow w.heap.size 9 1 v (kpt pre).length (strV (kpt pre)) ∧ True) ∧ Boxed W B2 4 (.bool (dtl pre))) ∧ Below w.heap.size w W
theorem nrmG_own (w : World) (B1 B2 B : Nat) (hB : w.heap.size ≤ B) : OwnFrom B (NrmG w B1 B2) :=
  OwnFrom.and (OwnFrom.and (Own.from (holdsRow_own w.heap.size B1 34 9 1 (fun pre : List (List UInt8) => (kpt pre).length) (fun pre => strV (kpt pre)) (fun _ _ => True)) _) (Own.from (boxed_own B2 4 (fun pre => .bool (dtl pre))) _)) (ownFrom_below (Nat.le_refl _) hB)
theorem strG (B b : Nat) (l : List UInt8) (w : World) (h : Lib.IsBuilder 156 5 B b (Lib.byteCells l) w) (hB : B ≤ w.heap.size) :
    Calls Tryz.prog 94 #[.pointer (some ⟨b, 0, none⟩)] w fun e w' => e = .returned (.string ⟨l.toArray⟩) ∧ Below B w w' ∧ Lib.OthersKept 5 (some b) w w' :=
  (Any.Builder_String_any_k Tryz.lays169 Tryz.Builder_Extra_169 B b l w (Lib.IsBuilderF.of h) hB).mono fun e w' ⟨he, _, h1, h2⟩ => ⟨he, h1, h2⟩
theorem nrm_set {w W : World} {B1 B2 : Nat} {v vd : Value} {n : Nat} {xs : List Value} (d : Bool) (hv : Boxed W B1 34 v) (hd : Boxed W B2 4 vd) (hrow : W.ownsRow w.heap.size 9 1 v n xs) (hne : B1 ≠ B2) (hle : w.heap.size ≤ B2) :
    Boxed (W.setCell ⟨B2, 0, none⟩ (.bool d)) B1 34 v ∧ Boxed (W.setCell ⟨B2, 0, none⟩ (.bool d)) B2 4 (.bool d) ∧ (W.setCell ⟨B2, 0, none⟩ (.bool d)).ownsRow w.heap.size 9 1 v n xs ∧ Below w.heap.size W (W.setCell ⟨B2, 0, none⟩ (.bool d)) ∧ KeepsOthers W (W.setCell ⟨B2, 0, none⟩ (.bool d)) ∧ (W.setCell ⟨B2, 0, none⟩ (.bool d)).heap.size = W.heap.size :=
  ⟨hv.kept (grownBy_setCell' W B2 (.bool d)) (by simpa using hne), hd.set _, hrow.kept (grownBy_setCell' W B2 (.bool d)) (.inr (hd.not_row (by decide) hrow).symm), (Below.refl _ W).setCell (p := ⟨B2, 0, none⟩) hle _, KeepsOthers.setCell _ _ _, by simp⟩
theorem bld_lt {B b : Nat} {T e : TypeId} {bs : List Value} {w : World} (h : Lib.IsBuilder T e B b bs w) : b < w.heap.size := by
  rcases h with ⟨_, v, h2, _⟩ | ⟨_, v, h2, _⟩ <;> exact (Array.getElem?_eq_some_iff.1 h2).1
theorem cutN (N M : Nat) (h : N = M + 1) (hN : N ≤ 2147483649) : wrap64 ((N : Int) - 1) = (M : Int) ∧ IntKind.i64.wrap ((N : Int) - 1) = (M : Int) ∧ wrap64 (M : Int) = (M : Int) := by
  refine ⟨?_, ?_, ?_⟩
  · unfold wrap64; omega
  · rw [IntKind.wrap_i64]; omega
  · unfold wrap64; omega
theorem w64p2 (i n : Nat) (h : i + 3 ≤ n) (hn : n ≤ 1099511627776) : wrap64 ((i : Int) + 2) = (i : Int) + 2 := by unfold wrap64; omega
theorem w64p21 (i n : Nat) (h : i + 3 ≤ n) (hn : n ≤ 1099511627776) : wrap64 ((i : Int) + 2 + 1) = (i : Int) + 3 := by unfold wrap64; omega
set_option maxHeartbeats 8000000 in
theorem normal_any (s : ByteArray) (m : Int) (w : World) (hs : s.size ≤ 2147483648) (hm : w.cell? ⟨0, 0, none⟩ = some (.int .i64 m)) :
    Calls Tryz.prog 98 #[.string s] w fun e w' => e = .returned (.tuple #[.string ⟨(nrm s.data.toList).1.toArray⟩, .int .i64 ((nrm s.data.toList).2 : Nat)]) ∧ Below w.heap.size w w' := by
  have H1 := Lib.hid (fun w => isPath_any s w (by omega))
  have hs12 : s.size ≤ 1099511627776 := by omega
  cases hp : isP s.data.toList with
  | false =>
    rw [hp] at H1
    have HR := Lib.hid (nrm_bad _ hp)
    clear hp
    refine (callsIn_wide (n := 9)).1 ?_
    refine callsIn_of_wp_marks Tryz.func98 rfl trivial ?_ rfl
    simp only [Tryz.ntmps98, List.size_toArray, List.length_cons, List.length_nil, Nat.reduceAdd, Nat.reduceSub, Array.replicate_succ, Array.replicate_zero, List.push_toArray, List.append_toArray, List.nil_append, List.cons_append]
    gi_wp2_with (refine ⟨trivial, ?_⟩; gi_at_call 139; refine (callsIn_wide.2 (H1.out _)).mono ?_; rintro e w1 ⟨rfl, k, rfl⟩)
    exact ⟨_, results_tmp2 rfl _ _ _, by rw [HR.out]; rfl, below_drewN (Below.refl _ _) k⟩
  | true =>
    rw [hp] at H1
    obtain ⟨T0, hT0, hT⟩ := isP_head _ hp
    obtain ⟨T, hTT⟩ : ∃ T, pln T0 = T := ⟨_, rfl⟩
    rw [hTT] at hT
    have hTl : T.length + 1 ≤ s.size := by
      have := pln_le _ s.data.toList (Nat.le_refl _)
      rw [hT, size_list, List.length_cons] at this
      exact this
    have hres := nrm_good _ T hp hT
    have hspl := split_tot 47 _ T (Nat.le_refl _)
    obtain ⟨SG, hSG⟩ : ∃ SG, Lib.split T [47] = SG := ⟨_, rfl⟩
    rw [hSG] at hres hspl
    have hgn : 0 < w.heap.size := World.block_lt_of_cell? _ _ hm
    obtain ⟨i0, hi, hz0, hz1, hz2⟩ := info_parts infoStrN
    have HR := Lib.hid (And.intro hres (And.intro hspl hTl)); have HM := Lib.hid (And.intro hm hgn); have HT := Lib.hid (And.intro hT hSG)
    clear hp hT0 hT hTT hres hspl hSG hTl hm hgn
    refine (callsIn_wide (n := 9)).1 ?_
    refine callsIn_of_wp_marks Tryz.func98 rfl trivial ?_ rfl
    simp only [Tryz.ntmps98, List.size_toArray, List.length_cons, List.length_nil, Nat.reduceAdd, Nat.reduceSub, Array.replicate_succ, Array.replicate_zero, List.push_toArray, List.append_toArray, List.nil_append, List.cons_append]
    gi_wp2_with (refine ⟨trivial, ?_⟩; gi_at_call 139; refine (callsIn_wide.2 (H1.out _)).mono ?_; rintro e w1 ⟨rfl, k, rfl⟩)
    have hb0 : Below w.heap.size w ((w.drewN k).alloc (.cells #[.pointer none, .slice none 0 0] 156)) := (below_drewN (Below.refl _ w) k).alloc (Nat.le_refl _) _
    have hbl : Lib.IsBuilder 156 5 w.heap.size w.heap.size (Lib.byteCells []) ((w.drewN k).alloc (.cells #[.pointer none, .slice none 0 0] 156)) := Lib.fresh_isBuilder 156 5 (w.drewN k)
    gi_loopw [5] (fun iv wr => ∃ (i : Nat) (acc : List UInt8), iv = .int .i64 i ∧ i ≤ s.size ∧ acc.length ≤ i ∧ acc ++ pln (s.data.toList.drop i) = pln s.data.toList ∧ Lib.IsBuilder 156 5 w.heap.size w.heap.size (Lib.byteCells acc) wr ∧ Below w.heap.size w wr) (fun iv _ => s.size - (intOf iv).toNat)
    case atStart => exact ⟨0, [], rfl, Nat.zero_le _, Nat.le_refl _, rfl, hbl, hb0⟩
    case round =>
      clear hb0 hbl
      obtain ⟨i, acc, rfl, hi1, hacc, hpd, hbl, hbw⟩ := hrel
      have hbs := hbw.size
      by_cases hlt : i < s.size
      · obtain ⟨c, hc⟩ : ∃ c, s[i]'hlt = c := ⟨_, rfl⟩
        have hd := drop_get s i hlt
        rw [hc] at hd
        have k0 : (0 : Int) ≤ (i : Int) := by omega
        have k1 : (i : Int) < (s.size : Int) := by omega
        cases ht : trip (s.data.toList.drop i) with
        | some n =>
          have H := Lib.hid (fun w => triple_yes s i n w hlt (by omega) ht)
          have hn := trip_lt _ n ht
          have h3 := trip_fit s i n hlt ht
          have hnx : (acc ++ nrb n) ++ pln (s.data.toList.drop (i + 3)) = pln s.data.toList := by rw [← hpd, pln_trip _ _ ht, List.drop_drop, List.append_assoc]
          have HC := Lib.hid (fun w => class_nat n hn w)
          have hq := cls_one n
          have hw2 := w64p2 i s.size h3 hs12
          have hw21 := w64p21 i s.size h3 hs12
          have HNX := Lib.hid (And.intro hnx (And.intro h3 (nrb_len n))); have HW := Lib.hid (And.intro hw2 hw21)
          clear hnx hpd ht hd h3 hw21
          cases hu : unr n with
          | true =>
            rw [hu] at hq
            have hnr : nrb n = [UInt8.ofNat n] := by unfold nrb; rw [hu]; rfl
            have HWB := Lib.hid (fun W (hI : Lib.IsBuilder 156 5 w.heap.size w.heap.size (Lib.byteCells acc) W) (hB : w.heap.size ≤ W.heap.size) => writeByte_any w.heap.size w.heap.size _ (n : Int) W hI (by rw [Lib.byteCells_length]; omega) hB)
            have HNR := Lib.hid hnr
            clear hu hnr
            gi_wp2_with (first
              | (refine ⟨trivial, ?_⟩; gi_at_call 140; refine (callsIn_wide.2 (H.out _)).mono ?_; rintro e w2 ⟨rfl, k2, rfl⟩)
              | (refine ⟨trivial, ?_⟩; gi_at_call 141; refine (callsIn_wide.2 (HC.out _)).mono ?_; rintro e w3 ⟨rfl, hw3⟩; subst hw3)
              | (refine ⟨trivial, ?_⟩; gi_at_call 93; refine (callsIn_wide.2 (HWB.out _ (bld_laterT hbl (below_drewN (Below.refl _ wr) k2)) hbs)).mono ?_; rintro e w4 ⟨rfl, hbl4, hb4⟩))
            have HX := Lib.hid (And.intro (show Lib.IsBuilder 156 5 w.heap.size w.heap.size (Lib.byteCells (acc ++ nrb n)) w4 by rw [HNR.out, Lib.byteCells_append, ofNat_cells n hn]; exact hbl4) ((below_drewN hbw k2).trans (hb4)))
            have hw2 := HW.out.1
            have hw21 := HW.out.2
            clear hbl4 hb4 hbl hbw
            gi_wp2
            go_roundw
            case rel => (try rw [hw2]); (try rw [hw21]); clear hw2 hw21; exact ⟨i + 3, acc ++ nrb n, by go_num, HNX.out.2.1, by have := HNX.out.2.2; rw [List.length_append]; omega, HNX.out.1, HX.out.1, HX.out.2⟩
            case measure => (try rw [hw2]); (try rw [hw21]); clear hw2 hw21; have := HNX.out.2.1; simp [intOf]; omega
          | false =>
            rw [hu] at hq
            have hnr : nrb n = [37, hxU (n / 16), hxU (n % 16)] := by unfold nrb; rw [hu]; rfl
            have HPC := Lib.hid (fun w => percent_any n hn w)
            have HWS := Lib.hid (fun W (hI : Lib.IsBuilder 156 5 w.heap.size w.heap.size (Lib.byteCells acc) W) (hB : w.heap.size ≤ W.heap.size) => writeString_any w.heap.size w.heap.size acc ⟨([37, hxU (n / 16), hxU (n % 16)] : List UInt8).toArray⟩ W hI (by rw [← size_list]; simp; omega) hB)
            have HNR := Lib.hid hnr
            clear hu hnr
            gi_wp2_with (first
              | (refine ⟨trivial, ?_⟩; gi_at_call 140; refine (callsIn_wide.2 (H.out _)).mono ?_; rintro e w2 ⟨rfl, k2, rfl⟩)
              | (refine ⟨trivial, ?_⟩; gi_at_call 141; refine (callsIn_wide.2 (HC.out _)).mono ?_; rintro e w3 ⟨rfl, hw3⟩; subst hw3)
              | (refine ⟨trivial, ?_⟩; gi_at_call 143; refine (callsIn_wide.2 (HPC.out _)).mono ?_; rintro e w3 ⟨rfl, k3, rfl⟩)
              | (refine ⟨trivial, ?_⟩; gi_at_call 142; refine (callsIn_wide.2 (HWS.out _ (bld_laterT hbl (below_drewN (Below.refl _ wr) (k2 + k3))) hbs)).mono ?_; rintro e w4 ⟨rfl, hbl4, hb4, _⟩))
            have HX := Lib.hid (And.intro (show Lib.IsBuilder 156 5 w.heap.size w.heap.size (Lib.byteCells (acc ++ nrb n)) w4 by rw [HNR.out]; simpa using hbl4) ((below_drewN hbw (k2 + k3)).trans hb4))
            have hw2 := HW.out.1
            have hw21 := HW.out.2
            clear hbl4 hb4 hbl hbw
            gi_wp2
            go_roundw
            case rel => (try rw [hw2]); (try rw [hw21]); clear hw2 hw21; exact ⟨i + 3, acc ++ nrb n, by go_num, HNX.out.2.1, by have := HNX.out.2.2; rw [List.length_append]; omega, HNX.out.1, HX.out.1, HX.out.2⟩
            case measure => (try rw [hw2]); (try rw [hw21]); clear hw2 hw21; have := HNX.out.2.1; simp [intOf]; omega
        | none =>
          have H := Lib.hid (fun w => triple_no s i w hlt (by omega) ht)
          have hwi := wrap64_small i (by omega)
          rw [hd] at ht
          have hnx : (acc ++ [c]) ++ pln (s.data.toList.drop (i + 1)) = pln s.data.toList := by rw [← hpd, hd, pln_one c _ ht]; simp
          have HWB := Lib.hid (fun W (hI : Lib.IsBuilder 156 5 w.heap.size w.heap.size (Lib.byteCells acc) W) (hB : w.heap.size ≤ W.heap.size) => writeByte_u8 w.heap.size w.heap.size acc c W hI (by omega) hB)
          have HNX := Lib.hid hnx; have HW := Lib.hid hwi
          clear hnx hpd ht hd hwi
          gi_wp2_with (first
            | (refine ⟨trivial, ?_⟩; gi_at_call 140; refine (callsIn_wide.2 (H.out _)).mono ?_; rintro e w2 ⟨vv, rfl, k2, rfl⟩)
            | (refine ⟨trivial, ?_⟩; gi_at_call 93; refine (callsIn_wide.2 (HWB.out _ (bld_laterT hbl (below_drewN (Below.refl _ wr) k2)) hbs)).mono ?_; rintro e w4 ⟨rfl, hbl4, hb4⟩))
          have HX := Lib.hid (And.intro hbl4 ((below_drewN hbw k2).trans hb4))
          clear hbl4 hb4 hbl hbw
          have hwi := HW.out
          gi_wp2
          go_roundw
          case rel => (try rw [hwi]); clear hwi; exact ⟨i + 1, acc ++ [c], by go_num, hlt, by simp; omega, HNX.out, HX.out.1, HX.out.2⟩
          case measure => (try rw [hwi]); clear hwi; simp [intOf]; omega
      · obtain rfl : i = s.size := by omega
        have hd : decide (s.size < s.size) = false := decide_eq_false (Nat.lt_irrefl _)
        obtain rfl : acc = 47 :: T := by rw [← HT.out.1, ← hpd, List.drop_eq_nil_of_le (by rw [size_list]; exact Nat.le_refl _), pln_nil, List.append_nil]
        clear hpd hacc hi1
        have hb56 : Below wr.heap.size wr ((wr.alloc (.cells #[.slice none 0 0] 34)).alloc (.cells #[.bool false] 4)) := ((Below.refl _ wr).alloc (Nat.le_refl _) _).alloc (by simp) _
        have z6 : w.heap.size ≤ ((wr.alloc (.cells #[.slice none 0 0] 34)).alloc (.cells #[.bool false] 4)).heap.size := by simp; omega
        have x1 : Boxed ((wr.alloc (.cells #[.slice none 0 0] 34)).alloc (.cells #[.bool false] 4)) wr.heap.size 34 (.slice none 0 0) := (Boxed.new wr 34 _).alloc _
        have x2 : Boxed ((wr.alloc (.cells #[.slice none 0 0] 34)).alloc (.cells #[.bool false] 4)) (wr.heap.size + 1) 4 (.bool false) := by have := Boxed.new (wr.alloc (.cells #[.slice none 0 0] 34)) 4 (.bool false); rwa [World.size_alloc] at this
        have zb : w.heap.size < wr.heap.size := bld_lt hbl
        have HBLB := Lib.hid (strG w.heap.size w.heap.size (47 :: T) _ (bld_laterT hbl hb56) z6)
        have HB56 := Lib.hid (hbw.trans (hb56.mono hbs))
        clear hbl hb56
        gi_wp2_with (first
          | (refine ⟨trivial, ?_⟩; gi_at_call 94; refine (callsIn_wide.2 HBLB.out).mono ?_; rintro e w6 ⟨rfl, hb6, hk6⟩)
          | (refine ⟨trivial, ?_⟩; gi_at_call 144; refine (callsIn_wide.2 (eachG_call T _)).mono ?_; rintro e w7 ⟨rfl, rfl⟩))
        have hb06 : Below w.heap.size w w6 := HB56.out.trans hb6
        have y1 := boxed_kept x1 hk6 (by omega) (by decide)
        have y2 := boxed_kept x2 hk6 (by omega) (by decide)
        have z66 := hb06.size
        have z67 : wr.heap.size + 1 < w6.heap.size := y2.lt
        have hmw : (w6.alloc (.cells #[.string ⟨(47 :: T).toArray⟩] 9)).cell? ⟨0, 0, none⟩ = some (.int .i64 m) := mx_later (B := 0) HM.out.1 (hb06.alloc z66 _)
        have y3 := Boxed.new w6 9 (.string ⟨(47 :: T).toArray⟩)
        have hT32 : T.length < 4294967281 := by have := HR.out.2.2; omega
        have hsgl : SG.length ≤ 2147483649 := by have := HR.out.2.1.1; have := HR.out.2.2; omega
        clear x1 x2 hk6 hb6
        refine wpIn_rangeFunc_ownF (F := Fence.wide) rfl (by decide) (gf := 179) (lb := #[.pointer (some ⟨w6.heap.size, 0, none⟩)]) rfl trivial (enters_of Tryz.func179 (by kernel_rfl) rfl)
          (eachG_stops _ w6.heap.size w.heap.size (by decide) m T SG HT.out.2 hT32 HM.out.2 _ (by simp) y3.cell hmw) belowK_t (belowK_b (by simp; omega)) (Below.refl _ _) (fun _ => rfl)
          (NrmG w wr.heap.size (wr.heap.size + 1)) (fun _ _ _ => False) (nrmG_own w _ _ _ (by simp; omega)) (fun _ _ _ _ _ hs _ _ => hs)
          ⟨⟨⟨_, y1.alloc _, World.ownsRow_nil _ _ _ _, trivial⟩, y2.alloc _⟩, hb06.alloc z66 _⟩ ?a1 ?assign ?body ?done ?stop
        case assign =>
          intro l x W K hK
          gi_wp2
          exact hK
        case body =>
          rintro l pre x W ⟨⟨⟨v, hv, hrow, _⟩, hd⟩, hB⟩ hlt
          have hn1 : kpt (pre ++ [x]) = stp (kpt pre) x := kpt_snoc pre x
          have hn2 : dtl (pre ++ [x]) = dts x := dtl_snoc pre x
          have hkl := kpt_le pre
          obtain ⟨K, hK⟩ : ∃ K, kpt pre = K := ⟨_, rfl⟩
          rw [hK] at hrow hn1 hkl
          have hKl : K.length ≤ 2147483649 := by omega
          have hsm : K.length + 1 ≤ maxLen := by unfold maxLen; omega
          have hsm2 : (K.length + 1) * 16 ≤ 140737488355328 := by omega
          have hset := fun d => nrm_set (w := w) d hv hd hrow (show wr.heap.size ≠ wr.heap.size + 1 by omega) (by omega)
          have f2 := hd.frozen
          have c0 := hd.cell
          have HN := Lib.hid (And.intro hn1 hn2); have HSET := Lib.hid hset; have HBB := Lib.hid hB
          clear hK hn1 hn2 hkl hset hv hd
          cases b1 : (x == [46]) with
          | true =>
            obtain rfl : x = [46] := by simpa using b1
            clear b1
            obtain ⟨hv1, hd1, hr1, hb1, hk1, hsz⟩ := HSET.out true
            have c2 := hd1.cell
            have c1 := hv1.cell
            gi_wp2
            exact ⟨hk1, hb1, ⟨⟨_, hv1, by rw [HN.out.1, stp_dot]; exact hr1, trivial⟩, by rw [HN.out.2]; exact hd1⟩, HBB.out.trans hb1⟩
          | false =>
          cases b2 : (x == [46, 46]) with
          | true =>
            obtain rfl : x = [46, 46] := by simpa using b2
            clear b1 b2
            obtain ⟨hv1, hd1, hr1, hb1, hk1, hsz⟩ := HSET.out true
            by_cases hKe : K = []
            · subst hKe
              obtain ⟨ao, cap, rfl⟩ := own_shape hr1
              have c2 := hd1.cell
              have c1 := hv1.cell
              gi_wp2
              exact ⟨hk1, hb1, ⟨⟨_, hv1, by rw [HN.out.1, stp_nil]; exact hr1, trivial⟩, by rw [HN.out.2]; exact hd1⟩, HBB.out.trans hb1⟩
            · have hpos : 0 < K.length := List.length_pos_iff.2 hKe
              obtain ⟨gk, cap, rfl, hgk, hgk2, hcap⟩ := own_pos hr1 hpos
              have hcut := own_cut1 hr1 (K.length - 1) (by omega)
              rw [strV_take, ← drop_last_take] at hcut
              have hfin := stp_cut K hKe
              obtain ⟨N, hN⟩ : ∃ N, K.length = N := ⟨_, rfl⟩
              obtain ⟨M, hM⟩ : ∃ M, N = M + 1 := ⟨N - 1, by omega⟩
              have hdl : K.dropLast.length = M := by rw [List.length_dropLast]; omega
              rw [hN, hM, Nat.add_sub_cancel] at hcut
              rw [hN] at hpos hcap hv1
              have p1 : (0 : Int) < (N : Int) := by omega
              have p2 : (0 : Int) ≤ (M : Int) := by omega
              have p3 : (M : Int) ≤ (cap : Int) := by omega
              have hcw := cutN N M hM (by omega)
              have c2 := hd1.cell
              have c1 := hv1.cell
              have f1 := hv1.frozen
              have HFX := Lib.hid (And.intro hfin (And.intro hcut (And.intro hdl (And.intro hN hM))))
              have HV := Lib.hid (And.intro hv1 hd1)
              clear hfin hcut hdl hKe hsm hsm2 hKl hN hr1 hv1 hd1
              obtain ⟨hwm, hwm2, hwm3⟩ := hcw
              gi_wp2
              clear hwm hwm2 hwm3
              have hv2 := HV.out.1.set (.slice (some ⟨gk, 0, none⟩) M cap)
              have hd2 := HV.out.2.kept (grownBy_setCell' _ wr.heap.size (.slice (some ⟨gk, 0, none⟩) M cap)) (by simp)
              have hr2 := World.ownsRow.kept HFX.out.2.1 (grownBy_setCell' _ wr.heap.size (.slice (some ⟨gk, 0, none⟩) M cap)) (.inr (HV.out.1.not_row (by decide) HFX.out.2.1).symm)
              have hb2 := (Below.refl w.heap.size (W.setCell ⟨wr.heap.size + 1, 0, none⟩ (.bool true))).setCell (p := ⟨wr.heap.size, 0, none⟩) (show w.heap.size ≤ wr.heap.size from hbs) (.slice (some ⟨gk, 0, none⟩) M cap)
              exact ⟨hk1.trans (KeepsOthers.setCell _ _ _), hb1.trans hb2, ⟨⟨_, hv2, by rw [HN.out.1, HFX.out.1, HFX.out.2.2.1]; exact hr2, trivial⟩, by rw [HN.out.2]; exact hd2⟩, HBB.out.trans (hb1.trans hb2)⟩
          | false =>
            have hdt : dts x = false := by unfold dts; rw [b1, b2]; rfl
            have hfin := stp_keep K x b1 b2
            obtain ⟨hv1, hd1, hr1, hb1, hk1, hsz⟩ := HSET.out false
            have hz1' : w.heap.size ≤ (W.setCell ⟨wr.heap.size + 1, 0, none⟩ (.bool false)).heap.size := (HBB.out.trans hb1).size
            have hcn := cell_one_new (W.setCell ⟨wr.heap.size + 1, 0, none⟩ (.bool false)) (.string ⟨x.toArray⟩) 9
            rw [hsz] at hcn
            have c1 := hv1.cell
            have c2 := hd1.cell
            have HFX := Lib.hid (And.intro hdt hfin)
            clear hdt hfin
            gi_wp2_with (gi_at_builtin; refine wpListIn_append_own _ rfl _ _ 34 rfl w.heap.size 9 i0 (.string ByteArray.empty) 1 16 Tryz.underlying34 hi hz0 hz1 hz2 rfl (by decide) _ _ _ rfl (hr1.alloc _) ⟨W.heap.size, 0, none⟩ 1 1 [.string ⟨x.toArray⟩] rfl rfl hcn (by simp [Value.oneCell']) hsm hsm2 (by simp at hz1' ⊢; omega) ?_; intro v' w9 hown' hgrow _; obtain ⟨g', cap', rfl⟩ := ownsRow_succ hown'; obtain ⟨hv9, hv2, hr2, hk2, hb2⟩ := hv1.appended (by decide) hr1 hz1' (by omega) hown' hgrow; have hc9 := hv9.cell; have hf9 := hv9.frozen; have hd9 := ((hd1.alloc (.cells #[.string ⟨x.toArray⟩] 9)).kept hgrow (hd1.not_row (by decide) hr1)).kept (grownBy_setCell' w9 wr.heap.size (.slice (some ⟨g', 0, none⟩) (K.length + 1) cap')) (by simp))
            exact ⟨hk1.trans hk2, hb1.trans hb2, ⟨⟨_, hv2, by rw [HN.out.1, HFX.out.2, List.length_append, strV_snoc]; exact hr2, trivial⟩, by rw [HN.out.2, HFX.out.1]; exact hd9⟩, HBB.out.trans (hb1.trans hb2)⟩
        case done =>
          rintro D ys W hD hys ⟨⟨⟨v, hv, hrow, _⟩, hd⟩, hB⟩ hK
          rw [hys] at hrow hd
          have hkpe : kpe SG = if dtl SG = true then kpt SG ++ [[]] else kpt SG := rfl
          have hkb := kpe_tot SG
          have hkl := kpt_le SG
          have hjl := join_tot (kpe SG) [47]
          have hfin2 := HR.out.1
          obtain ⟨KP, hKP⟩ : ∃ KP, kpe SG = KP := ⟨_, rfl⟩
          rw [hKP] at hkpe hkb hfin2 hjl
          have hl3 : (Lib.join KP [47]).length ≤ 8589934592 ∧ KP.length ≤ 2147483650 := by
            have := HR.out.2.1.2.1; have := HR.out.2.2
            simp only [List.length_cons, List.length_nil] at hjl
            omega
          obtain ⟨K, hKK⟩ : ∃ K, kpt SG = K := ⟨_, rfl⟩
          rw [hKK] at hrow hkl hkpe
          have hDlt : D < W.heap.size := (Array.getElem?_eq_some_iff.1 hK).1
          have hcat : (⟨#[47]⟩ : ByteArray) ++ (⟨(Lib.join KP [47]).toArray⟩ : ByteArray) = ⟨(47 :: Lib.join KP [47]).toArray⟩ := by refine ba_ext ?_; simp
          have hnof : ¬ 9223372036854775807 < 1 + (Lib.join KP [47]).length := by omega
          have hjsz : (⟨(Lib.join KP [47]).toArray⟩ : ByteArray).size = (Lib.join KP [47]).length := by rw [← size_list]
          have HJ := Lib.hid (show ∀ (W : World) (v : Value), W.ownsRow w.heap.size 9 1 v KP.length (strV KP) → Calls Tryz.prog 145 #[v, .string ⟨#[47]⟩] W fun e w' => e = .returned (.string ⟨(Lib.join KP [47]).toArray⟩) ∧ Below W.heap.size W w' from fun W v ho => join_own KP ⟨#[47]⟩ ho (by omega) (by show (Lib.join KP [47]).length ≤ _; omega))
          have HFX := Lib.hid hfin2
          clear hjl hfin2 hkb hKP hKK
          have f1 := hv.frozen
          have c1 := hv.cell
          cases hdd : dtl SG with
          | false =>
            rw [hdd] at hd hkpe
            rw [if_neg (by decide)] at hkpe
            subst hkpe
            have c2 := hd.cell
            gi_wp2_with (refine ⟨trivial, ?_⟩; gi_at_call 145; refine (callsIn_wide.2 (HJ.out W v hrow)).mono ?_; rintro e w' ⟨rfl, hbj⟩)
            have hKf : w'.heap[D]? = some (.deferred (some [])) := (hbj.block D hDlt).trans hK
            refine ⟨by simp, .inl ⟨_, _, rfl, run_takeDeferred hKf, ?_⟩⟩
            exact ⟨_, results_tmp2 rfl _ _ _, by rw [HFX.out]; rfl, (hB.trans (hbj.mono hB.size)).trans (belowK_b (w := w) (Nat.le_refl _) w' D _ _ (by simp at hD; omega) hKf rfl rfl)⟩
          | true =>
            rw [hdd] at hd hkpe
            rw [if_pos rfl] at hkpe
            have hKL : K.length + 1 = KP.length := by rw [hkpe]; simp
            have hsV : strV KP = strV K ++ [.string ⟨#[]⟩] := by rw [hkpe, strV_snoc]
            have c2 := hd.cell
            have HJ2 := Lib.hid (show ∀ (W : World) (v : Value), W.ownsRow w.heap.size 9 1 v (K.length + 1) (strV K ++ [.string ⟨#[]⟩]) → Calls Tryz.prog 145 #[v, .string ⟨#[47]⟩] W fun e w' => e = .returned (.string ⟨(Lib.join KP [47]).toArray⟩) ∧ Below W.heap.size W w' from fun W v ho => HJ.out W v (by rw [← hKL, hsV]; exact ho))
            have hKl3 : K.length + 1 ≤ 2147483650 := by rw [hKL]; exact hl3.2
            have hsm : K.length + 1 ≤ maxLen := by unfold maxLen; omega
            have hsm2 : (K.length + 1) * 16 ≤ 140737488355328 := by omega
            clear hKL hsV hkpe hcat
            have hcat : (⟨#[47]⟩ : ByteArray) ++ (⟨(Lib.join KP [47]).toArray⟩ : ByteArray) = ⟨(47 :: Lib.join KP [47]).toArray⟩ := by refine ba_ext ?_; simp
            have hzB := hB.size
            have hcn := cell_one_new W (.string ⟨#[]⟩) 9
            gi_wp2_with ((gi_at_builtin; refine wpListIn_append_own _ rfl _ _ 34 rfl w.heap.size 9 i0 (.string ByteArray.empty) 1 16 Tryz.underlying34 hi hz0 hz1 hz2 rfl (by decide) _ _ _ rfl (hrow.alloc _) ⟨W.heap.size, 0, none⟩ 1 1 [.string ⟨#[]⟩] rfl rfl hcn (by simp [Value.oneCell']) hsm hsm2 (by simp; omega) ?_; intro v' w9 hown' hgrow _; obtain ⟨g', cap', rfl⟩ := ownsRow_succ hown'; obtain ⟨hv9, hv2, hr2, hk2, hb2⟩ := hv.appended (by decide) hrow hzB (by omega) hown' hgrow; have hc9 := hv9.cell; have hf9 := hv9.frozen; have hc10 := hv2.cell))
            gi_wp2_with (refine ⟨trivial, ?_⟩; gi_at_call 145; refine (callsIn_wide.2 (HJ2.out _ _ hr2)).mono ?_; rintro e w' ⟨rfl, hbj⟩)
            have hK9 := hk2.same D _ hK rfl
            have hKf : w'.heap[D]? = some (.deferred (some [])) := (hbj.block D (Array.getElem?_eq_some_iff.1 hK9).1).trans hK9
            have hB9 := hB.trans hb2
            refine ⟨by simp, .inl ⟨_, _, rfl, run_takeDeferred hKf, ?_⟩⟩
            exact ⟨_, results_tmp2 rfl _ _ _, by rw [HFX.out]; rfl, (hB9.trans (hbj.mono hB9.size)).trans (belowK_b (w := w) (Nat.le_refl _) w' D _ _ (by simp at hD; omega) hKf rfl rfl)⟩
        case stop =>
          rintro D c pre W _ _ h _
          exact h.elim
end Go.Proofs.YtpdbejeiceodkaaGreatDoor
