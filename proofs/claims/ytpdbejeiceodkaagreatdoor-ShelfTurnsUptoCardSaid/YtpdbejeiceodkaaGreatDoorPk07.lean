/- RNp, RNq, NmQ, ParS, DisP: texts of the seat, one behind the other (a claim holds at most sixty). Conditions: each theorem names its own. -/
import Derived.Test.YtpdbejeiceodkaaGreatDoorPk06
import Derived.Test.YtpdbejeiceodkaaGreatDoorPk01
import Derived.Laws.OwnMore
import Derived.Maps.OwnSet
namespace Go.Proofs.YtpdbejeiceodkaaGreatDoor
open Go.RowKit
set_option linter.unusedSimpArgs false
set_option linter.unusedVariables false
set_option maxRecDepth 1000000
theorem hd_get (s : ByteArray) (h : 0 < s.size) : s.data.toList.head? = some (s[0]'h) := by
  have := list_get s 0 h
  rw [List.head?_eq_getElem?]
  exact this
theorem hd_47 (c : UInt8) : ((some c : Option UInt8) == some 47) = (c == 47) := by rw [Bool.eq_iff_iff]; simp
theorem ne_emp (s : ByteArray) (h : 0 < s.size) : s.toList.isEmpty = false := by
  rw [ByteArray.toList_eq]
  cases he : s.data.toList with
  | nil => have := size_list s; rw [he] at this; simp at this; omega
  | cons c r => rfl
set_option maxHeartbeats 4000000 in
theorem rIsPath_any (s : ByteArray) (w : World) (hs : s.size ≤ 1099511627776) : Calls Tryz.prog 150 #[.string s] w fun e w' => e = .returned (.bool (isP s.data.toList)) ∧ w' = w := by
  by_cases h0 : 0 < s.size
  · have H1 := Lib.hid (fun w => scan_any s w hs)
    have hh := hd_get s h0
    have hne := ne_emp s h0
    obtain ⟨c, hc⟩ : ∃ c, s[0]'h0 = c := ⟨_, rfl⟩
    rw [hc] at hh
    obtain ⟨a, ea⟩ : ∃ a, (s[0]'h0).toNat = a := ⟨_, rfl⟩
    have hb : ((a : Int) == 47) = (c == 47) := u8_beq c 47 a 47 (by rw [← hc]; exact ea) rfl
    have hip : isP s.data.toList = (c == 47 && sgn s.data.toList == s.size) := by unfold isP; rw [hh, hd_47, size_list]
    have k1 : (0 : Int) < (s.size : Int) := by omega
    clear hh hc
    cases hq : (c == 47) with
    | false =>
      rw [hq] at hb hip
      have HR := Lib.hid hip
      clear hip hq
      go_enter Tryz.func150, Tryz.ntmps150
      go_wp2_with fail
      refine (H1.out _).mono ?_
      rintro e w1 ⟨x, y, rfl, hy, hw1⟩
      subst hw1
      have HY := Lib.hid hy
      clear hy
      go_wp2
      go_ret
      exact ⟨by rw [HR.out]; rfl, by first | rfl | trivial⟩
    | true =>
      rw [hq] at hb hip
      have HR := Lib.hid hip
      clear hip hq
      go_enter Tryz.func150, Tryz.ntmps150
      go_wp2_with fail
      refine (H1.out _).mono ?_
      rintro e w1 ⟨x, y, rfl, hy, hw1⟩
      subst hw1
      have HY := Lib.hid hy
      clear hy
      go_wp2
      go_ret
      refine ⟨?_, by first | rfl | trivial⟩
      rw [HR.out, Bool.true_and]
      exact congrArg (fun b => Ending.returned (Value.bool b)) HY.out
  · have hz : s = ⟨#[]⟩ := by
      have h1 : s.data.toList = [] := List.eq_nil_of_length_eq_zero (by rw [size_list]; omega)
      apply ba_ext
      rw [h1]
    subst hz
    have H1 := Lib.hid (fun w => scan_any ⟨#[]⟩ w hs)
    have HR := Lib.hid (show isP (⟨#[]⟩ : ByteArray).data.toList = false by decide)
    clear h0 hs
    go_enter Tryz.func150, Tryz.ntmps150
    go_wp2_with fail
    refine (H1.out _).mono ?_
    rintro e w1 ⟨x, y, rfl, hy, hw1⟩
    subst hw1
    have HY := Lib.hid hy
    clear hy
    go_wp2
    go_ret
    exact ⟨by rw [HR.out]; rfl, by first | rfl | trivial⟩
theorem hxU_at (q : Nat) (h : q < (⟨#[48, 49, 50, 51, 52, 53, 54, 55, 56, 57, 65, 66, 67, 68, 69, 70]⟩ : ByteArray).size) : (⟨#[48, 49, 50, 51, 52, 53, 54, 55, 56, 57, 65, 66, 67, 68, 69, 70]⟩ : ByteArray)[q]'h = hxU q := by
  have : ∀ q : Fin 16, (⟨#[48, 49, 50, 51, 52, 53, 54, 55, 56, 57, 65, 66, 67, 68, 69, 70]⟩ : ByteArray)[q.val]'q.isLt = hxU q.val := by decide +kernel
  exact this ⟨q, h⟩
theorem cells3 (q1 q2 : Nat) : [Value.int .u8 37, .int .u8 ((hxU q1).toNat : Int), .int .u8 ((hxU q2).toNat : Int)] = Lib.byteCells [37, hxU q1, hxU q2] := rfl
theorem u8n_div16' (n q : Nat) (hn : n < 256) (h : n / 16 = q) : IntKind.u8.wrap ((n : Int) / 16) = (q : Int) := by
  rw [IntWalk.u8_in _ (by omega), ← h]; omega
theorem u8n_mod16'' (n q : Nat) (hn : n < 256) (h : n % 16 = q) : IntKind.u8.wrap ((n : Int) % 16) = (q : Int) := by
  rw [IntWalk.u8_in _ (by omega), ← h]; omega
theorem u8n_div16 (n q : Nat) (hn : n < 256) (h : n / 16 = q) : IntKind.u8.wrap ((n : Int).tdiv 16) = (q : Int) := by
  rw [IntWalk.u8_quo _ _ (by omega), ← h]; omega
theorem u8n_mod16 (n q : Nat) (hn : n < 256) (h : n % 16 = q) : IntKind.u8.wrap ((n : Int).tmod 16) = (q : Int) := by
  rw [Int.tmod_eq_emod_of_nonneg (by omega), IntWalk.u8_in _ (by omega), ← h]; omega
theorem u8n_mod16' (n q : Nat) (hn : n < 256) (h : n % 16 = q) : (n : Int).tmod 16 = (q : Int) := by
  rw [Int.tmod_eq_emod_of_nonneg (by omega), ← h]; omega
/-- A byte as it is, or its triple. -/
def putL (p : Bool) (n : Nat) : List UInt8 := if p = true then [UInt8.ofNat n] else [37, hxU (n / 16), hxU (n % 16)]
set_option maxHeartbeats 4000000 in
theorem put_any (L : Nat) (v : Value) (acc : List UInt8) (n : Nat) (p : Bool) (w : World) (hn : n < 256) (hown : w.ownsRow L 5 1 v acc.length (Lib.byteCells acc)) (hL : L ≤ w.heap.size) (hlen : acc.length ≤ 1099511627776) :
    Calls Tryz.prog 188 #[v, .int .u8 (n : Int), .bool p] w fun e w' => ∃ v', e = .returned v' ∧ w'.ownsRow L 5 1 v' (acc ++ putL p n).length (Lib.byteCells (acc ++ putL p n)) ∧ Below L w w' := by
  obtain ⟨i0, hi0, hz0, hz1, hz2⟩ := info_parts infoByte
  have hbw := Below.refl L w
  cases p with
  | true =>
    have hsm : acc.length + 1 ≤ maxLen := by unfold maxLen; omega
    have hsm2 : (acc.length + 1) * 1 ≤ 140737488355328 := by omega
    go_enter Tryz.func188, Tryz.ntmps188
    go_wp2_with (at_builtin; refine wpList_append_own _ rfl (.tmp 8) (.tmp 10) 76 rfl L 5 i0 (.int .u8 0) 1 1 Tryz.underlying76 hi0 hz0 hz1 hz2 rfl (by decide) _ _ _ rfl (hown.alloc _) ⟨w.heap.size, 0, none⟩ 1 1 [.int .u8 (n : Int)] rfl rfl (cells_new _ _ _) (by simp [Value.oneCell']) hsm hsm2 ?d0 ?_)
    case d0 => simp; omega
    intro v1 w7 hI1 hg7 _
    have hb8 := (hbw.alloc hL _).grown hg7 (by simp; omega) (fun j hj => (hown.lt j hj).1)
    rw [← ofNat_cells n hn, ← Lib.byteCells_append] at hI1
    have HI1 := Lib.hid hI1; have HB8 := Lib.hid hb8
    clear hI1 hb8 hg7 hown hbw
    go_wp2
    go_ret
    refine ⟨_, rfl, ?_, HB8.out⟩
    rw [show putL true n = [UInt8.ofNat n] from rfl, List.length_append]
    exact HI1.out
  | false =>
    have hsm : acc.length + 3 ≤ maxLen := by unfold maxLen; omega
    have hsm2 : (acc.length + 3) * 1 ≤ 140737488355328 := by omega
    obtain ⟨q1, hq1⟩ : ∃ q, n / 16 = q := ⟨_, rfl⟩
    obtain ⟨q2, hq2⟩ : ∃ q, n % 16 = q := ⟨_, rfl⟩
    have l1 : q1 < 16 := by omega
    have l2 : q2 < 16 := by omega
    have d0 := u8n_div16 n _ hn hq1
    have d1 := u8n_mod16 n _ hn hq2
    have d2 := u8n_mod16'' n _ hn hq2
    have d3 := u8n_div16' n _ hn hq1
    have d4 := u8n_mod16' n _ hn hq2
    have HQ := Lib.hid (And.intro hq1 hq2)
    clear hq1 hq2 hn
    have la0 : (0 : Int) ≤ (q1 : Int) := Int.natCast_nonneg _
    have lb0 : (0 : Int) ≤ (q2 : Int) := Int.natCast_nonneg _
    have la : (q1 : Int) < 16 := by clear d0 d1 d2 d3 d4; omega
    have lb : (q2 : Int) < 16 := by clear d0 d1 d2 d3 d4; omega
    go_enter Tryz.func188, Tryz.ntmps188
    go_upto_region 3 with fail
    refine wp_region_text [(0, true), (1, true), (2, true), (3, true), (4, true), (5, true), (6, true), (7, false), (8, false), (9, true)] (by kernel_rfl) (by kernel_rfl) (by kernel_rfl) (by kernel_rfl) ?_
    repeat (refine wpTx_take rfl (by rfl) (v := ?_) ?_ ?_; rotate_left; · (intro w; go_simp; with_reducible rfl))
    refine wpTx_step rfl (fun K hK => ?_)
    go_simp
    refine hK _ _ ?_
    clear hK K
    refine wpTx_step rfl (fun K hK => ?_)
    refine step_append_own rfl (.tmp 12) (.tmp 19) 76 rfl L 5 i0 (.int .u8 0) 1 1 Tryz.underlying76 hi0 hz0 hz1 hz2 rfl (by decide) _ _ _ rfl ((hown.drew).alloc _) ⟨w.heap.size, 0, none⟩ 3 3 [.int .u8 _, .int .u8 _, .int .u8 _] rfl rfl (cells_new _ _ _) (by simp [Value.oneCell']) hsm hsm2 (by simp; omega) ?_
    intro v1 w1 hI1 hg1
    refine hK _ _ ?_
    clear hK K
    repeat (refine wpTx_take rfl (by rfl) (v := ?_) ?_ ?_; rotate_left; · (intro w; go_simp; with_reducible rfl))
    refine wpTx_nil ?_
    rw [hxU_at, hxU_at] at hI1
    have hb8 := ((hbw.drew).alloc (by simpa using hL) _).grown hg1 (by simp; omega) (fun j hj => (hown.lt j hj).1)
    rw [cells3, ← Lib.byteCells_append] at hI1
    have HI1 := Lib.hid hI1; have HB8 := Lib.hid hb8
    clear hI1 hb8 hg1 hown hbw d0 d1 d2 d3 d4
    go_simp
    go_wp2
    go_ret
    refine ⟨_, rfl, ?_, HB8.out⟩
    rw [show putL false n = [37, hxU q1, hxU q2] by rw [← HQ.out.1, ← HQ.out.2]; rfl, List.length_append]
    exact HI1.out
theorem putL_nrb (n : Nat) : putL (unr n) n = nrb n := rfl
end Go.Proofs.YtpdbejeiceodkaaGreatDoor
namespace Go.Proofs.YtpdbejeiceodkaaGreatDoor
open Go.RowKit
set_option linter.unusedSimpArgs false
set_option linter.unusedVariables false
set_option maxRecDepth 1000000
set_option maxHeartbeats 4000000 in
theorem rplain_any (s : ByteArray) (w : World) (hs : s.size ≤ 1099511627776) :
    Calls Tryz.prog 152 #[.string s] w fun e w' => e = .returned (.string ⟨(pln s.data.toList).toArray⟩) ∧ Below w.heap.size w w' := by
  obtain ⟨i0, hi, hz0, hz1, hz2⟩ := info_parts infoByte
  go_enter Tryz.func152, Tryz.ntmps152
  go_wp2
  go_loopw [4, 3] (fun iv v wr => ∃ (i : Nat) (acc : List UInt8), iv = .int .i64 i ∧ i ≤ s.size ∧ acc.length ≤ i ∧ acc ++ pln (s.data.toList.drop i) = pln s.data.toList ∧ wr.ownsRow w.heap.size 5 1 v acc.length (Lib.byteCells acc) ∧ Below w.heap.size w wr)
    (fun i _ _ => s.size - (intOf i).toNat)
  case atStart => exact ⟨0, [], rfl, Nat.zero_le _, Nat.le_refl _, rfl, World.ownsRow_made w #[] 0 (Nat.le_refl _) (by simp) rfl, (Below.refl _ w).alloc (Nat.le_refl _) _⟩
  case round =>
    obtain ⟨i, acc, rfl, hi1, hacc, hpd, hown, hbw⟩ := hrel
    have hbs := hbw.size
    by_cases hlt : i < s.size
    · obtain ⟨c, hc⟩ : ∃ c, s[i]'hlt = c := ⟨_, rfl⟩
      have hd := drop_get s i hlt
      rw [hc] at hd
      have hsm : acc.length + 1 ≤ maxLen := by unfold maxLen; omega
      have hsm2 : (acc.length + 1) * 1 ≤ 140737488355328 := by omega
      have k0 : (0 : Int) ≤ (i : Int) := by omega
      have k1 : (i : Int) < (s.size : Int) := by omega
      have H := Lib.hid (fun w => rtriple_any s i w hlt (by omega))
      cases ht : trip (s.data.toList.drop i) with
      | some n =>
        rw [ht] at H
        have hn := trip_lt _ n ht
        have h3 := trip_fit s i n hlt ht
        have hnx : (acc ++ nrb n) ++ pln (s.data.toList.drop (i + 3)) = pln s.data.toList := by rw [← hpd, pln_trip _ _ ht, List.drop_drop, List.append_assoc]
        have HS := Lib.hid (fun w => says_any s i n w hlt (by omega) ht)
        have hw3 := w64p3 i s.size h3 hs
        have HNX := Lib.hid (And.intro hnx (And.intro hn (And.intro h3 (nrb_len n)))); have HW := Lib.hid hw3
        have HU := Lib.hid (show ∀ w, Calls Tryz.prog 189 #[.int .u8 (n : Int)] w fun e w' => e = .returned (.bool (unr n)) ∧ w' = w by
          intro w
          have := runr_any (UInt8.ofNat n) w
          rw [show (UInt8.ofNat n).toNat = n from by simp; omega] at this
          exact this)
        have HPP := Lib.hid (fun (L : Nat) (v : Value) (w : World) ho hl => put_any L v acc n (unr n) w hn ho hl (by omega))
        clear hnx hn hpd ht hd h3 hw3 hsm hsm2
        go_wp2_with fail
        refine (H.out _).mono ?_
        rintro e w1 ⟨rfl, hw1⟩
        subst hw1
        go_wp2_with fail
        refine (HS.out _).mono ?_
        rintro e w1 ⟨rfl, hw1⟩
        subst hw1
        go_wp2_with fail
        refine (HU.out _).mono ?_
        rintro e w1 ⟨rfl, hw1⟩
        subst hw1
        go_wp2_with fail
        refine (HPP.out w.heap.size _ _ hown hbs).mono ?_
        rintro e w2 ⟨v2, rfl, hown2, hb2⟩
        have HI1 := Lib.hid hown2; have HB8 := Lib.hid (hbw.trans hb2)
        clear hown2 hb2 hown hbw
        go_wp2
        have hw3 := HW.out
        go_roundw
        case rel =>
          (try rw [hw3]); clear hw3
          refine ⟨i + 3, acc ++ nrb n, by go_num, HNX.out.2.2.1, ?_, HNX.out.1, HI1.out, HB8.out⟩
          have := HNX.out.2.2.2
          rw [List.length_append]
          omega
        case measure => (try rw [hw3]); clear hw3; have := HNX.out.2.2.1; simp [intOf]; omega
      | none =>
        rw [ht] at H
        rw [hd] at ht
        have hnx : (acc ++ [c]) ++ pln (s.data.toList.drop (i + 1)) = pln s.data.toList := by rw [← hpd, hd, pln_one c _ ht]; simp
        have hwi := wrap64_small i (by omega)
        have HNX := Lib.hid hnx; have HW := Lib.hid hwi
        clear hnx hd hpd ht hwi
        go_wp2_with fail
        refine (H.out _).mono ?_
        rintro e w1 ⟨rfl, hw1⟩
        subst hw1
        go_wp2_with (at_builtin; refine wpList_append_own _ rfl (.tmp 24) (.tmp 28) 76 rfl w.heap.size 5 i0 (.int .u8 0) 1 1 Tryz.underlying76 hi hz0 hz1 hz2 rfl (by decide) _ _ _ rfl (hown.alloc _) ⟨w1.heap.size, 0, none⟩ 1 1 [.int .u8 (c.toNat : Int)] rfl rfl (cells_new _ _ _) (by simp [Value.oneCell']) hsm hsm2 ?d0 ?_)
        case d0 => simp; omega
        intro v1 w7 hI1 hg7 _
        have hb8 := (hbw.alloc (by omega) _).grown hg7 (by simp; omega) (fun j hj => (hown.lt j hj).1)
        rw [← byteCells_one c, ← Lib.byteCells_append] at hI1
        have HI1 := Lib.hid hI1; have HB8 := Lib.hid hb8
        clear hI1 hb8 hg7 hown hbw
        go_wp2
        have hwi := HW.out
        go_roundw
        case rel =>
          (try rw [hwi]); clear hwi
          refine ⟨i + 1, acc ++ [c], by go_num, by omega, by simp; omega, HNX.out, ?_, HB8.out⟩
          rw [List.length_append]
          exact HI1.out
        case measure => (try rw [hwi]); clear hwi; simp [intOf]; omega
    · obtain rfl : i = s.size := by omega
      have hres : pln s.data.toList = acc := by
        rw [← hpd, List.drop_eq_nil_of_le (by rw [size_list]; omega), pln_nil, List.append_nil]
      have hcv := run_str_own wr 76 5 Tryz.underlying76 Tryz.underlying5 hown 9 Tryz.underlying9
      have HRS := Lib.hid hres; clear hres hpd hown
      go_wp2
      go_ret
      exact ⟨by rw [HRS.out]; rfl, hbw⟩
end Go.Proofs.YtpdbejeiceodkaaGreatDoor
namespace Go.Proofs.YtpdbejeiceodkaaGreatDoor
open Go.RowKit
set_option linter.unusedSimpArgs false
set_option linter.unusedVariables false
set_option maxRecDepth 1000000
theorem split_tot (c : UInt8) : ∀ (k : Nat) (l : List UInt8), l.length ≤ k → (Lib.split l [c]).length ≤ l.length + 1 ∧ tot (Lib.split l [c]) ≤ l.length ∧ Lib.split l [c] ≠ []
  | k, l, h => by
    have hst := split_step c l
    have hr := cut_rest c l
    cases hm : (Lib.cut l [c]).2.2 with
    | false =>
      rw [hm, if_neg (by decide)] at hst
      rw [hst]
      simp [tot]
    | true =>
      rw [hm, if_pos rfl] at hst
      have hr := hr hm
      cases k with
      | zero => omega
      | succ k =>
        have ih := split_tot c k (Lib.cut l [c]).2.1 (by omega)
        rw [hst]
        simp only [List.length_cons, tot]
        exact ⟨by omega, by omega, by simp⟩
def slj (l : List (List UInt8)) : List UInt8 := l.flatMap fun p => 47 :: p
theorem slj_snoc (l : List (List UInt8)) (p : List UInt8) : slj (l ++ [p]) = slj l ++ 47 :: p := by simp [slj]
theorem slj_len (l : List (List UInt8)) : (slj l).length = tot l + l.length := by
  induction l with
  | nil => rfl
  | cons p r ih => rw [show slj (p :: r) = 47 :: p ++ slj r from rfl, List.length_append, ih]; simp only [List.length_cons, tot]; omega
theorem slj_join : ∀ (l : List (List UInt8)), l ≠ [] → slj l = 47 :: Lib.join l [47]
  | [p], _ => by rw [Lib.join_one]; simp [slj]
  | p :: q :: r, _ => by
    have ih := slj_join (q :: r) (by simp)
    rw [show slj (p :: q :: r) = 47 :: p ++ slj (q :: r) from rfl, ih, show Lib.join (p :: q :: r) [47] = p ++ [47] ++ Lib.join (q :: r) [47] from by first | rfl | simp [Lib.join]]
    simp
theorem tot_take (l : List (List UInt8)) (i : Nat) : tot (l.take i) ≤ tot l := by
  have := tot_append (l.take i) (l.drop i)
  rw [List.take_append_drop] at this
  omega
theorem isP_head (l : List UInt8) (h : isP l = true) : ∃ T, l = 47 :: T ∧ pln l = 47 :: pln T := by
  unfold isP at h
  rw [Bool.and_eq_true] at h
  cases l with
  | nil => exact absurd h.1 (by decide)
  | cons c r =>
    obtain rfl : c = 47 := by simpa using h.1
    exact ⟨r, rfl, pln_one 47 r (trip_first 47 r (by decide))⟩
theorem nrm_bad (l : List UInt8) (h : isP l = false) : nrm l = ([], 53) := by unfold nrm; rw [if_neg (by rw [h]; decide)]
theorem nrm_good (l T : List UInt8) (h : isP l = true) (hT : pln l = 47 :: T) : nrm l = (47 :: Lib.join (kpe (Lib.split T [47])) [47], 0) := by unfold nrm; rw [if_pos h, hT]; rfl
theorem own_shape {w : World} {base : Nat} {e : TypeId} {v : Value} {n : Nat} {xs : List Value} (h : w.ownsRow base e 1 v n xs) : ∃ ao cap, v = .slice ao n cap := by
  rcases h.2 with ⟨rfl, rfl⟩ | ⟨g, cap, cur, rfl, _⟩
  · exact ⟨none, 0, rfl⟩
  · exact ⟨_, _, rfl⟩
theorem own_pos {w : World} {base : Nat} {e : TypeId} {v : Value} {n : Nat} {xs : List Value} (h : w.ownsRow base e 1 v n xs) (hn : 0 < n) : ∃ g cap, v = .slice (some ⟨g, 0, none⟩) n cap ∧ base ≤ g ∧ g < w.heap.size ∧ n ≤ cap := by
  rcases h.2 with ⟨rfl, rfl⟩ | ⟨g, cap, cur, rfl, h1, h2, h3, _⟩
  · omega
  · exact ⟨_, _, rfl, h1, (Array.getElem?_eq_some_iff.1 h2).1, h3⟩
theorem own_cut1 {w : World} {base : Nat} {e : TypeId} {g n cap : Nat} {xs : List Value} (h : w.ownsRow base e 1 (.slice (some ⟨g, 0, none⟩) n cap) n xs) (k : Nat) (hk : k ≤ n) : w.ownsRow base e 1 (.slice (some ⟨g, 0, none⟩) k cap) k (xs.take k) := by
  have hl := h.1
  rw [Nat.mul_one] at hl
  refine ⟨by rw [List.length_take, hl, Nat.min_eq_left hk, Nat.mul_one], .inr ?_⟩
  rcases h.2 with ⟨h0, _⟩ | ⟨g2, cap2, cur, he, h1, h2, h3, h4, h5, h6⟩
  · injection h0 with h0; cases h0
  · injection he with e1 e2 e3
    injection e1 with e1
    injection e1 with e1
    subst e1
    subst e3
    refine ⟨g, cap, cur, rfl, h1, h2, by omega, h4, h5, ?_⟩
    rw [Nat.mul_one] at h6 ⊢
    rw [← h6, List.take_take, Nat.min_eq_left hk]
theorem StrsAt.laterB {w w' : World} {g : Nat} {l : List (List UInt8)} {B : Nat} (h : StrsAt w g l) (hb : Below B w w') (hB : g < B) : StrsAt w' g l :=
  ⟨Nat.lt_of_lt_of_le h.1 hb.size, fun j p hp => by rw [World.cell?_of_block (a := ⟨g, j, none⟩) (w := w) (w' := w') (hb.block g hB)]; exact h.2 j p hp⟩
theorem rowAt_own {w : World} {base g n cap : Nat} {l : List (List UInt8)} (h : w.ownsRow base 9 1 (.slice (some ⟨g, 0, none⟩) n cap) l.length (strV l)) : StrsAt w g l := by
  refine ⟨?_, fun j p hp => ?_⟩
  · rcases h.2 with ⟨h0, _⟩ | ⟨g2, cap2, cur, he, h1, h2, _⟩
    · injection h0 with h0; cases h0
    · injection he with e1 e2 e3
      injection e1 with e1
      injection e1 with e1
      subst e1
      exact (Array.getElem?_eq_some_iff.1 h2).1
  · have := h.cells (g := g) rfl j (.string ⟨p.toArray⟩) (by simp [strV, hp])
    rwa [show (⟨g, 0, none⟩ : Addr).add j = ⟨g, 0 + j, none⟩ from by unfold Addr.add; split <;> simp_all, Nat.zero_add] at this
theorem strV_take (l : List (List UInt8)) (k : Nat) : (strV l).take k = strV (l.take k) := by simp [strV, List.map_take]
theorem strV_len (l : List (List UInt8)) : (strV l).length = l.length := by simp [strV]
theorem drop_last_take (l : List (List UInt8)) : l.dropLast = l.take (l.length - 1) := List.dropLast_eq_take
theorem stp_cut (k : List (List UInt8)) (h : k ≠ []) : stp k [46, 46] = k.dropLast := by unfold stp; rw [if_pos ⟨rfl, h⟩]
theorem stp_nil : stp [] [46, 46] = [] := by unfold stp; rw [if_neg (fun h => h.2 rfl)]; rfl
theorem stp_dot (k : List (List UInt8)) : stp k [46] = k := by unfold stp; rw [if_neg (fun h => by cases h.1)]; rfl
theorem stp_keep (k : List (List UInt8)) (s : List UInt8) (h1 : (s == [46]) = false) (h2 : (s == [46, 46]) = false) : stp k s = k ++ [s] := by
  unfold stp
  rw [if_neg (fun h => by rw [h.1] at h2; exact absurd h2 (by decide)), if_neg]
  unfold dts
  rw [h1, h2]
  decide
theorem ext_one (T : List UInt8) (n : Nat) (h : n = T.length + 1) : (⟨(47 :: T).toArray⟩ : ByteArray).extract 1 n = ⟨T.toArray⟩ := by
  rw [extract_mk]
  subst h
  simp
end Go.Proofs.YtpdbejeiceodkaaGreatDoor
namespace Go.Proofs.YtpdbejeiceodkaaGreatDoor
open Go.RowKit
set_option linter.unusedSimpArgs false
set_option linter.unusedVariables false
/-- What Params answers: the parameters, the bytes, the fault. -/
def parR (l : List UInt8) : List Par × Nat × Nat := match parP l with
  | some (ps, k) => (ps, k, 0)
  | none => ([], 0, 15)
def ParR (L : List UInt8) (e : Nat) (done : List Par) : Prop := e ≤ L.length ∧ done.length ≤ e ∧ (parP (L.drop e)).map (fun x => (done ++ x.1, e + x.2)) = parP L
theorem ParR.start (L : List UInt8) : ParR L 0 [] := by
  refine ⟨Nat.zero_le _, Nat.le_refl _, ?_⟩
  rw [List.drop_zero]
  cases parP L with
  | none => rfl
  | some x => simp
theorem ParR.stop {L : List UInt8} {e : Nat} {done : List Par} (h : ParR L e done) (hs : parStep (L.drop e) = none) : parR L = (done, e, 0) := by
  have := h.2.2
  rw [parP_stop _ hs] at this
  unfold parR
  rw [← this]
  simp
theorem ParR.fault {L : List UInt8} {e : Nat} {done : List Par} (h : ParR L e done) (hs : parStep (L.drop e) = some none) : parR L = ([], 0, 15) := by
  have := h.2.2
  rw [parP_fault _ hs] at this
  unfold parR
  rw [← this]
  rfl
theorem ParR.step {L : List UInt8} {e : Nat} {done : List Par} {q : Option Par} {k : Nat} (h : ParR L e done) (hs : parStep (L.drop e) = some (some (q, k))) : ParR L (e + k) (done ++ q.toList) := by
  have hu := parStep_used _ q k hs
  rw [List.length_drop] at hu
  refine ⟨by have := h.1; omega, ?_, ?_⟩
  · rw [List.length_append]
    have := h.2.1
    cases q <;> simp <;> omega
  · rw [← h.2.2, parP_step _ q k hs, List.drop_drop]
    cases parP (L.drop (e + k)) with
    | none => rfl
    | some x => simp; omega
theorem step_none (L : List UInt8) (e a : Nat) (ha : e + runL isBl (L.drop e) = a) (h : L[a]? ≠ some 59) : parStep (L.drop e) = none := by
  unfold parStep
  rw [if_neg]
  rw [List.getElem?_drop, ha]; exact h
theorem step_blank (L : List UInt8) (e a e1 b at2 : Nat) (ha : e + runL isBl (L.drop e) = a) (h : L[a]? = some 59) (he1 : a + 1 = e1) (hb : runL isBl (L.drop e1) = b) (hat : e1 + b = at2) (hn : runL isSg (L.drop at2) = 0) :
    ∃ k, parStep (L.drop e) = some (some (none, k)) ∧ e + k = e1 := by
  refine ⟨runL isBl (L.drop e) + 1, ?_, by omega⟩
  unfold parStep
  rw [if_pos (by rw [List.getElem?_drop, ha]; exact h)]
  simp only [List.drop_drop]
  rw [show e + (runL isBl (L.drop e) + 1) = e1 from by omega, hb, hat, hn, if_pos rfl]
theorem step_bare (L : List UInt8) (e a e1 b at2 n e2 : Nat) (ha : e + runL isBl (L.drop e) = a) (h : L[a]? = some 59) (he1 : a + 1 = e1) (hb : runL isBl (L.drop e1) = b) (hat : e1 + b = at2) (hn : runL isSg (L.drop at2) = n) (h0 : n ≠ 0) (he2 : at2 + n = e2) (hq : L[e2]? ≠ some 61) :
    ∃ k, parStep (L.drop e) = some (some (some ((L.drop at2).take n, [], false), k)) ∧ e + k = e2 := by
  refine ⟨runL isBl (L.drop e) + 1 + (b + n), ?_, by omega⟩
  unfold parStep
  rw [if_pos (by rw [List.getElem?_drop, ha]; exact h)]
  simp only [List.drop_drop]
  rw [show e + (runL isBl (L.drop e) + 1) = e1 from by omega, hb, hat, hn, if_neg h0, if_neg]
  rw [List.getElem?_drop, show e1 + (b + n) + 0 = e2 from by omega]; exact hq
theorem step_value (L : List UInt8) (e a e1 b at2 n e2 e3 : Nat) (ha : e + runL isBl (L.drop e) = a) (h : L[a]? = some 59) (he1 : a + 1 = e1) (hb : runL isBl (L.drop e1) = b) (hat : e1 + b = at2) (hn : runL isSg (L.drop at2) = n) (h0 : n ≠ 0) (he2 : at2 + n = e2) (hq : L[e2]? = some 61) (he3 : e2 + 1 = e3) (v : List UInt8) (k : Nat) (hv : valP (L.drop e3) = some (v, k)) :
    ∃ j, parStep (L.drop e) = some (some (some ((L.drop at2).take n, v, true), j)) ∧ e + j = e3 + k := by
  refine ⟨runL isBl (L.drop e) + 1 + (b + n + 1) + k, ?_, by omega⟩
  unfold parStep
  rw [if_pos (by rw [List.getElem?_drop, ha]; exact h)]
  simp only [List.drop_drop]
  rw [show e + (runL isBl (L.drop e) + 1) = e1 from by omega, hb, hat, hn, if_neg h0, if_pos (by rw [List.getElem?_drop, show e1 + (b + n) + 0 = e2 from by omega]; exact hq)]
  rw [show e1 + (b + n + 1) = e3 from by omega, hv]
theorem step_fault (L : List UInt8) (e a e1 b at2 n e2 e3 : Nat) (ha : e + runL isBl (L.drop e) = a) (h : L[a]? = some 59) (he1 : a + 1 = e1) (hb : runL isBl (L.drop e1) = b) (hat : e1 + b = at2) (hn : runL isSg (L.drop at2) = n) (h0 : n ≠ 0) (he2 : at2 + n = e2) (hq : L[e2]? = some 61) (he3 : e2 + 1 = e3) (hv : valP (L.drop e3) = none) :
    parStep (L.drop e) = some none := by
  unfold parStep
  rw [if_pos (by rw [List.getElem?_drop, ha]; exact h)]
  simp only [List.drop_drop]
  rw [show e + (runL isBl (L.drop e) + 1) = e1 from by omega, hb, hat, hn, if_neg h0, if_pos (by rw [List.getElem?_drop, show e1 + (b + n) + 0 = e2 from by omega]; exact hq)]
  rw [show e1 + (b + n + 1) = e3 from by omega, hv]
end Go.Proofs.YtpdbejeiceodkaaGreatDoor
namespace Go.Proofs.YtpdbejeiceodkaaGreatDoor
open Go.RowKit
set_option linter.unusedSimpArgs false
set_option linter.unusedVariables false
def lowP (p : Par) : Par := (lowL p.1, p.2)
def lowMix (ps : List Par) (i : Nat) : List Par := (ps.take i).map lowP ++ ps.drop i
theorem lowMix_zero (ps : List Par) : lowMix ps 0 = ps := by simp [lowMix]
theorem lowMix_all (ps : List Par) : lowMix ps ps.length = ps.map lowP := by simp [lowMix]
theorem lowMix_len (ps : List Par) (i : Nat) : (lowMix ps i).length = ps.length := by
  unfold lowMix; rw [List.length_append, List.length_map, List.length_take, List.length_drop]; omega
theorem lowMix_at (ps : List Par) (i : Nat) (p : Par) (h : ps[i]? = some p) : (lowMix ps i)[i]? = some p := by
  have hl : i < ps.length := (List.getElem?_eq_some_iff.1 h).1
  unfold lowMix
  rw [List.getElem?_append_right (by rw [List.length_map, List.length_take]; omega), List.length_map, List.length_take, List.getElem?_drop, show i + (i - min i ps.length) = i from by omega]
  exact h
theorem lowMix_lt (ps : List Par) (i j : Nat) (p : Par) (hj : j < i) (h : ps[j]? = some p) : (lowMix ps i)[j]? = some (lowP p) := by
  have hl : j < ps.length := (List.getElem?_eq_some_iff.1 h).1
  unfold lowMix
  rw [List.getElem?_append_left (by rw [List.length_map, List.length_take]; omega), List.getElem?_map, List.getElem?_take, if_pos hj, h]
  rfl
theorem lowMix_step (ps : List Par) (i : Nat) (p : Par) (h : ps[i]? = some p) : (lowMix ps i).set i (lowP p) = lowMix ps (i + 1) := by
  have hl : i < ps.length := (List.getElem?_eq_some_iff.1 h).1
  have hk : (List.map lowP (ps.take i)).length = i := by rw [List.length_map, List.length_take]; omega
  unfold lowMix
  rw [List.set_append_right _ _ (by omega), hk, Nat.sub_self]
  have hd : ps.drop i = p :: ps.drop (i + 1) := by
    obtain ⟨hlt, he⟩ := List.getElem?_eq_some_iff.1 h
    rw [List.drop_eq_getElem_cons hlt, he]
  rw [hd, List.set_cons_zero, List.take_add_one, h, List.map_append]
  simp
theorem parsV_set (xs : List Par) (i : Nat) (p : Par) (t : List UInt8) (h : xs[i]? = some p) : (parsV xs).set (i * 3) (.string ⟨t.toArray⟩) = parsV (xs.set i (t, p.2)) := by
  induction xs generalizing i with
  | nil => simp at h
  | cons q r ih =>
    cases i with
    | zero =>
      obtain rfl : q = p := by simpa using h
      rfl
    | succ i =>
      have := ih i (by simpa using h)
      have e : ∀ q r, parsV (q :: r) = parV q ++ parsV r := fun _ _ => rfl
      have hl : (parV q).length = 3 := rfl
      rw [List.set_cons_succ, e, e, List.set_append_right _ _ (by omega), hl, show (i + 1) * 3 - 3 = i * 3 from by omega, this]
/-- A disposition: its kind and its parameters; none: it is not as it must be. -/
def disP (s : List UInt8) : Option (List UInt8 × List Par) :=
  let t := trimL s
  let n := runL isSg t
  let r := parR (t.drop n)
  if n ≠ 0 ∧ r.2.2 = 0 ∧ n + r.2.1 = t.length ∧ (∀ p ∈ r.1, p.2.2 = true) ∧ (r.1.map fun p => lowL p.1).Nodup then some (lowL (t.take n), r.1.map lowP) else none
def disR (s : List UInt8) : List UInt8 × List Par × Nat := match disP s with
  | some (k, qs) => (k, qs, 0)
  | none => ([], [], 152)
theorem dis_bad (s t : List UInt8) (n : Nat) (ht : trimL s = t) (hn : runL isSg t = n) (ps : List Par) (m e : Nat) (hr : parR (t.drop n) = (ps, m, e)) (h : ¬ (n ≠ 0 ∧ e = 0 ∧ n + m = t.length ∧ (∀ p ∈ ps, p.2.2 = true) ∧ (ps.map fun p => lowL p.1).Nodup)) : disR s = ([], [], 152) := by
  unfold disR disP
  simp only [ht, hn, hr]
  rw [if_neg h]
theorem dis_good (s t : List UInt8) (n : Nat) (ht : trimL s = t) (hn : runL isSg t = n) (ps : List Par) (m e : Nat) (hr : parR (t.drop n) = (ps, m, e)) (h : n ≠ 0 ∧ e = 0 ∧ n + m = t.length ∧ (∀ p ∈ ps, p.2.2 = true) ∧ (ps.map fun p => lowL p.1).Nodup) : disR s = (lowL (t.take n), ps.map lowP, 0) := by
  unfold disR disP
  simp only [ht, hn, hr]
  rw [if_pos h]
/-- A map that counts names: it has just those; as many as there are names only if no two are alike. -/
def NameMap (P : Program) (K E : TypeId) (w : World) (b : Nat) (xs : List (List UInt8)) : Prop :=
  ∃ D : DataW Unit, w.ownsMap P K (plainElem P E) b xs.length D ∧ Maps.Tidy D ∧ (∀ l, Maps.has D (.string l) = decide (l ∈ xs)) ∧ Maps.size D ≤ xs.length ∧ (Maps.size D = xs.length ↔ xs.Nodup)
theorem nameMap_made (P : Program) (K E : TypeId) (w : World) : NameMap P K E (w.alloc (.map #[] 0)) w.heap.size [] :=
  ⟨.map [], World.ownsMap_made w P K _, Maps.tidy_empty, fun l => rfl, Nat.le_refl _, by simp [Maps.size]⟩
theorem nameMap_step (D : DataW Unit) (xs : List (List UInt8)) (x : List UInt8) (d : DataW Unit) (ht : Maps.Tidy D) (hh : ∀ l, Maps.has D (.string l) = decide (l ∈ xs)) (hs : Maps.size D ≤ xs.length) (hn : Maps.size D = xs.length ↔ xs.Nodup) :
    Maps.Tidy (D.put (.string x) d) ∧ (∀ l, Maps.has (D.put (.string x) d) (.string l) = decide (l ∈ xs ++ [x])) ∧ Maps.size (D.put (.string x) d) ≤ (xs ++ [x]).length ∧ (Maps.size (D.put (.string x) d) = (xs ++ [x]).length ↔ (xs ++ [x]).Nodup) := by
  have hk : WideAt.IsKeyLit (.string x) := trivial
  have hsz := Maps.size_put (k := .string x) ht d
  rw [hh x] at hsz
  refine ⟨ht.put hk d, fun l => ?_, ?_, ?_⟩
  · by_cases hl : l = x
    · subst hl
      rw [Maps.has_put_same ht.isMap hk]; simp
    · rw [Maps.has_put_other (by intro e; injection e with e; exact hl e), hh l]
      simp [hl]
  · rw [hsz, List.length_append, List.length_singleton]
    split <;> omega
  · rw [hsz, List.length_append, List.length_singleton, List.nodup_append]
    by_cases hx : x ∈ xs
    · rw [if_pos (by simpa using hx)]
      constructor
      · intro h; omega
      · intro h; exact absurd rfl (h.2.2 x hx x (by simp))
    · rw [if_neg (by simpa using hx)]
      constructor
      · intro h
        refine ⟨hn.1 (by omega), by simp, fun a ha b hb => ?_⟩
        obtain rfl : b = x := by simpa using hb
        intro e; subst e; exact hx ha
      · intro h; rw [hn.2 h.1]
theorem own_mono2 {w : World} {base base' : Nat} {e : TypeId} {size : Nat} {v : Value} {n : Nat} {xs : List Value} (h : w.ownsRow base e size v n xs) (hb : base' ≤ base) : w.ownsRow base' e size v n xs :=
  ⟨h.1, h.2.imp id (fun ⟨g, cap, cur, a, b, c⟩ => ⟨g, cap, cur, a, Nat.le_trans hb b, c⟩)⟩
theorem own_three {w : World} {base g n cap : Nat} {e : TypeId} {xs : List Par} (h : w.ownsRow base e 3 (.slice (some ⟨g, 0, none⟩) n cap) n (parsV xs)) (i : Nat) (p : Par) (hp : xs[i]? = some p) (hi : i < n) :
    w.cell? ⟨g, i * 3, none⟩ = some (.string ⟨p.1.toArray⟩) ∧ w.cell? ⟨g, i * 3 + 1, none⟩ = some (.string ⟨p.2.1.toArray⟩) ∧ w.cell? ⟨g, i * 3 + 2, none⟩ = some (.bool p.2.2) := by
  have hc := parsV_get xs i p hp
  exact ⟨by rw [h.cellAt (i * 3) (by omega)]; exact hc.1, by rw [h.cellAt (i * 3 + 1) (by omega)]; exact hc.2.1, by rw [h.cellAt (i * 3 + 2) (by omega)]; exact hc.2.2⟩
/-- A name made small in its place. -/
theorem own_lower {w : World} {base g n cap : Nat} {e : TypeId} {ps : List Par} {i : Nat} {p : Par} (h : w.ownsRow base e 3 (.slice (some ⟨g, 0, none⟩) n cap) n (parsV (lowMix ps i))) (hp : ps[i]? = some p) :
    (w.setCell ⟨g, i * 3, none⟩ (.string ⟨(lowL p.1).toArray⟩)).ownsRow base e 3 (.slice (some ⟨g, 0, none⟩) n cap) n (parsV (lowMix ps (i + 1))) ∧ w.grownBy (w.setCell ⟨g, i * 3, none⟩ (.string ⟨(lowL p.1).toArray⟩)) (some g) := by
  have hst := h.stored (i * 3) (.string ⟨(lowL p.1).toArray⟩)
  rw [parsV_set _ i p (lowL p.1) (lowMix_at ps i p hp), show (lowL p.1, p.2) = lowP p from rfl, lowMix_step ps i p hp] at hst
  exact hst
theorem take_small {α : Type} (l : List α) (i : Nat) (h : i < maxLen) : (l.take i).length < maxLen := by rw [List.length_take]; omega
theorem names_len (ps : List Par) (i : Nat) (h : i ≤ ps.length) : ((ps.map fun p => lowL p.1).take i).length = i := by rw [List.length_take, List.length_map]; omega
end Go.Proofs.YtpdbejeiceodkaaGreatDoor
