/- The walks of target's and its reference's digits, triples and Decode: both return the plain function pdec. Conditions: no text is longer than memory. -/
import Derived.Test.YtlfdeenekjklgaaGreatDoorPa02
import Derived.Test.YtlfdeenekjklgaaGreatDoorPk20
import Derived.Test.YtlfdeenekjklgaaGreatDoorPk10
import Derived.Test.YtlfdeenekjklgaaGreatDoorPk04
import Derived.StillTailTactics
namespace Go.Proofs.YtlfdeenekjklgaaGreatDoor
open Go.RowKit
set_option linter.unusedSimpArgs false
set_option linter.unusedVariables false
def hvI (c : UInt8) : Int := match hv c with | some n => n | none => -1
theorem hvI_eq (c : UInt8) (n : Nat) (h : c.toNat = n) : hvI c = if 48 ≤ n ∧ n ≤ 57 then (n : Int) - 48 else if 97 ≤ n ∧ n ≤ 102 then (n : Int) - 87 else if 65 ≤ n ∧ n ≤ 70 then (n : Int) - 55 else -1 := by
  subst h
  unfold hvI hv
  by_cases h1 : 48 ≤ c.toNat ∧ c.toNat ≤ 57
  · rw [if_pos h1, if_pos h1]; simp only; omega
  · rw [if_neg h1, if_neg h1]
    by_cases h2 : 97 ≤ c.toNat ∧ c.toNat ≤ 102
    · rw [if_pos h2, if_pos h2]; simp only; omega
    · rw [if_neg h2, if_neg h2]
      by_cases h3 : 65 ≤ c.toNat ∧ c.toNat ≤ 70
      · rw [if_pos h3, if_pos h3]; simp only; omega
      · rw [if_neg h3, if_neg h3]
set_option maxHeartbeats 1000000 in
theorem digit_any (c : UInt8) (w : World) : Calls Tryz.prog 110 #[.int .u8 (c.toNat : Int)] w fun e w' => e = .returned (.int .i64 (hvI c)) ∧ w' = w := by
  obtain ⟨n, hn⟩ : ∃ n, c.toNat = n := ⟨_, rfl⟩
  have hlt : n < 256 := by rw [← hn]; exact c.toBitVec.isLt
  have he := hvI_eq c n hn
  rw [hn]
  have HE := Lib.hid he; clear he hn
  go_enter Tryz.func110, Tryz.ntmps110
  go_wp2
  all_goals go_ret
  all_goals (refine ⟨?_, rfl⟩; rw [HE.out])
  all_goals (refine ret_int ?_)
  all_goals (repeat' split) <;> omega
theorem hvI_some (c : UInt8) (n : Nat) (h : hv c = some n) : hvI c = (n : Int) := by unfold hvI; rw [h]
theorem hvI_none (c : UInt8) (h : hv c = none) : hvI c = -1 := by unfold hvI; rw [h]
theorem and15_all : ∀ n : Fin 16, (n.val &&& 15 == n.val) = true := by decide +kernel
theorem and15 (n : Nat) (h : n < 16) : n &&& 15 = n := by have := and15_all ⟨n, h⟩; simpa using this
theorem wrap_47 (p : Nat) (h : p ≤ 140737488351232) : IntKind.i64.wrap (p : Int) = (p : Int) := by rw [IntKind.wrap_i64]; omega
theorem add3_47 (i n : Nat) (h : i + 3 ≤ n) (hn : n ≤ 140737488351232) : IntKind.i64.wrap ((i : Int) + 2) = (i : Int) + 2 := by rw [IntKind.wrap_i64]; omega
theorem wrap_47b (p n : Nat) (h : p ≤ n + 3) (hn : n ≤ 140737488351232) : IntKind.i64.wrap (p : Int) = (p : Int) := by rw [IntKind.wrap_i64]; omega
theorem tripBits (x y : Nat) (hx : x < 16) (hy : y < 16) : bits .or .i64 ((x : Int) * 16) (bits .and .i64 (y : Int) 15) % 256 = ((x * 16 + y : Nat) : Int) := by
  have e : bits .and .i64 (y : Int) 15 = (y : Int) := by
    have := i64_and_nat y 15 (by omega) (by omega)
    rw [and15 y hy] at this
    exact this
  rw [e, show ((x : Int) * 16) = ((x * 16 : Nat) : Int) from by omega, i64_join 4 (x * 16) y (by omega) (by omega) (by omega) (by omega)]
  omega
theorem trip_short (l : List UInt8) (h : l.length < 3) : trip l = none := by
  match l, h with
  | [], _ => rfl
  | [_], _ => rfl
  | [_, _], _ => rfl
theorem drop3 (s : ByteArray) (i : Nat) (h : i + 2 < s.size) : s.data.toList.drop i = (s[i]'(by omega)) :: (s[i + 1]'(by omega)) :: (s[i + 2]'h) :: s.data.toList.drop (i + 3) := by
  rw [drop_get s i (by omega), drop_get s (i + 1) (by omega), drop_get s (i + 2) h]
def TripPost (s : ByteArray) (i : Nat) (w : World) (e : Ending) (w' : World) : Prop := ∃ v : Int, e = .returned (.tuple #[.int .u8 v, .bool (trip (s.data.toList.drop i)).isSome]) ∧ (∀ n, trip (s.data.toList.drop i) = some n → v = n) ∧ ∃ k, w' = w.drewN k
theorem add_fits (i n : Nat) (h : i < n) (hn : n ≤ 140737488351232) : IntKind.i64.wrap ((i : Int) + 2) = (i : Int) + 2 := by rw [IntKind.wrap_i64]; omega
set_option maxRecDepth 1000000 in
set_option maxHeartbeats 2000000 in
theorem triple_any (s : ByteArray) (i : Nat) (w : World) (hi : i < s.size) (hs : s.size ≤ 140737488351232) :
    Calls Tryz.prog 79 #[.string s, .int .i64 i] w (TripPost s i w) := by
  have hw := add_fits i s.size hi hs
  by_cases h2 : i + 2 < s.size
  · obtain ⟨c, hc⟩ : ∃ c, s[i]'hi = c := ⟨_, rfl⟩
    obtain ⟨a, ha⟩ : ∃ a, s[i + 1]'(by omega) = a := ⟨_, rfl⟩
    obtain ⟨b, hb⟩ : ∃ b, s[i + 2]'h2 = b := ⟨_, rfl⟩
    have hd := drop3 s i h2
    rw [hc, ha, hb] at hd
    obtain ⟨j1, e1⟩ : ∃ j, i + 1 = j := ⟨_, rfl⟩
    obtain ⟨j2, e2⟩ : ∃ j, i + 2 = j := ⟨_, rfl⟩
    have lj1 : j1 < s.size := by omega
    have lj2 : j2 < s.size := by omega
    have ha' : s[j1]'lj1 = a := by subst e1; exact ha
    have hb' : s[j2]'lj2 = b := by subst e2; exact hb
    have f1 : (i : Int) + 1 = (j1 : Int) := by omega
    have f2 : (i : Int) + 2 = (j2 : Int) := by omega
    have g1 : IntKind.i64.wrap (j1 : Int) = (j1 : Int) := wrap_47 j1 (by omega)
    have g2 : IntKind.i64.wrap (j2 : Int) = (j2 : Int) := wrap_47 j2 (by omega)
    have n1 : (0 : Int) ≤ (j1 : Int) := by omega
    have n2 : (0 : Int) ≤ (j2 : Int) := by omega
    have m1 : (j1 : Int) < (s.size : Int) := by omega
    have m2 : (j2 : Int) < (s.size : Int) := by omega
    have hn1 : ¬ ((s.size : Int) ≤ (j2 : Int)) := by omega
    clear ha hb e1 e2 hw
    by_cases hp : c = 37
    · subst hp
      have k0 : (0 : Int) ≤ (i : Int) := by omega
      have k1 : (i : Int) < (s.size : Int) := by omega
      cases hx : hv a with
      | none =>
        have q1 := hvI_none a hx
        have ht : trip (37 :: a :: b :: s.data.toList.drop (i + 3)) = none := by simp only [trip, if_true]; rw [hx]
        have HT := Lib.hid (And.intro hx (And.intro ht hd)); clear hx ht hd
        go_enter Tryz.func79, Tryz.ntmps79
        go_wp2_with fail
        refine wp_region_still_lit (by kernel_rfl) (by kernel_rfl) ?_
        repeat still_step
        still_call (digit_any _ _)
        repeat still_step
        still_call (digit_any _ _)
        repeat still_step
        refine wpStill_nil ?_
        go_wp2
        go_ret2
        unfold TripPost; rw [HT.out.2.2, HT.out.2.1]; exact ⟨_, rfl, (fun n h => by cases h), 1, rfl⟩
      | some x =>
        have q1 := hvI_some a x hx
        have lx := hv_lt a x hx
        cases hy : hv b with
        | none =>
          have q2 := hvI_none b hy
          have ht : trip (37 :: a :: b :: s.data.toList.drop (i + 3)) = none := by simp only [trip, if_true]; rw [hx, hy]
          have HT := Lib.hid (And.intro hx (And.intro hy (And.intro ht (And.intro hd lx)))); clear hx hy ht hd lx
          go_enter Tryz.func79, Tryz.ntmps79
          go_wp2_with fail
          refine wp_region_still_lit (by kernel_rfl) (by kernel_rfl) ?_
          repeat still_step
          still_call (digit_any _ _)
          repeat still_step
          still_call (digit_any _ _)
          repeat still_step
          refine wpStill_nil ?_
          go_wp2
          go_ret2
          unfold TripPost; rw [HT.out.2.2.2.1, HT.out.2.2.1]; exact ⟨_, rfl, (fun n h => by cases h), 1, rfl⟩
        | some y =>
          have q2 := hvI_some b y hy
          have ly := hv_lt b y hy
          have ht : trip (37 :: a :: b :: s.data.toList.drop (i + 3)) = some (x * 16 + y) := by simp only [trip, if_true]; rw [hx, hy]
          have hb2 := tripBits x y lx ly
          have HT := Lib.hid (And.intro hx (And.intro hy (And.intro ht (And.intro hd (And.intro lx ly))))); clear hx hy ht hd lx ly
          go_enter Tryz.func79, Tryz.ntmps79
          go_wp2_with fail
          refine wp_region_still_lit (by kernel_rfl) (by kernel_rfl) ?_
          repeat still_step
          still_call (digit_any _ _)
          repeat still_step
          still_call (digit_any _ _)
          repeat still_step
          refine wpStill_nil ?_
          go_wp2
          go_ret2
          unfold TripPost; rw [HT.out.2.2.2.1, HT.out.2.2.1]; exact ⟨_, rfl, (fun n h => by injection h with h; rw [← h]; exact hb2), 1, rfl⟩
    · have ht : trip (c :: a :: b :: s.data.toList.drop (i + 3)) = none := by simp only [trip]; rw [if_neg hp]
      have k0 : (0 : Int) ≤ (i : Int) := by omega
      have k1 : (i : Int) < (s.size : Int) := by omega
      have hne : ((c.toNat : Int) != 37) = true := by
        have : c.toNat ≠ 37 := fun e => hp (UInt8.toNat_inj.1 (by rw [e]; rfl))
        simp; omega
      have HT := Lib.hid (And.intro ht hd); clear ht hd
      go_enter Tryz.func79, Tryz.ntmps79
      go_wp2
      go_ret2
      unfold TripPost; rw [HT.out.2, HT.out.1]; exact ⟨_, rfl, (fun n h => by cases h), 0, rfl⟩
  · have ht : trip (s.data.toList.drop i) = none := trip_short _ (by rw [List.length_drop, size_list]; omega)
    have hge : (s.size : Int) ≤ (i : Int) + 2 := by omega
    have HT := Lib.hid ht; clear ht
    go_enter Tryz.func79, Tryz.ntmps79
    go_wp2
    go_ret2
    unfold TripPost; rw [HT.out]; exact ⟨_, rfl, (fun n h => by cases h), 0, rfl⟩
set_option maxRecDepth 1000000 in
set_option maxHeartbeats 4000000 in
theorem tdecode_any (s : ByteArray) (w : World) (hs : s.size ≤ 140737488351232) :
    Calls Tryz.prog 37 #[.string s] w fun e w' => e = .returned (.tuple #[.string ⟨(pdec s.data.toList).1.toArray⟩, .int .i64 ((pdec s.data.toList).2.1 : Nat), .int .i64 ((pdec s.data.toList).2.2 : Nat)]) ∧ Below w.heap.size w w' := by
  obtain ⟨i0, hi, hz0, hz1, hz2⟩ := info_parts infoByte
  go_enter Tryz.func37, Tryz.ntmps37
  go_wp2
  go_loopw [6, 5] (fun iv v wr => ∃ (i : Nat) (acc : List UInt8), iv = .int .i64 i ∧ i ≤ s.size ∧ acc.length ≤ i ∧ pd acc (s.data.toList.drop i) i = pdec s.data.toList ∧ wr.ownsRow w.heap.size 5 1 v acc.length (Lib.byteCells acc) ∧ Below w.heap.size w wr)
    (fun i _ _ => s.size - (intOf i).toNat)
  case atStart => exact ⟨0, [], rfl, Nat.zero_le _, Nat.le_refl _, rfl, World.ownsRow_nil _ _ _ _, Below.refl _ _⟩
  case round =>
    obtain ⟨i, acc, rfl, hi1, hacc, hpd, hown, hbw⟩ := hrel
    have hbs := hbw.size
    by_cases hlt : i < s.size
    · obtain ⟨c, hc⟩ : ∃ c, s[i]'hlt = c := ⟨_, rfl⟩
      have hd := drop_get s i hlt
      rw [hc] at hd
      have hsm : acc.length + 1 ≤ maxLen := by unfold maxLen; omega
      have hsm2 : (acc.length + 1) * 1 ≤ 140737488355328 := by omega
      have k0 : (0 : Int) ≤ (i : Int) := by omega
      have k1 : (i : Int) < (s.size : Int) := by omega
      by_cases hp : c = 37
      · subst hp
        cases ht : trip (s.data.toList.drop i) with
        | none =>
          have hres : pdec s.data.toList = ([], i, 51) := by rw [← hpd, hd]; exact pd_bad acc _ i (by rw [← hd]; exact ht)
          have HRS := Lib.hid (And.intro hres ht); clear hres ht hd hpd
          go_wp2_with fail
          refine (triple_any s i _ hlt hs).mono ?_
          rintro e w1 ⟨v, rfl, _, n1, rfl⟩
          rw [HRS.out.2]
          go_wp2
          go_ret3
          exact ⟨by rw [HRS.out.1]; rfl, below_drewN hbw n1⟩
        | some n =>
          have hgd := pd_good acc _ i n ht
          have hn := trip_lt _ n ht
          have hln := hgd.2
          rw [List.length_drop, size_list] at hln
          have hnx : pd (acc ++ [UInt8.ofNat n]) (s.data.toList.drop (i + 3)) (i + 3) = pdec s.data.toList := by rw [← hpd, hgd.1, List.drop_drop]
          have HNX := Lib.hid (And.intro hnx (And.intro ht (And.intro hn hln))); clear hnx hn hln hgd hd hpd ht
          go_wp2_with fail
          refine (triple_any s i _ hlt hs).mono ?_
          rintro e w1 ⟨v, rfl, hv, n1, rfl⟩
          rw [HNX.out.2.1]
          obtain rfl : v = (n : Int) := hv n HNX.out.2.1
          clear hv
          have hown2 : (wr.drewN n1).ownsRow w.heap.size 5 1 _ acc.length (Lib.byteCells acc) := hown
          have hbw2 := below_drewN hbw n1
          have hbs2 := hbw2.size
          obtain ⟨W1, hW1⟩ : ∃ W1, wr.drewN n1 = W1 := ⟨_, rfl⟩
          rw [hW1] at hown2 hbw2 hbs2 ⊢
          clear hW1 hown hbw hbs
          go_wp2_with (at_builtin; refine wpList_append_own _ rfl (.tmp 34) (.tmp 36) 94 rfl w.heap.size 5 i0 (.int .u8 0) 1 1 Tryz.underlying94 hi hz0 hz1 hz2 rfl (by decide) _ _ _ rfl (hown2.alloc _) ⟨W1.heap.size, 0, none⟩ 1 1 [.int .u8 (n : Int)] rfl rfl (cells_new _ _ _) (by simp [Value.oneCell']) hsm hsm2 ?d0 ?_)
          case d0 => simp; omega
          intro v1 w7 hI1 hg7 _
          have hb8 := (hbw2.alloc (by omega) _).grown hg7 (by simp; omega) (fun j hj => (hown2.lt j hj).1)
          rw [← ofNat_cells n HNX.out.2.2.1, ← Lib.byteCells_append] at hI1
          have HI1 := Lib.hid hI1; have HB8 := Lib.hid hb8
          clear hI1 hb8 hg7 hown2 hbw2
          have hi3 : i + 3 ≤ s.size := by have := HNX.out.2.2.2; omega
          have wi := add3_47 i s.size hi3 hs
          go_wp2
          go_roundw
          case rel =>
            refine ⟨i + 3, acc ++ [UInt8.ofNat n], by go_num, hi3, by simp; omega, HNX.out.1, ?_, HB8.out⟩
            rw [List.length_append]
            exact HI1.out
          case measure => simp [intOf]; omega
      · have hnx : pd (acc ++ [c]) (s.data.toList.drop (i + 1)) (i + 1) = pdec s.data.toList := by rw [← hpd, hd, pd_plain acc c _ i hp]
        have hne : ((c.toNat : Int) != 37) = true := by
          have : c.toNat ≠ 37 := fun e => hp (UInt8.toNat_inj.1 (by rw [e]; rfl))
          simp; omega
        have HNX := Lib.hid hnx; clear hnx hd hpd hp
        go_wp2_with (at_builtin; refine wpList_append_own _ rfl (.tmp 19) (.tmp 23) 94 rfl w.heap.size 5 i0 (.int .u8 0) 1 1 Tryz.underlying94 hi hz0 hz1 hz2 rfl (by decide) _ _ _ rfl (hown.alloc _) ⟨wr.heap.size, 0, none⟩ 1 1 [.int .u8 (c.toNat : Int)] rfl rfl (cells_new _ _ _) (by simp [Value.oneCell']) hsm hsm2 ?d0 ?_)
        case d0 => simp; omega
        intro v1 w7 hI1 hg7 _
        have hb8 := (hbw.alloc (by omega) _).grown hg7 (by simp; omega) (fun j hj => (hown.lt j hj).1)
        rw [← byteCells_one c, ← Lib.byteCells_append] at hI1
        have HI1 := Lib.hid hI1; have HB8 := Lib.hid hb8
        clear hI1 hb8 hg7 hown hbw
        go_wp2
        go_roundw
        case rel =>
          refine ⟨i + 1, acc ++ [c], by go_num, by omega, by simp; omega, HNX.out, ?_, HB8.out⟩
          rw [List.length_append]
          exact HI1.out
        case measure => simp [intOf]; omega
    · obtain rfl : i = s.size := by omega
      have hres : pdec s.data.toList = (acc, 0, 0) := by
        rw [← hpd, List.drop_eq_nil_of_le (by rw [size_list]; omega)]
        rw [pd.eq_def]
      have hcv := run_str_own wr 94 5 Tryz.underlying94 Tryz.underlying5 hown 9 Tryz.underlying9
      have HRS := Lib.hid hres; clear hres hpd hown
      go_wp2
      go_ret3
      exact ⟨by rw [HRS.out]; rfl, hbw⟩
end Go.Proofs.YtlfdeenekjklgaaGreatDoor
