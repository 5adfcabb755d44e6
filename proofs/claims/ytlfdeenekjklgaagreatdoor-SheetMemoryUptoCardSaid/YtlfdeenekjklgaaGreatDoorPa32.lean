/- The walk of the reference's ParseLine of layer 6: the plain function plR; the place is left open. Conditions: fewer than 2^40 bytes. -/
import Derived.Test.YtlfdeenekjklgaaGreatDoorPk10
import Derived.Test.YtlfdeenekjklgaaGreatDoorPa31
namespace Go.Proofs.YtlfdeenekjklgaaGreatDoor
open Go.RowKit
set_option linter.unusedSimpArgs false
set_option linter.unusedVariables false
set_option maxRecDepth 1000000
theorem colon6_call (s : ByteArray) (q : Int) (hq : Lib.indexByte s.data.toList 58 = q) (hs : s.size ≤ 1099511627776) (w : World) : Calls Tryz.prog 104 #[.string s, .int .u8 58] w fun e w' => e = .returned (.int .i64 q) ∧ w' = w := by
  have h := r6find_any s 58 58 rfl w hs
  rwa [hq] at h
theorem drop_bl (l : List UInt8) : ∀ (h : l.dropWhile isBl ≠ []), ∃ (p : Nat) (c : UInt8), l[p]? = some c ∧ isBl c = false ∧ ∀ (j : Nat) (d : UInt8), j < p → l[j]? = some d → isBl d = true := by
  induction l with
  | nil => intro h; exact absurd rfl h
  | cons a r ih =>
    intro h
    by_cases ha : isBl a = true
    · rw [List.dropWhile_cons_of_pos ha] at h
      obtain ⟨p, c, h1, h2, h3⟩ := ih h
      refine ⟨p + 1, c, by simpa using h1, h2, fun j d hj hd => ?_⟩
      cases j with
      | zero => obtain rfl : a = d := (by simpa using hd); exact ha
      | succ j => exact h3 j d (by omega) (by simpa using hd)
    · exact ⟨0, a, rfl, by simpa using ha, fun j d hj => by omega⟩
theorem trim_drop (l : List UInt8) (h : trimL l ≠ []) : l.dropWhile isBl ≠ [] := fun e => h (by
  rw [trimL_eq, e]; rfl)
set_option maxHeartbeats 8000000 in
theorem r6pl_any (s : ByteArray) (w : World) (hs : s.size ≤ 1099511627776) : Calls Tryz.prog 69 #[.string s] w (PlPost s w) := by
  have hB0 : ∀ o : Obj, Below w.heap.size w (w.alloc o) := fun o => (Below.refl _ w).alloc (Nat.le_refl _) o
  have HB0 := Lib.hid hB0; clear hB0
  by_cases h0 : s.size = 0
  · obtain rfl := emp_o s h0
    clear h0
    have hr : plR (⟨#[]⟩ : ByteArray).data.toList = ([], [], 62) := plR_colon _ rfl (by decide)
    have HR := Lib.hid hr; clear hr
    have hc := colon6_call ⟨#[]⟩ (-1) rfl (by decide)
    have HC := Lib.hid hc; clear hc
    go_enter Tryz.func69, Tryz.ntmps69
    go_wp2_with (go_at_call 104; refine (HC.out _).mono ?_; rintro e w1 ⟨rfl, rfl⟩)
    (try simp only [Exit.inBlock, Exit.then])
    refine bodyPost_ret (v := plV ([], [], 62) ?plx1) ?plr1 rfl ⟨?plx1, by rw [HR.out], ?plb1⟩
    case plr1 => rw [results_cell_tmp2 rfl]; go_simp; rfl
    case plb1 => exact HB0.out _
  · have hpos : 0 < s.size := by omega
    clear h0
    obtain ⟨c0, hc0⟩ : ∃ c, s[0]'hpos = c := ⟨_, rfl⟩
    have hg0 := list_get s 0 hpos
    rw [hc0] at hg0
    have e0 := full_o s hpos
    have e1 := full_o2 s hpos
    have p0 : (0 : Int) < (s.size : Int) := by omega
    have hbl := blank0_at s c0 hg0
    have hbc := fun W => r6blank_any c0 W
    clear hg0
    obtain ⟨bz, hb⟩ : ∃ bz, isBl c0 = bz := ⟨_, rfl⟩
    rw [hb] at hbl hbc
    have HBC := Lib.hid hbc
    clear hbc hb
    cases bz with
    | true =>
      have hr := plR_blank _ hbl
      have HR := Lib.hid hr
      clear hr hbl
      go_enter Tryz.func69, Tryz.ntmps69
      go_wp2_with (go_at_call 103; refine (HBC.out _).mono ?_; rintro e w1 ⟨rfl, rfl⟩)
      (try simp only [Exit.inBlock, Exit.then])
      refine bodyPost_ret (v := plV ([], [], 63) ?plx2) ?plr2 rfl ⟨?plx2, by rw [HR.out], ?plb2⟩
      case plr2 => rw [results_cell_tmp2 rfl]; go_simp; rfl
      case plb2 => exact HB0.out _
    | false =>
      have hbl0 := hbl
      clear hbl
      obtain ⟨q, hq⟩ : ∃ q, Lib.indexByte s.data.toList 58 = q := ⟨_, rfl⟩
      have hcc := colon6_call s q hq hs
      have HCC := Lib.hid hcc
      clear hcc
      by_cases hq0 : q < 0
      · have hr := plR_colon _ hbl0 (by rw [hq]; exact hq0)
        have HR := Lib.hid hr
        clear hr hbl0 hq
        go_enter Tryz.func69, Tryz.ntmps69
        go_wp2_with fail
        refine (HBC.out _).mono ?_
        rintro e w1 ⟨rfl, rfl⟩
        go_wp2_with fail
        refine (HCC.out _).mono ?_
        rintro e w1 ⟨rfl, rfl⟩
        go_wp2
        (try simp only [Exit.inBlock, Exit.then])
        refine bodyPost_ret (v := plV ([], [], 62) ?plx3) ?plr3 rfl ⟨?plx3, by rw [HR.out], ?plb3⟩
        case plr3 => rw [results_cell_tmp2 rfl]; go_simp; rfl
        case plb3 => exact HB0.out _
      · obtain ⟨k, hk⟩ : ∃ k : Nat, q = (k : Int) := ⟨q.toNat, by omega⟩
        subst hk
        have hpk := plR_at _ k hbl0 hq
        have hks := (List.getElem?_eq_some_iff.1 (Lib.indexByte_some hq).1).1
        rw [size_list] at hks
        clear hq0 hq hbl0
        by_cases hk0 : k = 0
        · have hr : plR s.data.toList = ([], [], 60) := by rw [hpk, hk0]; exact plK_none _
          subst hk0
          have HR := Lib.hid hr
          clear hr hpk hks
          go_enter Tryz.func69, Tryz.ntmps69
          go_wp2_with fail
          refine (HBC.out _).mono ?_
          rintro e w1 ⟨rfl, rfl⟩
          go_wp2_with fail
          refine (HCC.out _).mono ?_
          rintro e w1 ⟨rfl, rfl⟩
          go_wp2
          (try simp only [Exit.inBlock, Exit.then])
          refine bodyPost_ret (v := plV ([], [], 60) ?plx4) ?plr4 rfl ⟨?plx4, by rw [HR.out], ?plb4⟩
          case plr4 => rw [results_cell_tmp2 rfl]; go_simp; rfl
          case plb4 => exact HB0.out _
        · have kk0 : ((k : Int) == 0) = false := by simp; omega
          have kk1 : (0 : Int) ≤ (k : Int) := Int.natCast_nonneg _
          have kk2 : (k : Int) < (s.size : Int) := by omega
          have HPK := Lib.hid (And.intro hpk (And.intro hk0 hks))
          clear hpk hk0 hks
          go_enter Tryz.func69, Tryz.ntmps69
          go_wp2_with fail
          refine (HBC.out _).mono ?_
          rintro e w1 ⟨rfl, rfl⟩
          go_wp2_with fail
          refine (HCC.out _).mono ?_
          rintro e w1 ⟨rfl, rfl⟩
          clear HBC HCC
          go_wp2
          go_loopw [6] (fun iv wr => ∃ i : Nat, iv = .int .i64 i ∧ i ≤ k ∧ i ≤ 128 ∧ (s.data.toList.take i).all isSg = true ∧ wr = w.alloc (.cells #[.string ByteArray.empty, .string ByteArray.empty] 127)) (fun iv _ => k - (intOf iv).toNat)
          case atStart => exact ⟨0, rfl, Nat.zero_le _, Nat.zero_le _, rfl, rfl⟩
          case round =>
            obtain ⟨i, rfl, hi, h128, hall, rfl⟩ := hrel
            have hks := HPK.out.2.2
            have i0 : (0 : Int) ≤ (i : Int) := Int.natCast_nonneg _
            by_cases hlt : i < k
            · have i1 : (i : Int) < (k : Int) := by omega
              have his : i < s.size := Nat.lt_trans hlt hks
              by_cases hb128 : i = 128
              · have hr := HPK.out.1.trans (plK_long _ k (by omega))
                have HR := Lib.hid hr
                subst hb128
                clear hr hall
                go_wp2
                (try simp only [Exit.inBlock, Exit.then])
                refine bodyPost_ret (v := plV ([], [], 60) ?plx5) ?plr5 rfl ⟨?plx5, by rw [HR.out], ?plb5⟩
                case plr5 => rw [results_cell_tmp2 rfl]; go_simp; rfl
                case plb5 => exact HB0.out _
              · have i2 : ((i : Int) == 128) = false := by simp; omega
                obtain ⟨c, hc⟩ : ∃ c, s[i]'his = c := ⟨_, rfl⟩
                have hget := list_get s i his
                rw [hc] at hget
                have i3 : (i : Int) < (s.size : Int) := by omega
                obtain ⟨j, hj⟩ : ∃ j, i + 1 = j := ⟨_, rfl⟩
                have f1 : (i : Int) + 1 = (j : Int) := by omega
                have hwj := w64j j (le_oo j s.size (by omega) hs)
                have hsc := fun W => r6sign_any c W
                obtain ⟨sv, hst⟩ : ∃ sv, isSg c = sv := ⟨_, rfl⟩
                rw [hst] at hsc
                have HSC := Lib.hid hsc
                clear hsc
                cases sv with
                | true =>
                  have hx2 := all_take isSg _ i c hget hall hst
                  have h127 : i < 128 := by omega
                  have HS := Lib.hid (And.intro hx2 (And.intro hst (And.intro hj h127)))
                  clear hx2 hst hget hall hj hb128 h127
                  go_wp2_with fail
                  refine (HSC.out _).mono ?_
                  rintro e wr ⟨rfl, hwr⟩
                  rw [hwr]
                  clear hwr
                  go_wp2
                  go_roundw
                  case rel => exact ⟨j, rfl, by have := HS.out.2.2.1; omega, by have := HS.out.2.2; omega, by rw [← HS.out.2.2.1]; exact HS.out.1, by first | rfl | trivial⟩
                  case measure => have := HS.out.2.2.1; simp [intOf]; omega
                | false =>
                  have hr := HPK.out.1.trans (plK_sign _ k i c hlt hget hst)
                  have HR := Lib.hid (hr)
                  clear hr hst hget hall hj hb128
                  go_wp2_with fail
                  refine (HSC.out _).mono ?_
                  rintro e wr ⟨rfl, hwr⟩
                  rw [hwr]
                  clear hwr
                  go_wp2
                  (try simp only [Exit.inBlock, Exit.then])
                  refine bodyPost_ret (v := plV ([], [], 60) ?plx6) ?plr6 rfl ⟨?plx6, by rw [HR.out], ?plb6⟩
                  case plr6 => rw [results_cell_tmp2 rfl]; go_simp; rfl
                  case plb6 => exact HB0.out _
            · obtain rfl : i = k := by omega
              have hd : decide (i < i) = false := decide_eq_false (Nat.lt_irrefl _)
              obtain ⟨j, hj⟩ : ∃ j, i + 1 = j := ⟨_, rfl⟩
              have f1 : (i : Int) + 1 = (j : Int) := by omega
              have hjs : j ≤ s.size := by omega
              have hwj := w64j j (le_oo j s.size hjs hs)
              have HA := Lib.hid (And.intro hall (And.intro h128 hj))
              clear hall hj
              go_wp2
              go_loopw [7] (fun mv wr => ∃ m : Nat, mv = .int .i64 m ∧ i < m ∧ m ≤ s.size ∧ (∀ x d, i < x → x < m → s.data.toList[x]? = some d → isFb d = true) ∧ wr = w.alloc (.cells #[.string ByteArray.empty, .string ByteArray.empty] 127)) (fun mv _ => s.size - (intOf mv).toNat)
              case atStart => exact ⟨j, rfl, by have := HA.out.2.2; omega, hjs, fun x d h1 h2 => by have := HA.out.2.2; omega, rfl⟩
              case round =>
                obtain ⟨m, rfl, him, hms, hfb, rfl⟩ := hrel
                have HFB := Lib.hid hfb; clear hfb
                have m0 : (0 : Int) ≤ (m : Int) := Int.natCast_nonneg _
                by_cases hlt2 : m < s.size
                · have m1 : (m : Int) < (s.size : Int) := by omega
                  obtain ⟨c, hc⟩ : ∃ c, s[m]'hlt2 = c := ⟨_, rfl⟩
                  have hget := list_get s m hlt2
                  rw [hc] at hget
                  obtain ⟨n, hn⟩ : ∃ n, m + 1 = n := ⟨_, rfl⟩
                  have f2 : (m : Int) + 1 = (n : Int) := by omega
                  have hns : n ≤ s.size := by omega
                  have hwn := w64j n (le_oo n s.size hns hs)
                  have hsc := fun W => r6inside_any c W
                  obtain ⟨sv, hst⟩ : ∃ sv, isFb c = sv := ⟨_, rfl⟩
                  rw [hst] at hsc
                  have HSC := Lib.hid hsc
                  clear hsc
                  cases sv with
                  | true =>
                    have hx2 := fb_more _ i m c HFB.out hget hst
                    have HS := Lib.hid (And.intro hx2 (And.intro hst hn))
                    clear hx2 hst hget hn
                    go_wp2_with fail
                    refine (HSC.out _).mono ?_
                    rintro e wr ⟨rfl, hwr⟩
                    rw [hwr]
                    clear hwr
                    go_wp2
                    go_roundw
                    case rel => exact ⟨n, rfl, by omega, hns, by rw [← HS.out.2.2]; exact HS.out.1, by first | rfl | trivial⟩
                    case measure => simp [intOf]; omega
                  | false =>
                    have hr := HPK.out.1.trans (plK_field _ i m c HPK.out.2.1 HA.out.2.1 HA.out.1 him hget hst)
                    have HR := Lib.hid hr
                    clear hr hst hget hn
                    go_wp2_with fail
                    refine (HSC.out _).mono ?_
                    rintro e wr ⟨rfl, hwr⟩
                    rw [hwr]
                    clear hwr
                    go_wp2
                    (try simp only [Exit.inBlock, Exit.then])
                    refine bodyPost_ret (v := plV ([], [], 61) ?plx7) ?plr7 rfl ⟨?plx7, by rw [HR.out], ?plb7⟩
                    case plr7 => rw [results_cell_tmp2 rfl]; go_simp; rfl
                    case plb7 => exact HB0.out _
                · obtain rfl : m = s.size := by omega
                  have hd2 : decide (s.size < s.size) = false := decide_eq_false (Nat.lt_irrefl _)
                  have hfd := fld_from _ i (fun x d h1 h2 => HFB.out x d h1 (by have := (List.getElem?_eq_some_iff.1 h2).1; rwa [size_list] at this) h2)
                  have hx := ext_back s j
                  have k3 : (j : Int) ≤ (s.size : Int) := by omega
                  have j0 : (0 : Int) ≤ (j : Int) := Int.natCast_nonneg _
                  have hx0 := ext_front s i
                  have k4 : (i : Int) ≤ (s.size : Int) := by omega
                  obtain ⟨V, hV⟩ : ∃ V, trimL (s.data.toList.drop j) = V := ⟨_, rfl⟩
                  have hVl : V.length ≤ s.size := by rw [← hV]; exact Nat.le_trans (trimL_len _) (by rw [List.length_drop, size_list]; omega)
                  have htc := r6trim_any ⟨(s.data.toList.drop j).toArray⟩ (w.alloc (.cells #[.string ByteArray.empty, .string ByteArray.empty] 127)) (by rw [size_mk, List.length_drop, size_list]; omega)
                  rw [show (⟨(s.data.toList.drop j).toArray⟩ : ByteArray).data.toList = s.data.toList.drop j from rfl, hV] at htc
                  have HTC := Lib.hid htc
                  have hj2 := HA.out.2.2
                  have hVr : ∀ r, plK s.data.toList i = r → plR s.data.toList = r := fun r h => HPK.out.1.trans h
                  by_cases hbig : 8192 < V.length
                  · have hr := hVr _ (plK_big _ i HPK.out.2.1 HA.out.2.1 HA.out.1 (by rw [hj2, hV]; exact hbig))
                    have HR := Lib.hid hr
                    have b1 : (8192 : Int) < (V.length : Int) := by omega
                    obtain ⟨p, c, hp1, hp2, hp3⟩ := drop_bl (s.data.toList.drop j) (trim_drop _ (by rw [hV]; intro e; rw [e] at hbig; simp at hbig))
                    rw [List.getElem?_drop] at hp1
                    have hps : j + p < s.size := by have := (List.getElem?_eq_some_iff.1 hp1).1; rwa [size_list] at this
                    have HP := Lib.hid (And.intro hp1 (And.intro hp2 (And.intro hp3 hps)))
                    clear htc hr hV hVr hfd hVl hx0 hp1 hp2 hp3 hps
                    go_wp2_with fail
                    refine HTC.out.mono ?_
                    rintro e w2 ⟨rfl, hw2⟩
                    rw [hw2]
                    clear hw2
                    go_wp2
                    go_loopw [9] (fun mv wr => ∃ t : Nat, mv = .int .i64 ((j + t : Nat) : Int) ∧ t ≤ p ∧ wr = w.alloc (.cells #[.string ByteArray.empty, .string ByteArray.empty] 127)) (fun mv _ => j + p - (intOf mv).toNat)
                    case atStart => exact ⟨0, rfl, Nat.zero_le _, rfl⟩
                    case round =>
                      obtain ⟨t, rfl, ht, rfl⟩ := hrel
                      obtain ⟨x, hx'⟩ : ∃ x, j + t = x := ⟨_, rfl⟩
                      rw [hx']
                      have hxs : x < s.size := by have := HP.out.2.2.2; omega
                      have y0 : (0 : Int) ≤ (x : Int) := Int.natCast_nonneg _
                      have y1 : (x : Int) < (s.size : Int) := by omega
                      obtain ⟨d, hd'⟩ : ∃ d, s[x]'hxs = d := ⟨_, rfl⟩
                      have hget := list_get s x hxs
                      rw [hd'] at hget
                      have hsc := fun W => r6blank_any d W
                      obtain ⟨sv, hst⟩ : ∃ sv, isBl d = sv := ⟨_, rfl⟩
                      rw [hst] at hsc
                      have HSC := Lib.hid hsc
                      obtain ⟨n, hn⟩ : ∃ n, x + 1 = n := ⟨_, rfl⟩
                      have f2 : (x : Int) + 1 = (n : Int) := by omega
                      have hwn := w64j n (le_oo n s.size (by omega) hs)
                      clear hsc
                      cases sv with
                      | true =>
                        have htp : t < p := by
                          rcases Nat.lt_or_ge t p with h | h
                          · exact h
                          · exfalso
                            obtain rfl : t = p := by omega
                            rw [hx', hget] at HP
                            have h1 := HP.out.1
                            injection h1 with h1
                            rw [h1] at hst
                            rw [HP.out.2.1] at hst
                            cases hst
                        have HT := Lib.hid (And.intro htp (And.intro hx' hn))
                        clear htp hst hget hx' hn
                        go_wp2_with fail
                        refine (HSC.out _).mono ?_
                        rintro e wr ⟨rfl, hwr⟩
                        rw [hwr]
                        clear hwr
                        go_wp2
                        go_roundw
                        case rel => exact ⟨t + 1, by have h1 := HT.out.2.1; have h2 := HT.out.2.2; congr 1; omega, HT.out.1, by first | rfl | trivial⟩
                        case measure => have h1 := HT.out.1; have h2 := HT.out.2.1; have h3 := HT.out.2.2; simp [intOf]; omega
                      | false =>
                        clear hst hget hx' hn
                        go_wp2_with fail
                        refine (HSC.out _).mono ?_
                        rintro e wr ⟨rfl, hwr⟩
                        rw [hwr]
                        clear hwr
                        go_wp2
                        (try simp only [Exit.inBlock, Exit.then])
                        refine bodyPost_ret (v := plV ([], [], 61) ?pxa) ?pxar rfl ⟨?pxa, by rw [HR.out], ?pxab⟩
                        case pxar => rw [results_cell_tmp2 rfl]; go_simp; rfl
                        case pxab => exact HB0.out _
                  · have hr := hVr _ (plK_ok _ i HPK.out.2.1 HA.out.2.1 HA.out.1 hfd (by rw [hj2, hV]; omega))
                    rw [hj2, hV] at hr
                    have HR := Lib.hid hr
                    have b1 : (V.length : Int) ≤ 8192 := by omega
                    clear htc hr hV hVr hfd hVl
                    go_wp2_with fail
                    refine HTC.out.mono ?_
                    rintro e w2 ⟨rfl, hw2⟩
                    rw [hw2]
                    clear hw2
                    go_wp2
                    (try simp only [Exit.inBlock, Exit.then])
                    refine bodyPost_ret (v := plV (s.data.toList.take i, V, 0) ?pxb) ?pxbr rfl ⟨?pxb, by rw [HR.out], ?pxbb⟩
                    case pxbr => rw [results_cell_tmp2 rfl]; go_simp; rfl
                    case pxbb => exact (HB0.out _)
end Go.Proofs.YtlfdeenekjklgaaGreatDoor
