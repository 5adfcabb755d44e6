/- The walks of turnpikeref03.Of and turnpikeref03.begins. Conditions: begins is asked of at most four bytes. -/
import Derived.Test.YtpehogkgiikjmaaEncR
import Derived.Test.YtpehogkgiikjmaaDecQ
namespace Go.Proofs.Ytpehogkgiikjmaa
open Go.RowKit
set_option linter.unusedSimpArgs false
set_option linter.unusedVariables false
/-- What Of answers. -/
def ofI (c : UInt8) : Int := match sv c with | some v => (v : Int) | none => -1
theorem ofI_some {c : UInt8} {v : Nat} (h : sv c = some v) : ofI c = v := by unfold ofI; rw [h]
theorem ofI_none {c : UInt8} (h : sv c = none) : ofI c = -1 := by unfold ofI; rw [h]
set_option maxHeartbeats 1000000 in
theorem of_any (c : UInt8) (w : World) : Calls Try.prog 39 #[.int .u8 (c.toNat : Int)] w fun e w' => e = .returned (.int .i64 (ofI c)) ∧ w = w' := by
  go_enter Try.func39, Try.ntmps39
  go_wp2
  go_loop [3] (fun n => ∃ k : Nat, k ≤ 64 ∧ n = .int .i64 k ∧ ∀ j, j < k → sg j ≠ c) (fun n => 64 - (intOf n).toNat)
  case atStart => exact ⟨0, by omega, rfl, by omega⟩
  case round =>
    obtain ⟨k, hk, rfl, hne⟩ := hrel
    have HN := Lib.hid hne; clear hne
    by_cases hlt : k < 64
    · have hltI : (k : Int) < 64 := by omega
      by_cases he : sg k = c
      · have hv : sv c = some k := by rw [← he]; exact sv_of_sg k hlt
        have e1 : (((sg k).toNat : Int) == (c.toNat : Int)) = true := by rw [he]; exact beq_self_eq_true _
        have HV := Lib.hid (ofI_some hv); have HE := Lib.hid he; clear hv he
        go_wp2_with fail
        refine (sign_any _ k _ rfl hlt).mono ?_
        rintro e w1 ⟨rfl, rfl⟩
        go_wp2
        go_ret
        exact ⟨ret_int (by rw [HV.out]), rfl⟩
      · have e1 : (((sg k).toNat : Int) == (c.toNat : Int)) = false := by rw [beq_eq_false_iff_ne]; intro e; exact he (UInt8.toNat_inj.1 (by omega))
        have HE := Lib.hid he; clear he
        go_wp2_with fail
        refine (sign_any _ k _ rfl hlt).mono ?_
        rintro e w1 ⟨rfl, rfl⟩
        go_wp2
        go_round
        case rel =>
          refine ⟨k + 1, by omega, by go_num, fun j hj => ?_⟩
          by_cases e : j = k
          · subst e; exact HE.out
          · exact HN.out j (by omega)
        case measure => simp [intOf]; omega
    · have hn : sv c = none := by
        cases hs : sv c with
        | none => rfl
        | some v => exact (HN.out v (by have := sv_lt hs; omega) (sv_sg hs)).elim
      have HV := Lib.hid (ofI_none hn); clear hn
      go_wp2
      go_ret
      exact ⟨ret_int (by rw [HV.out]), rfl⟩
theorem of_yes (c : UInt8) (v : Nat) (h : sv c = some v) (w : World) : Calls Try.prog 39 #[.int .u8 (c.toNat : Int)] w fun e w' => e = .returned (.int .i64 (v : Nat)) ∧ w = w' := by
  refine (of_any c w).mono ?_
  rintro e w' ⟨rfl, rfl⟩
  exact ⟨by rw [ofI_some h], rfl⟩
theorem of_no (c : UInt8) (h : sv c = none) (w : World) : Calls Try.prog 39 #[.int .u8 (c.toNat : Int)] w fun e w' => e = .returned (.int .i64 (-1)) ∧ w = w' := by
  refine (of_any c w).mono ?_
  rintro e w' ⟨rfl, rfl⟩
  exact ⟨by rw [ofI_none h], rfl⟩
theorem take_at (g : ByteArray) (k : Nat) (p : List UInt8) (hp : g.data.toList.take k = p) (j : Nat) (hj : j < p.length) (h : j < g.size) : g[j]'h = p[j]'hj := by
  subst hp
  rw [List.getElem_take]; rfl
theorem ne61 {c : UInt8} (h : c ≠ 61) : ((c.toNat : Int) == 61) = false := by rw [beq_eq_false_iff_ne]; intro e; exact h (UInt8.toNat_inj.1 (by show _ = 61; omega))
theorem ne61' {c : UInt8} (h : c ≠ 61) : ((c.toNat : Int) != 61) = true := by rw [bne_iff_ne]; intro e; exact h (UInt8.toNat_inj.1 (by show _ = 61; omega))
/-- Does it begin a group? -/
def okG (l : List UInt8) : Bool := (gst l).isSome
theorem okG_none {l : List UInt8} (h : gst l = none) : okG l = false := by unfold okG; rw [h]; rfl
theorem okG_inv {l : List UInt8} {vs : List Nat} {fl : Nat} (h : GInv l vs fl) : okG l = true := by unfold okG; rw [h.gstEq]; rfl
theorem okG_bad (g : ByteArray) (k : Nat) (h : k < g.size) (c : UInt8) (hc : g[k]'h = c) (hn : gst (g.data.toList.take k ++ [c]) = none) : okG g.data.toList = false := by
  refine okG_none ?_
  have e : g.data.toList = (g.data.toList.take k ++ [g[k]'h]) ++ g.data.toList.drop (k + 1) := by rw [← take_get g k h, List.take_append_drop]
  rw [e, hc]
  exact gst_none _ _ hn
set_option maxRecDepth 100000 in
set_option maxHeartbeats 8000000 in
theorem begins_any (g : ByteArray) (w : World) (hg : g.size ≤ 4) : Calls Try.prog 38 #[.string g] w fun e w' => e = .returned (.bool (okG g.data.toList)) ∧ w = w' := by
  have hgl := size_list g
  have HL := Lib.hid hgl; clear hgl
  go_enter Try.func38, Try.ntmps38
  go_wp2
  go_loop [3] (fun i => ∃ (k : Nat) (kI : Int), kI = k ∧ k ≤ g.size ∧ i = .int .i64 kI ∧ ∃ vs fl, GInv (g.data.toList.take k) vs fl) (fun i => g.size - (intOf i).toNat)
  case atStart => exact ⟨0, 0, rfl, Nat.zero_le _, rfl, [], 0, .inl ⟨rfl, rfl, rfl⟩⟩
  case round =>
    obtain ⟨k, kI, hkI, hk, rfl, vs, fl, hinv⟩ := hrel
    by_cases hlt : k < g.size
    · have htl : (g.data.toList.take k).length = k := by rw [List.length_take, HL.out]; omega
      have hst := hinv.step (by omega) (g[k]'hlt)
      have htk := take_get g k hlt
      obtain ⟨c, hc⟩ : ∃ c, g[k]'hlt = c := ⟨_, rfl⟩
      rw [hc] at hst htk
      have HST := Lib.hid hst; have HTK := Lib.hid htk; clear hst htk
      have hinv' := hinv
      rcases hinv with ⟨hp, rfl, rfl⟩ | ⟨c0, a, hp, h0, rfl, rfl⟩ | ⟨c0, c1, a, b, hp, h0, h1, rfl, rfl⟩ | ⟨c0, c1, c2, a, b, d, hp, h0, h1, h2, rfl, rfl⟩ | ⟨c0, c1, a, b, hp, h0, h1, hb, rfl, rfl⟩ | ⟨c0, c1, c2, c3, a, b, d, e, hp, _⟩ | ⟨c0, c1, c2, a, b, d, hp, _⟩ | ⟨c0, c1, a, b, hp, _⟩
      · rw [hp] at htl
        obtain rfl : k = 0 := by simpa using htl.symm
        obtain rfl : kI = 0 := hkI
        have kl : (0 : Int) < (g.size : Int) := by omega
        have HP := Lib.hid hp; have HINV := Lib.hid hinv'; clear hp htl hinv'; (try clear hkI)
        cases hs : sv c with
        | some v =>
          have HC := Lib.hid hc
          have hok : ∃ vs fl, GInv (g.data.toList.take 1) vs fl := by
            rcases HST.out with ⟨hn, _⟩ | ⟨vs', fl', _, hv⟩
            · simp [gstep, fits, hs] at hn
            · exact ⟨vs', fl', by rw [HTK.out]; exact hv⟩
          obtain ⟨vs2, fl2, hok⟩ := hok
          have HOK := Lib.hid hok; clear hok
          have H_hs := Lib.hid hs; clear hs
          go_wp2_with fail
          refine (of_yes _ _ H_hs.out _).mono ?_
          rintro e w1 ⟨rfl, rfl⟩
          go_wp2
          go_round
          case rel => exact ⟨1, 1, rfl, by omega, by go_num, _, _, HOK.out⟩
          case measure => simp [intOf]; omega
        | none =>
          have HC := Lib.hid hc
          by_cases h61 : c = 61
          · have q1 : ((c.toNat : Int) == 61) = true := by rw [h61]; rfl
            have q2 : ((c.toNat : Int) != 61) = false := by rw [h61]; rfl
            have hbad : okG g.data.toList = false := by
              rcases HST.out with ⟨_, hn⟩ | ⟨vs', fl', hn, _⟩
              · exact okG_bad g 0 hlt c HC.out hn
              · simp [gstep, fits, h61, sv_61] at hn
            have HBAD := Lib.hid hbad; clear hbad
            have H61 := Lib.hid h61; clear h61
            have H_hs := Lib.hid hs; clear hs
            go_wp2_with fail
            refine (of_no _ H_hs.out _).mono ?_
            rintro e w1 ⟨rfl, rfl⟩
            go_wp2
            go_ret
            exact ⟨by rw [HBAD.out]; rfl, rfl⟩
          · have q1 := ne61 h61
            have q2 := ne61' h61
            have hbad : okG g.data.toList = false := by
              rcases HST.out with ⟨_, hn⟩ | ⟨vs', fl', hn, _⟩
              · exact okG_bad g 0 hlt c HC.out hn
              · simp [gstep, fits, h61, hs] at hn
            have HBAD := Lib.hid hbad; clear hbad
            have H61 := Lib.hid h61; clear h61
            have H_hs := Lib.hid hs; clear hs
            go_wp2_with fail
            refine (of_no _ H_hs.out _).mono ?_
            rintro e w1 ⟨rfl, rfl⟩
            go_wp2
            go_ret
            exact ⟨by rw [HBAD.out]; rfl, rfl⟩
      · rw [hp] at htl
        obtain rfl : k = 1 := by simpa using htl.symm
        obtain rfl : kI = 1 := hkI
        have kl : (1 : Int) < (g.size : Int) := by omega
        have p0 : 0 < g.size := by omega
        have g0 : g[0]'p0 = c0 := take_at g 1 _ hp 0 (by simp) p0
        have z0 : (0 : Int) < (g.size : Int) := by omega
        have n0 := ne61 (sv_ne h0)
        have HP := Lib.hid hp; have HINV := Lib.hid hinv'; clear hp htl hinv'; (try clear hkI)
        cases hs : sv c with
        | some v =>
          have HC := Lib.hid hc
          have hok : ∃ vs fl, GInv (g.data.toList.take 2) vs fl := by
            rcases HST.out with ⟨hn, _⟩ | ⟨vs', fl', _, hv⟩
            · simp [gstep, fits, hs] at hn
            · exact ⟨vs', fl', by rw [HTK.out]; exact hv⟩
          obtain ⟨vs2, fl2, hok⟩ := hok
          have HOK := Lib.hid hok; clear hok
          have H_hs := Lib.hid hs; clear hs
          go_wp2_with fail
          refine (of_yes _ _ H_hs.out _).mono ?_
          rintro e w1 ⟨rfl, rfl⟩
          go_wp2
          go_round
          case rel => exact ⟨2, 2, rfl, by omega, by go_num, _, _, HOK.out⟩
          case measure => simp [intOf]; omega
        | none =>
          have HC := Lib.hid hc
          by_cases h61 : c = 61
          · have q1 : ((c.toNat : Int) == 61) = true := by rw [h61]; rfl
            have q2 : ((c.toNat : Int) != 61) = false := by rw [h61]; rfl
            have hbad : okG g.data.toList = false := by
              rcases HST.out with ⟨_, hn⟩ | ⟨vs', fl', hn, _⟩
              · exact okG_bad g 1 hlt c HC.out hn
              · simp [gstep, fits, h61, sv_61] at hn
            have HBAD := Lib.hid hbad; clear hbad
            have H61 := Lib.hid h61; clear h61
            have H_hs := Lib.hid hs; clear hs
            go_wp2_with fail
            refine (of_no _ H_hs.out _).mono ?_
            rintro e w1 ⟨rfl, rfl⟩
            go_wp2
            go_ret
            exact ⟨by rw [HBAD.out]; rfl, rfl⟩
          · have q1 := ne61 h61
            have q2 := ne61' h61
            have hbad : okG g.data.toList = false := by
              rcases HST.out with ⟨_, hn⟩ | ⟨vs', fl', hn, _⟩
              · exact okG_bad g 1 hlt c HC.out hn
              · simp [gstep, fits, h61, hs] at hn
            have HBAD := Lib.hid hbad; clear hbad
            have H61 := Lib.hid h61; clear h61
            have H_hs := Lib.hid hs; clear hs
            go_wp2_with fail
            refine (of_no _ H_hs.out _).mono ?_
            rintro e w1 ⟨rfl, rfl⟩
            go_wp2
            go_ret
            exact ⟨by rw [HBAD.out]; rfl, rfl⟩
      · rw [hp] at htl
        obtain rfl : k = 2 := by simpa using htl.symm
        obtain rfl : kI = 2 := hkI
        have kl : (2 : Int) < (g.size : Int) := by omega
        have p0 : 0 < g.size := by omega
        have g0 : g[0]'p0 = c0 := take_at g 2 _ hp 0 (by simp) p0
        have z0 : (0 : Int) < (g.size : Int) := by omega
        have p1 : 1 < g.size := by omega
        have g1 : g[1]'p1 = c1 := take_at g 2 _ hp 1 (by simp) p1
        have z1 : (1 : Int) < (g.size : Int) := by omega
        have n1 := ne61 (sv_ne h1)
        have m1 := ne61' (sv_ne h1)
        have HP := Lib.hid hp; have HINV := Lib.hid hinv'; clear hp htl hinv'; (try clear hkI)
        cases hs : sv c with
        | some v =>
          have HC := Lib.hid hc
          have hok : ∃ vs fl, GInv (g.data.toList.take 3) vs fl := by
            rcases HST.out with ⟨hn, _⟩ | ⟨vs', fl', _, hv⟩
            · simp [gstep, fits, hs] at hn
            · exact ⟨vs', fl', by rw [HTK.out]; exact hv⟩
          obtain ⟨vs2, fl2, hok⟩ := hok
          have HOK := Lib.hid hok; clear hok
          have H_hs := Lib.hid hs; clear hs
          go_wp2_with fail
          refine (of_yes _ _ H_hs.out _).mono ?_
          rintro e w1 ⟨rfl, rfl⟩
          go_wp2
          go_round
          case rel => exact ⟨3, 3, rfl, by omega, by go_num, _, _, HOK.out⟩
          case measure => simp [intOf]; omega
        | none =>
          have HC := Lib.hid hc
          by_cases h61 : c = 61
          · have q1 : ((c.toNat : Int) == 61) = true := by rw [h61]; rfl
            have q2 : ((c.toNat : Int) != 61) = false := by rw [h61]; rfl
            by_cases hm : b % 16 = 0
            · have e2 : (((b : Nat) : Int) % 16 != 0) = false := by rw [bne_eq_false_iff_eq]; omega
              have hok : ∃ vs fl, GInv (g.data.toList.take 3) vs fl := by
                rcases HST.out with ⟨hn, _⟩ | ⟨vs', fl', _, hv⟩
                · simp [gstep, fits, h61, sv_61, hm] at hn
                · exact ⟨vs', fl', by rw [HTK.out]; exact hv⟩
              obtain ⟨vs2, fl2, hok⟩ := hok
              have HOK := Lib.hid hok; clear hok
              have H61 := Lib.hid h61; have HM := Lib.hid hm; clear h61 hm
              have H_hs := Lib.hid hs; clear hs
              go_wp2_with fail
              refine (of_no _ H_hs.out _).mono ?_
              rintro e w1 ⟨rfl, rfl⟩
              go_wp2_with fail
              refine (of_yes _ _ h1 _).mono ?_
              rintro e w1 ⟨rfl, rfl⟩
              go_wp2
              go_round
              case rel => exact ⟨3, 3, rfl, by omega, by go_num, _, _, HOK.out⟩
              case measure => simp [intOf]; omega
            · have e2 : (((b : Nat) : Int) % 16 != 0) = true := by rw [bne_iff_ne]; omega
              have hbad : okG g.data.toList = false := by
                rcases HST.out with ⟨_, hn⟩ | ⟨vs', fl', hn, _⟩
                · exact okG_bad g 2 hlt c HC.out hn
                · simp [gstep, fits, h61, sv_61, hm] at hn
              have HBAD := Lib.hid hbad; clear hbad
              have H61 := Lib.hid h61; have HM := Lib.hid hm; clear h61 hm
              have H_hs := Lib.hid hs; clear hs
              go_wp2_with fail
              refine (of_no _ H_hs.out _).mono ?_
              rintro e w1 ⟨rfl, rfl⟩
              go_wp2_with fail
              refine (of_yes _ _ h1 _).mono ?_
              rintro e w1 ⟨rfl, rfl⟩
              go_wp2
              go_ret
              exact ⟨by rw [HBAD.out]; rfl, rfl⟩
          · have q1 := ne61 h61
            have q2 := ne61' h61
            have hbad : okG g.data.toList = false := by
              rcases HST.out with ⟨_, hn⟩ | ⟨vs', fl', hn, _⟩
              · exact okG_bad g 2 hlt c HC.out hn
              · simp [gstep, fits, h61, hs] at hn
            have HBAD := Lib.hid hbad; clear hbad
            have H61 := Lib.hid h61; clear h61
            have H_hs := Lib.hid hs; clear hs
            go_wp2_with fail
            refine (of_no _ H_hs.out _).mono ?_
            rintro e w1 ⟨rfl, rfl⟩
            go_wp2
            go_ret
            exact ⟨by rw [HBAD.out]; rfl, rfl⟩
      · rw [hp] at htl
        obtain rfl : k = 3 := by simpa using htl.symm
        obtain rfl : kI = 3 := hkI
        have kl : (3 : Int) < (g.size : Int) := by omega
        have p0 : 0 < g.size := by omega
        have g0 : g[0]'p0 = c0 := take_at g 3 _ hp 0 (by simp) p0
        have z0 : (0 : Int) < (g.size : Int) := by omega
        have p1 : 1 < g.size := by omega
        have g1 : g[1]'p1 = c1 := take_at g 3 _ hp 1 (by simp) p1
        have z1 : (1 : Int) < (g.size : Int) := by omega
        have p2 : 2 < g.size := by omega
        have g2 : g[2]'p2 = c2 := take_at g 3 _ hp 2 (by simp) p2
        have z2 : (2 : Int) < (g.size : Int) := by omega
        have n2 := ne61 (sv_ne h2)
        have m1 := ne61' (sv_ne h1)
        have m2 := ne61' (sv_ne h2)
        have HP := Lib.hid hp; have HINV := Lib.hid hinv'; clear hp htl hinv'; (try clear hkI)
        cases hs : sv c with
        | some v =>
          have HC := Lib.hid hc
          have hok : ∃ vs fl, GInv (g.data.toList.take 4) vs fl := by
            rcases HST.out with ⟨hn, _⟩ | ⟨vs', fl', _, hv⟩
            · simp [gstep, fits, hs] at hn
            · exact ⟨vs', fl', by rw [HTK.out]; exact hv⟩
          obtain ⟨vs2, fl2, hok⟩ := hok
          have HOK := Lib.hid hok; clear hok
          have H_hs := Lib.hid hs; clear hs
          go_wp2_with fail
          refine (of_yes _ _ H_hs.out _).mono ?_
          rintro e w1 ⟨rfl, rfl⟩
          go_wp2
          go_round
          case rel => exact ⟨4, 4, rfl, by omega, by go_num, _, _, HOK.out⟩
          case measure => simp [intOf]; omega
        | none =>
          have HC := Lib.hid hc
          by_cases h61 : c = 61
          · have q1 : ((c.toNat : Int) == 61) = true := by rw [h61]; rfl
            have q2 : ((c.toNat : Int) != 61) = false := by rw [h61]; rfl
            by_cases hm : d % 4 = 0
            · have e2 : (((d : Nat) : Int) % 4 != 0) = false := by rw [bne_eq_false_iff_eq]; omega
              have hok : ∃ vs fl, GInv (g.data.toList.take 4) vs fl := by
                rcases HST.out with ⟨hn, _⟩ | ⟨vs', fl', _, hv⟩
                · simp [gstep, fits, h61, sv_61, hm] at hn
                · exact ⟨vs', fl', by rw [HTK.out]; exact hv⟩
              obtain ⟨vs2, fl2, hok⟩ := hok
              have HOK := Lib.hid hok; clear hok
              have H61 := Lib.hid h61; have HM := Lib.hid hm; clear h61 hm
              have H_hs := Lib.hid hs; clear hs
              go_wp2_with fail
              refine (of_no _ H_hs.out _).mono ?_
              rintro e w1 ⟨rfl, rfl⟩
              go_wp2_with fail
              refine (of_yes _ _ h2 _).mono ?_
              rintro e w1 ⟨rfl, rfl⟩
              go_wp2
              go_round
              case rel => exact ⟨4, 4, rfl, by omega, by go_num, _, _, HOK.out⟩
              case measure => simp [intOf]; omega
            · have e2 : (((d : Nat) : Int) % 4 != 0) = true := by rw [bne_iff_ne]; omega
              have hbad : okG g.data.toList = false := by
                rcases HST.out with ⟨_, hn⟩ | ⟨vs', fl', hn, _⟩
                · exact okG_bad g 3 hlt c HC.out hn
                · simp [gstep, fits, h61, sv_61, hm] at hn
              have HBAD := Lib.hid hbad; clear hbad
              have H61 := Lib.hid h61; have HM := Lib.hid hm; clear h61 hm
              have H_hs := Lib.hid hs; clear hs
              go_wp2_with fail
              refine (of_no _ H_hs.out _).mono ?_
              rintro e w1 ⟨rfl, rfl⟩
              go_wp2_with fail
              refine (of_yes _ _ h2 _).mono ?_
              rintro e w1 ⟨rfl, rfl⟩
              go_wp2
              go_ret
              exact ⟨by rw [HBAD.out]; rfl, rfl⟩
          · have q1 := ne61 h61
            have q2 := ne61' h61
            have hbad : okG g.data.toList = false := by
              rcases HST.out with ⟨_, hn⟩ | ⟨vs', fl', hn, _⟩
              · exact okG_bad g 3 hlt c HC.out hn
              · simp [gstep, fits, h61, hs] at hn
            have HBAD := Lib.hid hbad; clear hbad
            have H61 := Lib.hid h61; clear h61
            have H_hs := Lib.hid hs; clear hs
            go_wp2_with fail
            refine (of_no _ H_hs.out _).mono ?_
            rintro e w1 ⟨rfl, rfl⟩
            go_wp2
            go_ret
            exact ⟨by rw [HBAD.out]; rfl, rfl⟩
      · rw [hp] at htl
        obtain rfl : k = 3 := by simpa using htl.symm
        obtain rfl : kI = 3 := hkI
        have kl : (3 : Int) < (g.size : Int) := by omega
        have p0 : 0 < g.size := by omega
        have g0 : g[0]'p0 = c0 := take_at g 3 _ hp 0 (by simp) p0
        have z0 : (0 : Int) < (g.size : Int) := by omega
        have p1 : 1 < g.size := by omega
        have g1 : g[1]'p1 = c1 := take_at g 3 _ hp 1 (by simp) p1
        have z1 : (1 : Int) < (g.size : Int) := by omega
        have p2 : 2 < g.size := by omega
        have g2 : g[2]'p2 = 61 := take_at g 3 _ hp 2 (by simp) p2
        have z2 : (2 : Int) < (g.size : Int) := by omega
        have m1 := ne61' (sv_ne h1)
        have m2 : (((61 : UInt8).toNat : Int) == 61) = true := by decide
        have m3 : (((61 : UInt8).toNat : Int) != 61) = false := by decide
        have HP := Lib.hid hp; have HINV := Lib.hid hinv'; clear hp htl hinv'; (try clear hkI)
        cases hs : sv c with
        | some v =>
          have HC := Lib.hid hc
          have hbad : okG g.data.toList = false := by
            rcases HST.out with ⟨_, hn⟩ | ⟨vs', fl', hn, _⟩
            · exact okG_bad g 3 hlt c HC.out hn
            · simp [gstep, fits, hs] at hn
          have HBAD := Lib.hid hbad; clear hbad
          have H_hs := Lib.hid hs; clear hs
          go_wp2_with fail
          refine (of_yes _ _ H_hs.out _).mono ?_
          rintro e w1 ⟨rfl, rfl⟩
          go_wp2
          go_ret
          exact ⟨by rw [HBAD.out]; rfl, rfl⟩
        | none =>
          have HC := Lib.hid hc
          by_cases h61 : c = 61
          · have q1 : ((c.toNat : Int) == 61) = true := by rw [h61]; rfl
            have q2 : ((c.toNat : Int) != 61) = false := by rw [h61]; rfl
            have hok : ∃ vs fl, GInv (g.data.toList.take 4) vs fl := by
              rcases HST.out with ⟨hn, _⟩ | ⟨vs', fl', _, hv⟩
              · simp [gstep, fits, h61, sv_61] at hn
              · exact ⟨vs', fl', by rw [HTK.out]; exact hv⟩
            obtain ⟨vs2, fl2, hok⟩ := hok
            have HOK := Lib.hid hok; clear hok
            have H61 := Lib.hid h61; clear h61
            have H_hs := Lib.hid hs; clear hs
            go_wp2_with fail
            refine (of_no _ H_hs.out _).mono ?_
            rintro e w1 ⟨rfl, rfl⟩
            go_wp2
            go_round
            case rel => exact ⟨4, 4, rfl, by omega, by go_num, _, _, HOK.out⟩
            case measure => simp [intOf]; omega
          · have q1 := ne61 h61
            have q2 := ne61' h61
            have hbad : okG g.data.toList = false := by
              rcases HST.out with ⟨_, hn⟩ | ⟨vs', fl', hn, _⟩
              · exact okG_bad g 3 hlt c HC.out hn
              · simp [gstep, fits, h61, hs] at hn
            have HBAD := Lib.hid hbad; clear hbad
            have H61 := Lib.hid h61; clear h61
            have H_hs := Lib.hid hs; clear hs
            go_wp2_with fail
            refine (of_no _ H_hs.out _).mono ?_
            rintro e w1 ⟨rfl, rfl⟩
            go_wp2
            go_ret
            exact ⟨by rw [HBAD.out]; rfl, rfl⟩
      all_goals (rw [hp] at htl; simp at htl; omega)
    · have hall : g.data.toList.take k = g.data.toList := List.take_of_length_le (by rw [HL.out]; omega)
      rw [hall] at hinv
      have hok := okG_inv hinv
      obtain rfl : k = g.size := by omega
      subst hkI
      have HOK := Lib.hid hok; clear hok hinv hall
      go_wp2
      go_ret
      exact ⟨by rw [HOK.out]; rfl, rfl⟩
end Go.Proofs.Ytpehogkgiikjmaa
