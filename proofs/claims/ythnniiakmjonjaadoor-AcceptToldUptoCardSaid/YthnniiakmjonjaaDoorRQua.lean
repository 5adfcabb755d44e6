/- The walk of turnpikeref07.Quality: the plain function quR. Conditions: fewer than 2^40 bytes. -/
import Derived.Test.YthnniiakmjonjaaDoorQua
import Derived.Test.YthnniiakmjonjaaDoorOct2
namespace Go.Proofs.YthnniiakmjonjaaDoor
open Go.RowKit
set_option linter.unusedSimpArgs false
set_option linter.unusedVariables false
set_option maxRecDepth 1000000
theorem qdg_dg (c : UInt8) : dgN c.toNat = qdg c := rfl
theorem rdigit_c (c : UInt8) (b : Bool) (hb : qdg c = b) (w : World) : Calls Tryd.prog 58 #[.int .u8 (c.toNat : Int)] w fun e w' => e = .returned (.bool b) ∧ w' = w := by
  have h := rdigit_any c.toNat w
  rwa [qdg_dg, hb] at h
theorem quR_at (l : List UInt8) (a : UInt8) (h0 : l[0]? = some a) (h1 : l.length = 1 ∨ l[1]? = some 46) : quR l = quP a (l.drop 2) := by
  match l with
  | [] => simp at h0
  | [x] =>
    obtain rfl : x = a := by simpa using h0
    rfl
  | x :: y :: p =>
    obtain rfl : x = a := by simpa using h0
    have hy : y = 46 := by
      rcases h1 with h | h
      · simp at h
      · simpa using h
    show (if y = 46 then quP x p else (0, 71)) = _
    rw [if_pos hy]; rfl
theorem quR_dot (l : List UInt8) (b : UInt8) (h1 : l[1]? = some b) (hb : b ≠ 46) : quR l = (0, 71) := by
  match l with
  | [] => rfl
  | [x] => simp at h1
  | x :: y :: p =>
    obtain rfl : y = b := by simpa using h1
    show (if y = 46 then quP x p else (0, 71)) = _
    rw [if_neg hb]
theorem quR_first (l : List UInt8) (a : UInt8) (h0 : l[0]? = some a) (h : ¬ (a = 48 ∨ a = 49)) : quR l = (0, 71) := by
  match l with
  | [] => rfl
  | [x] =>
    obtain rfl : x = a := by simpa using h0
    exact quP_no x [] h
  | x :: y :: p =>
    obtain rfl : x = a := by simpa using h0
    show (if y = 46 then quP x p else (0, 71)) = _
    rw [quP_no x p h]
    split <;> rfl
theorem quR_long (l : List UInt8) (h : 5 < l.length) : quR l = (0, 71) := by
  match l with
  | [] => rfl
  | [x] => simp at h
  | x :: y :: p =>
    show (if y = 46 then quP x p else (0, 71)) = _
    rw [quP_long x p (by simp at h; omega)]
    split <;> rfl
theorem pad3_in (l : List UInt8) (i : Nat) (c : UInt8) (h2 : 2 ≤ i) (h : l[i]? = some c) : (l.drop 2)[i - 2]? = some c ∧ (pad3 (l.drop 2))[i - 2]? = some c := by
  have h1 : (l.drop 2)[i - 2]? = some c := by rw [List.getElem?_drop, show 2 + (i - 2) = i from by omega]; exact h
  refine ⟨h1, ?_⟩
  unfold pad3
  rw [List.getElem?_append_left (List.getElem?_eq_some_iff.1 h1).1]
  exact h1
theorem pad3_out (l : List UInt8) (i : Nat) (h2 : 2 ≤ i) (h5 : i < 5) (h : l.length ≤ i) : (pad3 (l.drop 2))[i - 2]? = some 48 := by
  unfold pad3
  rw [List.getElem?_append_right (by rw [List.length_drop]; omega), List.getElem?_replicate, if_pos (by rw [List.length_drop]; omega)]
set_option maxHeartbeats 8000000 in
theorem rqual_any (s : ByteArray) (w : World) (hs : s.size ≤ 1099511627776) : Calls Tryd.prog 22 #[.string s] w fun e w' => e = .returned (.tuple #[.int .i64 ((quR s.data.toList).1 : Nat), .int .i64 ((quR s.data.toList).2 : Nat)]) ∧ w' = w := by
  by_cases h0 : s.size = 0
  · obtain rfl := emp_o s h0
    clear h0
    have HR := Lib.hid (show quR (⟨#[]⟩ : ByteArray).data.toList = (0, 71) from rfl)
    go_enter Tryd.func22, Tryd.ntmps22
    go_wp2
    go_ret2
    rw [HR.out]
    exact ⟨rfl, rfl⟩
  · have hpos : 0 < s.size := by omega
    clear h0
    obtain ⟨c0, hc0⟩ : ∃ c, s[0]'hpos = c := ⟨_, rfl⟩
    have hg0 := list_get s 0 hpos
    rw [hc0] at hg0
    have e0 := full_o s hpos
    have e1 := full_o2 s hpos
    have p0 : (0 : Int) < (s.size : Int) := by omega
    by_cases hf : ¬ (c0 = 48 ∨ c0 = 49)
    · have HR := Lib.hid (quR_first _ c0 hg0 hf)
      have b8 : ((c0.toNat : Int) != 48) = true := (ne_u8o c0 48 (by decide) (fun e => hf (Or.inl e))).2
      have b9 : ((c0.toNat : Int) != 49) = true := (ne_u8o c0 49 (by decide) (fun e => hf (Or.inr e))).2
      clear hf hg0
      go_enter Tryd.func22, Tryd.ntmps22
      go_wp2
      go_ret2
      rw [HR.out]
      exact ⟨rfl, rfl⟩
    · have hf2 : c0 = 48 ∨ c0 = 49 := Classical.byContradiction hf
      clear hf
      have hb : (((c0.toNat : Int) != 48) = false ∧ ((c0.toNat : Int) == 49) = false ∧ one9 c0 = 0) ∨ (((c0.toNat : Int) != 48) = true ∧ ((c0.toNat : Int) != 49) = false ∧ ((c0.toNat : Int) == 49) = true ∧ one9 c0 = 1000) := by
        rcases hf2 with h | h
        · exact Or.inl (by rw [h]; exact ⟨rfl, rfl, rfl⟩)
        · exact Or.inr (by rw [h]; exact ⟨rfl, rfl, rfl, rfl⟩)
      by_cases hl : 5 < s.size
      · have HR := Lib.hid (quR_long s.data.toList (by rw [size_list]; exact hl))
        have b5 : (5 : Int) < (s.size : Int) := by omega
        clear hl hg0 hf2
        rcases hb with ⟨b1, b2, b3⟩ | ⟨b1, b2, b3, b4⟩
        all_goals
          go_enter Tryd.func22, Tryd.ntmps22
          go_wp2
          go_ret2
          rw [HR.out]
          exact ⟨rfl, rfl⟩
      · have b5 : (s.size : Int) ≤ 5 := by omega
        have hl5 : s.size ≤ 5 := by omega
        clear hl
        have hdot : (s.size = 1 ∧ (s.size : Int) ≤ 1) ∨ ∃ h1 : 1 < s.size, ∃ c1, s[1]'h1 = c1 ∧ s.data.toList[1]? = some c1 ∧ (1 : Int) < (s.size : Int) := by
          by_cases h1 : 1 < s.size
          · exact Or.inr ⟨h1, _, rfl, list_get s 1 h1, by omega⟩
          · exact Or.inl ⟨by omega, by omega⟩
        by_cases hd : ∃ h1 : 1 < s.size, s[1]'h1 ≠ 46
        · obtain ⟨h1, hne⟩ := hd
          obtain ⟨c1, hc1⟩ : ∃ c, s[1]'h1 = c := ⟨_, rfl⟩
          have hg1 := list_get s 1 h1
          rw [hc1] at hg1 hne
          have HR := Lib.hid (quR_dot _ c1 hg1 hne)
          have p1 : (1 : Int) < (s.size : Int) := by omega
          have d1 : ((c1.toNat : Int) != 46) = true := (ne_u8o c1 46 (by decide) hne).2
          clear hdot hg1 hg0 hne hf2
          rcases hb with ⟨b1, b2, b3⟩ | ⟨b1, b2, b3, b4⟩
          all_goals
            go_enter Tryd.func22, Tryd.ntmps22
            go_wp2
            go_ret2
            rw [HR.out]
            exact ⟨rfl, rfl⟩
        · have hq : quR s.data.toList = quP c0 (s.data.toList.drop 2) := quR_at _ c0 hg0 (by
            rcases hdot with h | ⟨h1, c1, _, hg1, _⟩
            · exact Or.inl (by rw [size_list]; exact h.1)
            · refine Or.inr ?_
              rw [hg1]
              have : s[1]'h1 = c1 := by assumption
              have h46 : s[1]'h1 = 46 := Classical.byContradiction fun h => hd ⟨h1, h⟩
              rw [← this, h46])
          have hone : (s.size : Int) ≤ 1 ∨ ∃ h1 : 1 < s.size, ∃ c1 : UInt8, s[1]'h1 = c1 ∧ (1 : Int) < (s.size : Int) ∧ ((c1.toNat : Int) != 46) = false := by
            rcases hdot with h | ⟨h1, c1, hc1, hg1, hp1⟩
            · exact Or.inl h.2
            · refine Or.inr ⟨h1, c1, hc1, hp1, ?_⟩
              have h46 : s[1]'h1 = 46 := Classical.byContradiction fun h => hd ⟨h1, h⟩
              rw [← hc1, h46]; rfl
          have hpl : (s.data.toList.drop 2).length ≤ 3 := by rw [List.length_drop, size_list]; omega
          have hQl := pad3_len _ hpl
          obtain ⟨Q, hQ⟩ : ∃ Q, pad3 (s.data.toList.drop 2) = Q := ⟨_, rfl⟩
          rw [hQ] at hQl
          have HQ := Lib.hid (And.intro hq (And.intro hQ (And.intro hQl (And.intro hpl hf2))))
          have HB := Lib.hid hb
          clear hdot hd hq hQ hQl hpl hf2 hg0 hb
          have hgo : ∀ (b : Bool), ((c0.toNat : Int) == 49) = b → (((c0.toNat : Int) != 48) = false ∨ (((c0.toNat : Int) != 48) = true ∧ ((c0.toNat : Int) != 49) = false)) → one9 c0 = (if b then 1000 else 0) → Calls Tryd.prog 22 #[.string s] w fun e w' => e = .returned (.tuple #[.int .i64 ((quR s.data.toList).1 : Nat), .int .i64 ((quR s.data.toList).2 : Nat)]) ∧ w' = w := by
            intro b hb49 hway hone9
            have HO9 := Lib.hid hone9
            clear hone9
            rcases hway with hw8 | ⟨hw8, hw9⟩ <;> rcases hone with hsz | ⟨h1, c1, hc1, hp1, hd1⟩
            all_goals
              go_enter Tryd.func22, Tryd.ntmps22
              go_wp2
              go_loopw [5, 4] (fun iv nv wr => ∃ i : Nat, iv = .int .i64 i ∧ 2 ≤ i ∧ i ≤ 5 ∧ ((s.data.toList.drop 2).take (i - 2)).all qdg = true ∧ nv = .int .i64 ((decV (Q.take (i - 2)) : Nat) : Int) ∧ (Q.take (i - 2)).all qdg = true ∧ wr = w) (fun iv _ _ => 5 - (intOf iv).toNat)
              case atStart => exact ⟨2, rfl, Nat.le_refl _, by decide, rfl, rfl, rfl, rfl⟩
              case round =>
                obtain ⟨i, rfl, hi2, hi5, hall, rfl, hallQ, rfl⟩ := hrel
                by_cases hlt : i < 5
                · have i1 : (i : Int) < 5 := by omega
                  have i0 : (2 : Int) ≤ (i : Int) := by omega
                  have hn99 := decV_99 Q (i - 2) HQ.out.2.2.1 (by omega) hallQ
                  have hsub : i + 1 - 2 = i - 2 + 1 := by omega
                  by_cases his : i < s.size
                  · obtain ⟨c, hc⟩ : ∃ c, s[i]'his = c := ⟨_, rfl⟩
                    have hget := list_get s i his
                    rw [hc] at hget
                    have hpi := pad3_in _ i c hi2 hget
                    rw [HQ.out.2.1] at hpi
                    have i2 : (i : Int) < (s.size : Int) := by omega
                    cases hqd : qdg c with
                    | true =>
                      have hrd := rdigit_c c true hqd
                      have hdv := decV_take Q (i - 2) c hpi.2
                      have ha1 := all_take qdg _ (i - 2) c hpi.1 hall hqd
                      have ha2 := all_take qdg _ (i - 2) c hpi.2 hallQ hqd
                      rw [← hsub] at hdv ha1 ha2
                      have hc48 : 48 ≤ c.toNat ∧ c.toNat ≤ 57 := by unfold qdg at hqd; rw [decide_eq_true_eq] at hqd; exact hqd
                      obtain ⟨N, hN⟩ : ∃ N, decV (Q.take (i - 2)) = N := ⟨_, rfl⟩
                      rw [hN] at hn99 hdv ⊢
                      obtain ⟨n, hn⟩ : ∃ n, c.toNat = n := ⟨_, rfl⟩
                      have c1' : (48 : Int) ≤ (c.toNat : Int) := by omega
                      have c2' : (c.toNat : Int) ≤ 57 := by omega
                      have n0 : (0 : Int) ≤ (N : Int) := Int.natCast_nonneg _
                      have n1 : (N : Int) ≤ 99 := by omega
                      have hval : (10 : Int) * (N : Int) + ((c.toNat : Int) - 48) = ((N * 10 + (c.toNat - 48) : Nat) : Int) := by omega
                      have HX := Lib.hid (And.intro hdv (And.intro ha1 (And.intro ha2 hval)))
                      have HRD := Lib.hid hrd
                      clear hdv ha1 ha2 hrd hqd hget hpi hall hallQ hn99 hN hn hval hc48 hsub
                      go_wp2_with fail
                      refine (HRD.out _).mono ?_
                      rintro e wr ⟨rfl, rfl⟩
                      go_wp2
                      go_roundw
                      case rel => exact ⟨i + 1, by go_num, by omega, by omega, HX.out.2.1, by rw [HX.out.1, ← HX.out.2.2.2], HX.out.2.2.1, by first | rfl | trivial⟩
                      case measure => simp [intOf]; omega
                    | false =>
                      have hrd := rdigit_c c false hqd
                      have HR := Lib.hid (HQ.out.1.trans (quP_dig c0 _ (all_not qdg _ (i - 2) c hpi.1 hqd)))
                      have HRD := Lib.hid hrd
                      clear hrd hqd hget hpi hall hallQ hn99 hsub
                      go_wp2_with fail
                      refine (HRD.out _).mono ?_
                      rintro e wr ⟨rfl, rfl⟩
                      go_wp2
                      go_ret2
                      rw [HR.out]
                      exact ⟨rfl, rfl⟩
                  · have i2 : (s.size : Int) ≤ (i : Int) := by omega
                    have hpo := pad3_out s.data.toList i hi2 hlt (by rw [size_list]; omega)
                    rw [HQ.out.2.1] at hpo
                    have hdv := decV_take Q (i - 2) 48 hpo
                    have ha2 := all_take qdg _ (i - 2) 48 hpo hallQ rfl
                    have ha1 : ((s.data.toList.drop 2).take (i + 1 - 2)).all qdg = true := by
                      rw [List.take_of_length_le (by rw [List.length_drop, size_list]; omega)] at hall ⊢
                      exact hall
                    rw [← hsub] at hdv ha2
                    obtain ⟨N, hN⟩ : ∃ N, decV (Q.take (i - 2)) = N := ⟨_, rfl⟩
                    rw [hN] at hn99 hdv ⊢
                    have n0 : (0 : Int) ≤ (N : Int) := Int.natCast_nonneg _
                    have n1 : (N : Int) ≤ 99 := by omega
                    have hval : (10 : Int) * (N : Int) = ((N * 10 + ((48 : UInt8).toNat - 48) : Nat) : Int) := by show _ = ((N * 10 + (48 - 48) : Nat) : Int); omega
                    have HX := Lib.hid (And.intro hdv (And.intro ha1 (And.intro ha2 hval)))
                    clear hdv ha1 ha2 hpo hall hallQ hn99 hN hval hsub
                    go_wp2
                    go_roundw
                    case rel => exact ⟨i + 1, by go_num, by omega, by omega, HX.out.2.1, by rw [HX.out.1, ← HX.out.2.2.2], HX.out.2.2.1, by first | rfl | trivial⟩
                    case measure => simp [intOf]; omega
                · obtain rfl : i = 5 := by omega
                  have hQ3 : Q.take (5 - 2) = Q := List.take_of_length_le (by rw [HQ.out.2.2.1]; exact Nat.le_refl _)
                  rw [hQ3] at hallQ ⊢
                  have hpd : (s.data.toList.drop 2).all qdg = true := by rw [← pad3_all, HQ.out.2.1]; exact hallQ
                  have hn := decV_999 Q HQ.out.2.2.1 hallQ
                  have hdN : decV (pad3 (s.data.toList.drop 2)) = decV Q := by rw [HQ.out.2.1]
                  obtain ⟨N, hN⟩ : ∃ N, decV Q = N := ⟨_, rfl⟩
                  rw [hN] at hn hdN ⊢
                  have n0 : (0 : Int) ≤ (N : Int) := Int.natCast_nonneg _
                  have n1 : (N : Int) ≤ 999 := by omega
                  cases b with
                  | false =>
                    have h9 : one9 c0 = 0 := HO9.out
                    have HR := Lib.hid (HQ.out.1.trans (quP_yes c0 _ HQ.out.2.2.2.2 HQ.out.2.2.2.1 hpd (by rw [hdN, h9]; omega)))
                    rw [hdN, h9, Nat.add_zero] at HR
                    have c1'' : (N : Int) ≤ 1000 := by omega
                    clear hpd hn hdN hN hallQ hall hQ3
                    go_wp2
                    go_ret2
                    rw [HR.out]
                    exact ⟨rfl, rfl⟩
                  | true =>
                    have h9 : one9 c0 = 1000 := HO9.out
                    by_cases hbig : 1000 < N + 1000
                    · have HR := Lib.hid (HQ.out.1.trans (quP_big c0 _ (by rw [hdN, h9]; exact hbig)))
                      have c1'' : (1000 : Int) < (N : Int) + 1000 := by omega
                      clear hpd hn hdN hN hallQ hall hQ3 hbig
                      go_wp2
                      go_ret2
                      rw [HR.out]
                      exact ⟨rfl, rfl⟩
                    · have HR := Lib.hid (HQ.out.1.trans (quP_yes c0 _ HQ.out.2.2.2.2 HQ.out.2.2.2.1 hpd (by rw [hdN, h9]; omega)))
                      rw [hdN, h9] at HR
                      have c1'' : (N : Int) + 1000 ≤ 1000 := by omega
                      have c2'' : decide ((1000 : Int) < (N : Int) + 1000) = false := decide_eq_false (by omega)
                      clear hpd hn hdN hN hallQ hall hQ3 hbig
                      go_wp2
                      go_ret2
                      rw [HR.out]
                      exact ⟨by first | rfl | simp, rfl⟩
          rcases HB.out with ⟨b1, b2, b3⟩ | ⟨b1, b2, b3, b4⟩
          · exact hgo false b2 (Or.inl b1) b3
          · exact hgo true b3 (Or.inr ⟨b1, b2⟩) b4
end Go.Proofs.YthnniiakmjonjaaDoor
