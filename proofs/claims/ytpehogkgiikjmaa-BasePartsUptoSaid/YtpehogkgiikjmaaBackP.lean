/- What is written is read back; what is read was written. No program is named. -/
import Derived.Test.YtpehogkgiikjmaaDecQ
import Derived.Test.YtpehogkgiikjmaaUnhexP
namespace Go.Proofs.Ytpehogkgiikjmaa
open Go.RowKit
set_option linter.unusedSimpArgs false
set_option linter.unusedVariables false
theorem b0_eq (x y : Nat) (c : UInt8) (h : (x * 4 + y / 16) % 256 = c.toNat) : b0 x y = c := UInt8.toNat_inj.1 (by unfold b0; rw [UInt8.toNat_ofNat']; exact h)
theorem b1_eq (x y : Nat) (c : UInt8) (h : (x % 16 * 16 + y / 4) % 256 = c.toNat) : b1 x y = c := UInt8.toNat_inj.1 (by unfold b1; rw [UInt8.toNat_ofNat']; exact h)
theorem b2_eq (x y : Nat) (c : UInt8) (h : (x % 4 * 64 + y) % 256 = c.toNat) : b2 x y = c := UInt8.toNat_inj.1 (by unfold b2; rw [UInt8.toNat_ofNat']; exact h)
theorem b0_nat (x y : Nat) (hx : x < 64) (hy : y < 64) : (b0 x y).toNat = x * 4 + y / 16 := by unfold b0; rw [UInt8.toNat_ofNat']; omega
theorem b1_nat (x y : Nat) (hy : y < 64) : (b1 x y).toNat = x % 16 * 16 + y / 4 := by unfold b1; rw [UInt8.toNat_ofNat']; omega
theorem b2_nat (x y : Nat) (hy : y < 64) : (b2 x y).toNat = x % 4 * 64 + y := by unfold b2; rw [UInt8.toNat_ofNat']; omega
theorem grp_n (a b c : Nat) : grp a b c = a * 65536 + b * 256 + c := rfl
theorem dgo_enc (l : List UInt8) : ∀ (acc : List UInt8) (i : Nat), i % 4 = 0 → dgo acc [] 0 i (enc l) = (acc ++ l, 0, 0) := by
  induction l using enc.induct with
  | case1 a b c r ih =>
    intro acc i hi
    have la : a.toNat < 256 := a.toBitVec.isLt
    have lb : b.toNat < 256 := b.toBitVec.isLt
    have lc : c.toNat < 256 := c.toBitVec.isLt
    have hn := grp_n a.toNat b.toNat c.toNat
    generalize hN : grp a.toNat b.toNat c.toNat = n at hn
    have hG : GInv [sg (n / 262144), sg (n / 4096 % 64), sg (n / 64 % 64), sg (n % 64)] [n / 262144, n / 4096 % 64, n / 64 % 64, n % 64] 0 :=
      .inr (.inr (.inr (.inr (.inr (.inl ⟨_, _, _, _, _, _, _, _, rfl, sv_of_sg _ (by omega), sv_of_sg _ (by omega), sv_of_sg _ (by omega), sv_of_sg _ (by omega), rfl, rfl⟩)))))
    have h := dgo_group acc _ (enc r) _ _ i hG hi
    simp only [enc, hN]
    rw [show sg (n / 262144) :: sg (n / 4096 % 64) :: sg (n / 64 % 64) :: sg (n % 64) :: enc r = [sg (n / 262144), sg (n / 4096 % 64), sg (n / 64 % 64), sg (n % 64)] ++ enc r from rfl, h, if_pos (by simp), ih _ _ (by simp; omega)]
    simp only [gb]
    rw [b0_eq _ _ a (by omega), b1_eq _ _ b (by omega), b2_eq _ _ c (by omega)]
    simp
  | case2 a b =>
    intro acc i hi
    have la : a.toNat < 256 := a.toBitVec.isLt
    have lb : b.toNat < 256 := b.toBitVec.isLt
    have hn := grp_n a.toNat b.toNat 0
    generalize hN : grp a.toNat b.toNat 0 = n at hn
    have hG : GInv [sg (n / 262144), sg (n / 4096 % 64), sg (n / 64 % 64), 61] [n / 262144, n / 4096 % 64, n / 64 % 64] 1 :=
      .inr (.inr (.inr (.inr (.inr (.inr (.inl ⟨_, _, _, _, _, _, rfl, sv_of_sg _ (by omega), sv_of_sg _ (by omega), sv_of_sg _ (by omega), by omega, rfl, rfl⟩))))))
    have h := dgo_group acc _ [] _ _ i hG hi
    simp only [enc, hN]
    rw [List.append_nil] at h
    rw [h, if_pos (by simp)]
    simp only [gb, dgo, List.length_cons, List.length_nil]
    rw [if_pos (by omega), b0_eq _ _ a (by omega), b1_eq _ _ b (by omega)]
  | case3 a =>
    intro acc i hi
    have la : a.toNat < 256 := a.toBitVec.isLt
    have hn := grp_n a.toNat 0 0
    generalize hN : grp a.toNat 0 0 = n at hn
    have hG : GInv [sg (n / 262144), sg (n / 4096 % 64), 61, 61] [n / 262144, n / 4096 % 64] 2 :=
      .inr (.inr (.inr (.inr (.inr (.inr (.inr ⟨_, _, _, _, rfl, sv_of_sg _ (by omega), sv_of_sg _ (by omega), by omega, rfl, rfl⟩))))))
    have h := dgo_group acc _ [] _ _ i hG hi
    simp only [enc, hN]
    rw [List.append_nil] at h
    rw [h, if_pos (by simp)]
    simp only [gb, dgo, List.length_cons, List.length_nil]
    rw [if_pos (by omega), b0_eq _ _ a (by omega)]
  | case4 => intro acc i hi; simp [enc, dgo, hi]
theorem decR_enc (l : List UInt8) : decR (enc l) = (l, 0, 0) := by
  have := dgo_enc l [] 0 rfl
  simpa [decR] using this
theorem hx_all : ∀ n : Fin 16, (dv (hx n.val) == some n.val) = true := by decide +kernel
theorem dv_hx (n : Nat) (h : n < 16) : dv (hx n) = some n := by have := hx_all ⟨n, h⟩; simpa using this
theorem dvn_hx (n : Nat) (h : n < 16) : dvn (hx n) = n := by unfold dvn; rw [dv_hx n h]; rfl
theorem unB_hexL (l : List UInt8) : unB (hexL l) = l := by
  induction l with
  | nil => rfl
  | cons c r ih =>
    have lc : c.toNat < 256 := c.toBitVec.isLt
    simp only [hexL, unB, ih]
    rw [dvn_hx _ (by omega), dvn_hx _ (by omega), show c.toNat / 16 * 16 + c.toNat % 16 = c.toNat from by omega, UInt8.ofNat_toNat]
theorem digs_hexL (l : List UInt8) : digs (hexL l) = true := by
  induction l with
  | nil => rfl
  | cons c r ih =>
    have lc : c.toNat < 256 := c.toBitVec.isLt
    simp only [hexL, digs, List.all_cons] at ih ⊢
    rw [ih, dv_hx _ (by omega), dv_hx _ (by omega)]; rfl
theorem hexL_length (l : List UInt8) : (hexL l).length = 2 * l.length := hexL_len l
theorem unR_hexL (l : List UInt8) : unR (hexL l) = (l, 0, 0) := by
  rw [unR_ok _ (digs_hexL l) (by rw [hexL_length]; omega), unB_hexL]
/-- A group at the head, where nothing goes wrong. -/
theorem head_group (s : List UInt8) (acc : List UInt8) (i : Nat) (hi : i % 4 = 0) (hok : (dgo acc [] 0 i s).2.2 = 0) : ∀ k, k ≤ 4 → k ≤ s.length → ∃ vs fl, GInv (s.take k) vs fl := by
  intro k
  induction k with
  | zero => intro _ _; exact ⟨[], 0, .inl ⟨rfl, rfl, rfl⟩⟩
  | succ k ih =>
    intro h4 hl
    obtain ⟨vs, fl, hinv⟩ := ih (by omega) (by omega)
    have hk : k < s.length := by omega
    have hlen : (s.take k).length = k := by rw [List.length_take]; omega
    have hs : s = s.take k ++ s[k] :: s.drop (k + 1) := by rw [← List.drop_eq_getElem_cons hk, List.take_append_drop]
    rcases hinv.step (by rw [hlen]; omega) s[k] with ⟨hn, _⟩ | ⟨vs', fl', _, hv⟩
    · have := dgo_bad acc (s.take k) (s.drop (k + 1)) vs fl i s[k] hinv hi (by rw [hlen]; omega) hn
      rw [← hs] at this
      rw [this] at hok; cases hok
    · exact ⟨vs', fl', by rw [List.take_succ_eq_append_getElem hk]; exact hv⟩
theorem short_group (s : List UInt8) (acc : List UInt8) (i : Nat) (hi : i % 4 = 0) (hok : (dgo acc [] 0 i s).2.2 = 0) (h0 : s ≠ []) : 4 ≤ s.length := by
  rcases Nat.lt_or_ge s.length 4 with h | h
  · obtain ⟨vs, fl, hinv⟩ := head_group s acc i hi hok s.length (by omega) (Nat.le_refl _)
    rw [List.take_of_length_le (Nat.le_refl _)] at hinv
    have hg := dgo_group acc s [] vs fl i hinv hi
    rw [List.append_nil, if_neg (by omega)] at hg
    have hp : s.length ≠ 0 := fun e => h0 (List.eq_nil_of_length_eq_zero e)
    rw [hg] at hok
    simp only [dgo] at hok
    rw [if_neg (by omega)] at hok; cases hok
  · exact h
theorem dgo_ended (acc : List UInt8) (fl i : Nat) (r : List UInt8) (hf : fl ≠ 0) (hi : i % 4 = 0) (hok : (dgo acc [] fl i r).2.2 = 0) : r = [] := by
  cases r with
  | nil => rfl
  | cons c r =>
    rw [dgo_none (by unfold dstep; rw [if_pos ⟨hf, hi⟩])] at hok
    cases hok
theorem enc_back (n : Nat) : ∀ (s : List UInt8), s.length ≤ n → ∀ (acc : List UInt8) (i : Nat), i % 4 = 0 → (dgo acc [] 0 i s).2.2 = 0 → ∃ t, (dgo acc [] 0 i s).1 = acc ++ t ∧ enc t = s := by
  induction n with
  | zero =>
    intro s hs acc i hi _
    have : s = [] := List.eq_nil_of_length_eq_zero (by omega)
    subst this
    exact ⟨[], by simp [dgo, hi], rfl⟩
  | succ n ih =>
    intro s hs acc i hi hok
    by_cases h0 : s = []
    · subst h0; exact ⟨[], by simp [dgo, hi], rfl⟩
    · have h4 := short_group s acc i hi hok h0
      obtain ⟨vs, fl, hinv⟩ := head_group s acc i hi hok 4 (Nat.le_refl _) h4
      have hlen : (s.take 4).length = 4 := by rw [List.length_take]; omega
      have hg := dgo_group acc (s.take 4) (s.drop 4) vs fl i hinv hi
      rw [List.take_append_drop, hlen, if_pos rfl] at hg
      rw [hg] at hok ⊢
      have hsp : s = s.take 4 ++ s.drop 4 := (List.take_append_drop 4 s).symm
      rcases hinv with ⟨hp, _⟩ | ⟨c0, a, hp, _⟩ | ⟨c0, c1, a, b, hp, _⟩ | ⟨c0, c1, c2, a, b, c, hp, _⟩ | ⟨c0, c1, a, b, hp, _⟩ | ⟨c0, c1, c2, c3, a, b, c, d, hp, h0, h1, h2, h3, rfl, rfl⟩ | ⟨c0, c1, c2, a, b, c, hp, h0, h1, h2, hc4, rfl, rfl⟩ | ⟨c0, c1, a, b, hp, h0, h1, hb16, rfl, rfl⟩
      · rw [hp] at hlen; simp at hlen
      · rw [hp] at hlen; simp at hlen
      · rw [hp] at hlen; simp at hlen
      · rw [hp] at hlen; simp at hlen
      · rw [hp] at hlen; simp at hlen
      · have la := sv_lt h0; have lb := sv_lt h1; have lc := sv_lt h2; have ld := sv_lt h3
        obtain ⟨t, ht, het⟩ := ih (s.drop 4) (by rw [List.length_drop]; omega) _ _ (by omega) hok
        refine ⟨gb [a, b, c, d] ++ t, by rw [ht, List.append_assoc], ?_⟩
        rw [hsp, hp, ← het]
        simp only [gb, List.cons_append, List.nil_append, enc, grp_n, b0_nat a b la lb, b1_nat b c lc, b2_nat c d ld]
        rw [show ((a * 4 + b / 16) * 65536 + (b % 16 * 16 + c / 4) * 256 + (c % 4 * 64 + d)) / 262144 = a from by omega, show ((a * 4 + b / 16) * 65536 + (b % 16 * 16 + c / 4) * 256 + (c % 4 * 64 + d)) / 4096 % 64 = b from by omega, show ((a * 4 + b / 16) * 65536 + (b % 16 * 16 + c / 4) * 256 + (c % 4 * 64 + d)) / 64 % 64 = c from by omega, show ((a * 4 + b / 16) * 65536 + (b % 16 * 16 + c / 4) * 256 + (c % 4 * 64 + d)) % 64 = d from by omega, sv_sg h0, sv_sg h1, sv_sg h2, sv_sg h3]
      · have la := sv_lt h0; have lb := sv_lt h1; have lc := sv_lt h2
        have hr := dgo_ended _ _ _ _ (by decide) (by omega) hok
        refine ⟨gb [a, b, c], by rw [hr]; simp only [dgo]; rw [if_pos (by omega)], ?_⟩
        rw [hsp, hp, hr]
        simp only [gb, enc, grp_n, b0_nat a b la lb, b1_nat b c lc]
        rw [show ((a * 4 + b / 16) * 65536 + (b % 16 * 16 + c / 4) * 256 + 0) / 262144 = a from by omega, show ((a * 4 + b / 16) * 65536 + (b % 16 * 16 + c / 4) * 256 + 0) / 4096 % 64 = b from by omega, show ((a * 4 + b / 16) * 65536 + (b % 16 * 16 + c / 4) * 256 + 0) / 64 % 64 = c from by omega, sv_sg h0, sv_sg h1, sv_sg h2]
        rfl
      · have la := sv_lt h0; have lb := sv_lt h1
        have hr := dgo_ended _ _ _ _ (by decide) (by omega) hok
        refine ⟨gb [a, b], by rw [hr]; simp only [dgo]; rw [if_pos (by omega)], ?_⟩
        rw [hsp, hp, hr]
        simp only [gb, enc, grp_n, b0_nat a b la lb]
        rw [show ((a * 4 + b / 16) * 65536 + 0 * 256 + 0) / 262144 = a from by omega, show ((a * 4 + b / 16) * 65536 + 0 * 256 + 0) / 4096 % 64 = b from by omega, sv_sg h0, sv_sg h1]
        rfl
theorem enc_decR (s : List UInt8) (hok : (decR s).2.2 = 0) : enc (decR s).1 = s := by
  obtain ⟨t, ht, he⟩ := enc_back s.length s (Nat.le_refl _) [] 0 rfl hok
  unfold decR
  rw [ht]; exact he
theorem dv_hx_all : ∀ n : Fin 256, (!(dv (UInt8.ofNat n.val)).isSome || (hx (dvn (UInt8.ofNat n.val)) == UInt8.ofNat n.val)) = true := by decide +kernel
theorem hx_dvn (c : UInt8) (h : (dv c).isSome = true) : hx (dvn c) = c := by
  have h2 := dv_hx_all ⟨c.toNat, c.toBitVec.isLt⟩
  rw [UInt8.ofNat_toNat, h] at h2
  simpa using h2
theorem hex_unB (l : List UInt8) (hd : digs l = true) (hp : l.length % 2 = 0) : hexL (unB l) = l := by
  induction l using unB.induct with
  | case1 a b r ih =>
    simp only [digs, List.all_cons, Bool.and_eq_true] at hd
    have ha := dv_some a hd.1
    have hb := dv_some b hd.2.1
    have la := dvn_lt a; have lb := dvn_lt b
    simp only [unB, hexL]
    rw [ih (by unfold digs; exact hd.2.2) (by simp only [List.length_cons] at hp; omega)]
    have e : (UInt8.ofNat (dvn a * 16 + dvn b)).toNat = dvn a * 16 + dvn b := by rw [UInt8.toNat_ofNat']; omega
    rw [e, show (dvn a * 16 + dvn b) / 16 = dvn a from by omega, show (dvn a * 16 + dvn b) % 16 = dvn b from by omega, hx_dvn a hd.1, hx_dvn b hd.2.1]
  | case2 l hl =>
    match l, hl, hp with
    | [], _, _ => rfl
    | [a], _, h => simp at h
    | a :: b :: r, hl, _ => exact (hl a b r rfl).elim
theorem unR_cases (l : List UInt8) (hok : (unR l).2.2 = 0) : hexL (unR l).1 = l := by
  unfold unR at hok ⊢
  cases hb : badAt l with
  | some k => rw [hb] at hok; cases hok
  | none =>
    rw [hb] at hok
    simp only at hok ⊢
    have hd : digs l = true := by
      unfold badAt at hb
      rw [List.findIdx?_eq_none_iff] at hb
      unfold digs
      rw [List.all_eq_true]
      intro c hc
      have := hb c hc
      simpa using this
    by_cases hp : l.length % 2 = 1
    · rw [if_pos hp] at hok; cases hok
    · rw [if_neg hp]; exact hex_unB l hd (by omega)
end Go.Proofs.Ytpehogkgiikjmaa
