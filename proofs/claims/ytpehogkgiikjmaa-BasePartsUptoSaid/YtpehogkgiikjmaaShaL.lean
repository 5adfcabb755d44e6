/- base.Sha1 and that its answer is the document's: given byte by byte, or block by block: the same words. Conditions: fewer than 2^40 bytes. -/
import Derived.Test.YtpehogkgiikjmaaShaD
namespace Go.Proofs.Ytpehogkgiikjmaa
open Go.RowKit
set_option linter.unusedSimpArgs false
set_option linter.unusedVariables false
theorem feed_blocks (ml : List UInt8) (Q : Nat) (hl : ml.length = 64 * Q) (b : Nat) (hb : b ≤ Q) :
    (feed st0 (ml.take (64 * b))).h = hashN ml b ∧ (feed st0 (ml.take (64 * b))).m.length = 64 ∧ (feed st0 (ml.take (64 * b))).n = 64 * b := by
  induction b with
  | zero => exact ⟨rfl, rfl, rfl⟩
  | succ b ih =>
    obtain ⟨h1, h2, h3⟩ := ih (by omega)
    have e : ml.take (64 * (b + 1)) = ml.take (64 * b) ++ blk ml b := by
      rw [show 64 * (b + 1) = 64 * b + 64 from by omega, List.take_add]
      rfl
    have hbl : (blk ml b).length = 64 := by unfold blk; rw [List.length_take, List.length_drop]; omega
    rw [e, feed_append, feed_chunk _ _ h2 (by intro h; rw [h] at hbl; cases hbl) (by rw [h3, hbl]; omega), h3, hbl, h1]
    have hlay : lay (feed st0 (ml.take (64 * b))).m (64 * b % 64) (blk ml b) = blk ml b := by
      unfold lay
      rw [show 64 * b % 64 = 0 from by omega, hbl, List.drop_eq_nil_of_le (by omega)]
      simp
    rw [hlay, if_pos (by omega)]
    exact ⟨rfl, hbl, by show 64 * b + 64 = _; omega⟩
theorem tailL_len (n : Nat) : (n + (tailL n).length) % 64 = 0 := by
  unfold tailL
  simp only [List.length_append, List.length_replicate, lenL_len, List.length_cons, List.length_nil]
  unfold zc
  omega
theorem sha_eq (l : List UInt8) : outF (feed (feed st0 l) (tailL l.length)).h = shaR l := by
  have hl : (l ++ tailL l.length).length = 64 * ((l ++ tailL l.length).length / 64) := by
    have := tailL_len l.length
    rw [List.length_append]
    omega
  have := (feed_blocks (l ++ tailL l.length) _ hl _ (Nat.le_refl _)).1
  rw [← hl, List.take_of_length_le (Nat.le_refl _)] at this
  rw [← feed_append, this]
  rfl
theorem feed_st0_m (l : List UInt8) : (feed st0 l).m.length = 64 := by rw [feed_m]; rfl
theorem feed_st0_n (l : List UInt8) : (feed st0 l).n = l.length := by rw [feed_n]; exact Nat.zero_add _
/-- Asked: the sum of all that it was given. -/
theorem done_sha (x : Nat) (l : List UInt8) (w : World) (hl : l.length ≤ 1152921504606846976) (hx : w.rowIs x 63 70 (stCell (feed st0 l))) :
    Calls Try.prog 26 #[.pointer (some ⟨x, 0, none⟩)] w fun e w' => e = .returned (.string ⟨(shaR l).toArray⟩) ∧ Below w.heap.size w w' := by
  have := done_any x (feed st0 l) w (feed_st0_m l) (by rw [feed_st0_n]; exact hl) hx
  rw [feed_st0_n, sha_eq] at this
  exact this
theorem le_60 (n : Nat) (h : n ≤ 1099511627776) : n ≤ 1152921504606846976 := by omega
theorem le_62 (a n : Nat) (ha : a = 0) (h : n ≤ 1099511627776) : a + n ≤ 4611686018427387904 := by omega
set_option maxRecDepth 1000000 in
set_option maxHeartbeats 4000000 in
theorem sha_any (s : ByteArray) (w : World) (hs : s.size ≤ 1099511627776) :
    Calls Try.prog 30 #[.string s] w fun e w' => e = .returned (.string ⟨(shaR s.data.toList).toArray⟩) ∧ Below w.heap.size w w' := by
  have h60 := le_60 s.data.toList.length (by rw [size_list]; exact hs)
  have h62 := le_62 st0.n s.size rfl hs
  go_enter Try.func30, Try.ntmps30
  go_wp2_with (go_at_call 24; refine (new_any _).mono ?_)
  rintro e w1 ⟨rfl, hr1, hb1⟩
  go_wp2_with (go_at_call 25; refine (write_any w.heap.size s st0 _ rfl h62 hr1).mono ?_)
  rintro e w2 ⟨rfl, hr2, hg2⟩
  have hb2 : Below w.heap.size w w2 := hb1.grown hg2 hb1.size (fun k hk => by cases hk; exact Nat.le_refl _)
  go_wp2_with (go_at_call 26; refine (done_sha w.heap.size s.data.toList _ h60 hr2).mono ?_)
  rintro e w3 ⟨rfl, hb3⟩
  go_wp2
  go_ret
  exact ⟨rfl, hb2.trans (hb3.mono hb2.size)⟩
end Go.Proofs.Ytpehogkgiikjmaa
