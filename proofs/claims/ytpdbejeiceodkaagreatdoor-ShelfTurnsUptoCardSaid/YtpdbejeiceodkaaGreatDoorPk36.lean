/- Mad17, FnvP, Fnv, BaseP, Hex: texts of the seat, one behind the other (a claim holds at most sixty). Conditions: each theorem names its own. -/
import Derived.Test.YtpdbejeiceodkaaGreatDoorPa27
import Derived.Test.YtpdbejeiceodkaaGreatDoorPk34
import Derived.Test.YtpdbejeiceodkaaGreatDoorPk35
import Derived.Test.YtpdbejeiceodkaaGreatDoorPk00
import Derived.Test.YtpdbejeiceodkaaGreatDoorProg
import Derived.Test.YtpdbejeiceodkaaGreatDoorPa02
import Derived.Test.YtpdbejeiceodkaaGreatDoorPk04
namespace Go.Proofs.YtpdbejeiceodkaaGreatDoor
open Go.RowKit
set_option linter.unusedSimpArgs false
set_option linter.unusedVariables false
set_option maxRecDepth 1000000
theorem ShIs.later {W W' : World} {B s : Nat} {l : List Fil} (h : ShIs W B s l) (hb : Below W.heap.size W W') : ShIs W' B s l := by
  obtain ⟨m, v, h1, h2, h3, h4, h5⟩ := h
  exact ⟨m, v, h1, h2, h3.later hb, own_later h4 hb, groups_later h5 hb⟩
theorem ShIs.mono {W : World} {B B' s : Nat} {l : List Fil} (h : ShIs W B s l) (hb : B' ≤ B) : ShIs W B' s l := by
  obtain ⟨m, v, h1, h2, h3⟩ := h
  exact ⟨m, v, Nat.le_trans hb h1, Nat.le_trans hb h2, h3⟩
def MadP (l : List Fil) (w : World) (e : Ending) (w' : World) : Prop :=
  ∃ pv, e = .returned (.tuple #[.pointer pv, .bool (decide ((fck [] l).2 = 0)), .bool true]) ∧ Below w.heap.size w w' ∧ ((fck [] l).2 = 0 → ∃ s, pv = some ⟨s, 0, none⟩ ∧ ShIs w' w.heap.size s l)
set_option maxHeartbeats 8000000 in
theorem made17_any (v : Value) (l : List Fil) (mm : Int) (w : World) (hN : totG l + l.length ≤ 1073741824) (h : FilsIn w v l) (hx : w.cell? ⟨0, 0, none⟩ = some (.int .i64 mm)) (hg : SgAt w) : Calls Tryz.prog 16 #[v] w (MadP l w) := by
  have HG := Lib.hid (given17_any v l w (by omega) h)
  have HN := Lib.hid (fun W (hb : Below w.heap.size w W) => onew_any v l mm W hN (h.below hb) (mx_later (B := 0) hx hb) (hg.below hb))
  have HC := Lib.hid (fun v' W h => rcheck_any v' l W hN h)
  have HA := Lib.hid (fun W (hb : Below w.heap.size w W) => awake17_any mm W (mx_later (B := 0) hx hb) (hg.below hb))
  obtain ⟨ao, cap, rfl, hat⟩ := h
  have HAT := Lib.hid hat
  unfold NwPost at HN
  unfold MadP
  obtain ⟨⟨R1, R2⟩, hR⟩ : ∃ r, fck [] l = r := ⟨_, rfl⟩
  rw [hR] at HN HC ⊢
  have hlb : l.length ≤ 1073741824 := by omega
  clear hat hx hg hN hR
  go_enter Tryz.func16, Tryz.ntmps16
  go_wp2_with fail
  refine (HG.out).mono ?_
  rintro e w1 ⟨rv, rfl, hown, hb1⟩
  have HB1 := Lib.hid hb1
  have HR1 := Lib.hid (filsIn_own hown)
  clear hown hb1 HG
  go_wp2_with fail
  refine (HN.out w1 HB1.out).mono ?_
  rintro e w2 ⟨pv, rfl, hb2, hne, heq⟩
  have HB2 := Lib.hid (HB1.out.trans (hb2.mono HB1.out.size))
  have HR2 := Lib.hid (HR1.out.below hb2)
  have HE := Lib.hid (And.intro hne (fun h => by obtain ⟨s, h1, h2⟩ := heq h; exact ⟨s, h1, h2.mono HB1.out.size⟩) : (R2 ≠ 0 → pv = none) ∧ (R2 = 0 → ∃ s, pv = some ⟨s, 0, none⟩ ∧ ShIs w2 w.heap.size s l))
  clear hb2 hne heq
  go_wp2_with fail
  refine (HC.out rv w2 HR2.out).mono ?_
  rintro e w3 ⟨rfl, hb3⟩
  have HB3 := Lib.hid (HB2.out.trans (hb3.mono HB2.out.size))
  have HR3 := Lib.hid (HR2.out.below hb3)
  have HE3 := Lib.hid (show (R2 ≠ 0 → pv = none) ∧ (R2 = 0 → ∃ s, pv = some ⟨s, 0, none⟩ ∧ ShIs w3 w.heap.size s l) from ⟨HE.out.1, fun h => by obtain ⟨s, h1, h2⟩ := HE.out.2 h; exact ⟨s, h1, h2.later hb3⟩⟩)
  clear hb3
  go_wp2_with fail
  refine (HA.out w3 HB3.out).mono ?_
  rintro e w4 ⟨rfl, hb4⟩
  have HB4 := Lib.hid (HB3.out.trans (hb4.mono HB3.out.size))
  have HR4 := Lib.hid (HR3.out.below hb4)
  have HE4 := Lib.hid (show (R2 ≠ 0 → pv = none) ∧ (R2 = 0 → ∃ s, pv = some ⟨s, 0, none⟩ ∧ ShIs w4 w.heap.size s l) from ⟨HE3.out.1, fun h => by obtain ⟨s, h1, h2⟩ := HE3.out.2 h; exact ⟨s, h1, h2.later hb4⟩⟩)
  clear hb4
  obtain ⟨ao', cap', rfl, hat'⟩ := HR4.out
  have HAT2 := Lib.hid (And.intro (HAT.out.below HB4.out) hat')
  clear hat'
  by_cases h0 : R2 = 0
  · obtain ⟨s, hs1, hs2⟩ := HE4.out.2 h0
    subst hs1
    subst h0
    have HS := Lib.hid hs2
    clear hs2 HE HE3 HE4
    go_wp2
    go_loopw [11] (fun iv wr => ∃ i : Nat, iv = .int .i64 i ∧ i ≤ l.length ∧ Below w4.heap.size w4 wr) (fun iv _ => l.length - (intOf iv).toNat)
    case atStart => exact ⟨0, rfl, Nat.zero_le _, Below.refl _ _⟩
    case round =>
      obtain ⟨i, rfl, hi, hb⟩ := hrel
      have i0 : (0 : Int) ≤ (i : Int) := Int.natCast_nonneg _
      by_cases hil : i < l.length
      case neg =>
        obtain rfl : i = l.length := by omega
        have hd : decide (l.length < l.length) = false := decide_eq_false (Nat.lt_irrefl _)
        have HB := Lib.hid hb
        clear hb
        go_wp2
        go_ret3
        exact ⟨_, rfl, HB4.out.trans (HB.out.mono HB4.out.size), s, rfl, HS.out.later HB.out⟩
      obtain ⟨f, hf⟩ : ∃ f, l[i]? = some f := ⟨_, List.getElem?_eq_getElem hil⟩
      obtain ⟨g, o, rfl, hC⟩ := HAT2.out.1.below hb i f hf
      obtain ⟨g', o', rfl, hC'⟩ := HAT2.out.2.below hb i f hf
      have i1 : (i : Int) < (l.length : Int) := by omega
      have hwi := wrap64_small i (by omega)
      obtain ⟨wd, hwd⟩ : ∃ W, wr.drew = W := ⟨_, rfl⟩
      have hS : Cells6 g (o + i * 6) f wd ∧ Cells6 g' (o' + i * 6) f wd := by rw [← hwd]; exact ⟨hC.below (Below.refl _ wr).drew, hC'.below (Below.refl _ wr).drew⟩
      have HX := Lib.hid (And.intro hwi (show Below w4.heap.size w4 wd by rw [← hwd]; exact hb.drew))
      clear hwi hb hC hC' hf
      go_upto_region 9 with fail
      refine wp_region_textH (fun W => Cells6 g (o + i * 6) f W ∧ Cells6 g' (o' + i * 6) f W) [(0, true), (1, true), (2, true), (3, true), (4, true), (5, true), (6, true), (7, true), (8, false), (9, true)] (by kernel_rfl) (by kernel_rfl) (by kernel_rfl) (by kernel_rfl) (by rw [hwd]; exact hS) ?_
      rw [hwd]
      clear hwd
      iterate 8 (refine wpTxH_take rfl (by kernel_rfl) (v := ?_) ?_ ?_; rotate_left; · (intro W hS; obtain ⟨⟨s0, s1, s2, s3, s4, s5, _⟩, ⟨r0, r1, r2, r3, r4, r5, _⟩⟩ := hS; go_simp; (try with_reducible rfl)))
      refine wpTxH_step rfl (fun K hK => ?_)
      go_simp
      refine (same17_any f _).mono ?_
      rintro e w5 ⟨rfl, hb5⟩
      have HB5 := Lib.hid (HX.out.2.trans (hb5.mono HX.out.2.size))
      refine hK _ _ ⟨hS.1.below hb5, hS.2.below hb5⟩ ?_
      clear hK K hb5
      refine wpTxH_take rfl (by kernel_rfl) (v := ?_) ?_ ?_; rotate_left; · (intro W hS; clear hS; go_simp; (try with_reducible rfl))
      refine wpTxH_nil ?_
      go_simp
      go_wp2
      have hwi := HX.out.1
      go_roundw
      case rel => (try rw [hwi]); clear hwi; exact ⟨i + 1, by go_num, hil, HB5.out⟩
      case measure => (try rw [hwi]); clear hwi; simp [intOf]; omega
  · have hs1 := HE4.out.1 h0
    subst hs1
    have b1 : ((R2 : Int) != 0) = true := by simp; omega
    have b2 : ((R2 : Int) == 0) = false := by simp; omega
    have b3 : decide (R2 = 0) = false := decide_eq_false h0
    have H0 := Lib.hid h0
    clear h0 HE HE3 HE4
    go_wp2
    go_loopw [11] (fun iv wr => ∃ i : Nat, iv = .int .i64 i ∧ i ≤ l.length ∧ Below w4.heap.size w4 wr) (fun iv _ => l.length - (intOf iv).toNat)
    case atStart => exact ⟨0, rfl, Nat.zero_le _, Below.refl _ _⟩
    case round =>
      obtain ⟨i, rfl, hi, hb⟩ := hrel
      have i0 : (0 : Int) ≤ (i : Int) := Int.natCast_nonneg _
      by_cases hil : i < l.length
      case neg =>
        obtain rfl : i = l.length := by omega
        have hd : decide (l.length < l.length) = false := decide_eq_false (Nat.lt_irrefl _)
        have HB := Lib.hid hb
        clear hb
        go_wp2
        go_ret3
        refine ⟨none, ?_, HB4.out.trans (HB.out.mono HB4.out.size), fun h => absurd h H0.out⟩; rw [b3]; rfl
      obtain ⟨f, hf⟩ : ∃ f, l[i]? = some f := ⟨_, List.getElem?_eq_getElem hil⟩
      obtain ⟨g, o, rfl, hC⟩ := HAT2.out.1.below hb i f hf
      obtain ⟨g', o', rfl, hC'⟩ := HAT2.out.2.below hb i f hf
      have i1 : (i : Int) < (l.length : Int) := by omega
      have hwi := wrap64_small i (by omega)
      obtain ⟨wd, hwd⟩ : ∃ W, wr.drew = W := ⟨_, rfl⟩
      have hS : Cells6 g (o + i * 6) f wd ∧ Cells6 g' (o' + i * 6) f wd := by rw [← hwd]; exact ⟨hC.below (Below.refl _ wr).drew, hC'.below (Below.refl _ wr).drew⟩
      have HX := Lib.hid (And.intro hwi (show Below w4.heap.size w4 wd by rw [← hwd]; exact hb.drew))
      clear hwi hb hC hC' hf
      go_upto_region 9 with fail
      refine wp_region_textH (fun W => Cells6 g (o + i * 6) f W ∧ Cells6 g' (o' + i * 6) f W) [(0, true), (1, true), (2, true), (3, true), (4, true), (5, true), (6, true), (7, true), (8, false), (9, true)] (by kernel_rfl) (by kernel_rfl) (by kernel_rfl) (by kernel_rfl) (by rw [hwd]; exact hS) ?_
      rw [hwd]
      clear hwd
      iterate 8 (refine wpTxH_take rfl (by kernel_rfl) (v := ?_) ?_ ?_; rotate_left; · (intro W hS; obtain ⟨⟨s0, s1, s2, s3, s4, s5, _⟩, ⟨r0, r1, r2, r3, r4, r5, _⟩⟩ := hS; go_simp; (try with_reducible rfl)))
      refine wpTxH_step rfl (fun K hK => ?_)
      go_simp
      refine (same17_any f _).mono ?_
      rintro e w5 ⟨rfl, hb5⟩
      have HB5 := Lib.hid (HX.out.2.trans (hb5.mono HX.out.2.size))
      refine hK _ _ ⟨hS.1.below hb5, hS.2.below hb5⟩ ?_
      clear hK K hb5
      refine wpTxH_take rfl (by kernel_rfl) (v := ?_) ?_ ?_; rotate_left; · (intro W hS; clear hS; go_simp; (try with_reducible rfl))
      refine wpTxH_nil ?_
      go_simp
      go_wp2
      have hwi := HX.out.1
      go_roundw
      case rel => (try rw [hwi]); clear hwi; exact ⟨i + 1, by go_num, hil, HB5.out⟩
      case measure => (try rw [hwi]); clear hwi; simp [intOf]; omega
end Go.Proofs.YtpdbejeiceodkaaGreatDoor
namespace Go.Proofs.YtpdbejeiceodkaaGreatDoor
open Go.RowKit
set_option linter.unusedSimpArgs false
set_option linter.unusedVariables false
def fnvM : Nat := 18446744073709551616
def fnvP : Nat := 1099511628211
def fnvS (h c : Nat) : Nat := (h ^^^ c) * fnvP % fnvM
def fnvF (h : Nat) (l : List UInt8) : Nat := l.foldl (fun h c => fnvS h c.toNat) h
def fnv0 : Nat := 14695981039346656037
def fnv (l : List UInt8) : Nat := fnvF fnv0 l
theorem fnvF_snoc (h : Nat) (l : List UInt8) (c : UInt8) : fnvF h (l ++ [c]) = fnvS (fnvF h l) c.toNat := by
  unfold fnvF; rw [List.foldl_append, List.foldl_cons, List.foldl_nil]
theorem fnvF_append (h : Nat) (a b : List UInt8) : fnvF h (a ++ b) = fnvF (fnvF h a) b := by
  unfold fnvF; rw [List.foldl_append]
theorem fnvS_lt (h c : Nat) : fnvS h c < fnvM := Nat.mod_lt _ (by decide)
theorem fnvF_lt (h : Nat) (hh : h < fnvM) (l : List UInt8) : fnvF h l < fnvM := by
  induction l generalizing h with
  | nil => exact hh
  | cons c r ih => exact ih (fnvS h c.toNat) (fnvS_lt _ _)
theorem fnv_lt (l : List UInt8) : fnv l < fnvM := fnvF_lt _ (by decide) l
theorem fnv_lt' (l : List UInt8) : fnv l < 18446744073709551616 := fnv_lt l
def fnvQ : Nat := 14886173955864302971
theorem fnv_pq : fnvP * fnvQ % fnvM = 1 := by decide +kernel
theorem fnv_mul_back (a : Nat) (h : a < fnvM) : a * fnvP % fnvM * fnvQ % fnvM = a := by
  rw [Nat.mod_mul_mod, Nat.mul_assoc, ← Nat.mul_mod_mod, fnv_pq, Nat.mul_one]
  exact Nat.mod_eq_of_lt h
theorem fnv_mul_inj (a b : Nat) (ha : a < fnvM) (hb : b < fnvM) (h : a * fnvP % fnvM = b * fnvP % fnvM) : a = b := by
  rw [← fnv_mul_back a ha, h, fnv_mul_back b hb]
theorem xor_lt_M (h c : Nat) (hh : h < fnvM) (hc : c < 256) : h ^^^ c < fnvM := by
  have e : fnvM = 2 ^ 64 := by decide
  rw [e] at hh ⊢
  exact Nat.xor_lt_two_pow hh (Nat.lt_of_lt_of_le hc (by decide))
theorem xor_right_inj (h c d : Nat) (e : h ^^^ c = h ^^^ d) : c = d := by
  have := congrArg (fun x => h ^^^ x) e
  simpa [← Nat.xor_assoc] using this
theorem xor_left_inj (a b c : Nat) (e : a ^^^ c = b ^^^ c) : a = b := by
  have := congrArg (fun x => x ^^^ c) e
  simpa [Nat.xor_assoc] using this
theorem fnvS_inj_c (h c d : Nat) (hh : h < fnvM) (hc : c < 256) (hd : d < 256) (e : fnvS h c = fnvS h d) : c = d :=
  xor_right_inj h c d (fnv_mul_inj _ _ (xor_lt_M h c hh hc) (xor_lt_M h d hh hd) e)
theorem fnvS_inj_h (a b c : Nat) (ha : a < fnvM) (hb : b < fnvM) (hc : c < 256) (e : fnvS a c = fnvS b c) : a = b :=
  xor_left_inj a b c (fnv_mul_inj _ _ (xor_lt_M a c ha hc) (xor_lt_M b c hb hc) e)
theorem fnvF_inj (l : List UInt8) : ∀ (a b : Nat), a < fnvM → b < fnvM → fnvF a l = fnvF b l → a = b := by
  induction l with
  | nil => intro a b _ _ h; exact h
  | cons c r ih =>
    intro a b ha hb h
    exact fnvS_inj_h a b c.toNat ha hb c.toBitVec.isLt (ih _ _ (fnvS_lt _ _) (fnvS_lt _ _) h)
/-- One byte else: another sum. -/
theorem fnv_turn (l : List UInt8) (k : Nat) (h : k < l.length) (d : UInt8) (hne : l[k] ≠ d) : fnv l ≠ fnv (l.set k d) := by
  intro e
  have h1 : l = l.take k ++ l[k] :: l.drop (k + 1) := by rw [← List.drop_eq_getElem_cons h, List.take_append_drop]
  have h2 : l.set k d = l.take k ++ d :: l.drop (k + 1) := by rw [List.set_eq_take_append_cons_drop, if_pos h]
  rw [h2] at e
  conv at e => lhs; rw [h1]
  unfold fnv at e
  rw [fnvF_append, fnvF_append] at e
  have e2 := fnvF_inj (l.drop (k + 1)) _ _ (fnvS_lt _ _) (fnvS_lt _ _) e
  have e3 := fnvS_inj_c _ _ _ (fnvF_lt _ (by decide) _) (l[k]).toBitVec.isLt d.toBitVec.isLt e2
  exact hne (UInt8.toNat_inj.1 e3)
/-- The walk's own words for a step. -/
theorem fnv_step1 (h : Nat) (hh : h < 18446744073709551616) (c : UInt8) : bits .xor .u64 (h : Int) (c.toNat : Int) = ((h ^^^ c.toNat : Nat) : Int) :=
  u64_xor_nat h c.toNat hh (Nat.lt_of_lt_of_le c.toBitVec.isLt (by decide))
theorem fnv_step2 (h c : Nat) : IntKind.u64.wrap (((h ^^^ c : Nat) : Int) * 1099511628211) = ((fnvS h c : Nat) : Int) := by
  rw [IntKind.wrap_u64]
  have : (((h ^^^ c : Nat) : Int) * 1099511628211) = (((h ^^^ c) * fnvP : Nat) : Int) := by rw [Int.natCast_mul]; rfl
  rw [this]; rfl
end Go.Proofs.YtpdbejeiceodkaaGreatDoor
namespace Go.Proofs.YtpdbejeiceodkaaGreatDoor
open Go.RowKit
set_option linter.unusedSimpArgs false
set_option linter.unusedVariables false
theorem u64_byte (c : UInt8) : IntKind.u64.wrap (c.toNat : Int) = (c.toNat : Int) := by
  have h : c.toNat < 256 := c.toBitVec.isLt
  exact IntWalk.u64_in _ (by omega)
theorem fnv_start : Value.int .u64 14695981039346656037 = Value.int .u64 ((fnv [] : Nat) : Int) := rfl
theorem fnv_any (s : ByteArray) (w : World) (hs : s.size ≤ 140737488351232) :
    Calls Tryz.prog 58 #[.string s] w fun e w' => e = .returned (.int .u64 (fnv s.data.toList : Nat)) ∧ w = w' := by
  go_enter Tryz.func58, Tryz.ntmps58
  go_wp2
  go_loop [3, 7] (fun n i => ∃ k : Nat, k ≤ s.size ∧ i = .int .i64 k ∧ n = .int .u64 (fnv (s.data.toList.take k) : Nat)) (fun _ i => s.size - (intOf i).toNat)
  case atStart => exact ⟨0, Nat.zero_le _, rfl, fnv_start⟩
  case round =>
    obtain ⟨k, hk, rfl, rfl⟩ := hrel
    by_cases hlt : k < s.size
    · have hl := fnv_lt' (s.data.toList.take k)
      have e0 : fnv (s.data.toList.take (k + 1)) = fnvS (fnv (s.data.toList.take k)) (s[k]'hlt).toNat := by rw [take_get s k hlt]; exact fnvF_snoc _ _ _
      generalize fnv (s.data.toList.take k) = h at hl e0
      have E0 := Lib.hid e0; clear e0
      have e1 := u64_byte (s[k]'hlt)
      have e2 := fnv_step1 h hl (s[k]'hlt)
      have e3 := fnv_step2 h (s[k]'hlt).toNat
      clear hl
      go_wp2
      go_round
      case rel => exact ⟨k + 1, by omega, by go_num, by rw [E0.out]⟩
      case measure => simp [intOf]; omega
    · go_wp2
      go_ret
      refine ⟨?_, rfl⟩
      rw [List.take_of_length_le (by rw [size_list]; omega)]
      rfl
theorem rfnv_any (s : ByteArray) (w : World) (hs : s.size ≤ 140737488351232) :
    Calls Tryz.prog 61 #[.string s] w fun e w' => e = .returned (.int .u64 (fnv s.data.toList : Nat)) ∧ w = w' := by
  go_enter Tryz.func61, Tryz.ntmps61
  go_wp2
  go_loop [3, 4] (fun n i => ∃ k : Nat, k ≤ s.size ∧ i = .int .i64 k ∧ n = .int .u64 (fnv (s.data.toList.take k) : Nat)) (fun _ i => s.size - (intOf i).toNat)
  case atStart => exact ⟨0, Nat.zero_le _, rfl, fnv_start⟩
  case round =>
    obtain ⟨k, hk, rfl, rfl⟩ := hrel
    by_cases hlt : k < s.size
    · have hl := fnv_lt' (s.data.toList.take k)
      have e0 : fnv (s.data.toList.take (k + 1)) = fnvS (fnv (s.data.toList.take k)) (s[k]'hlt).toNat := by rw [take_get s k hlt]; exact fnvF_snoc _ _ _
      generalize fnv (s.data.toList.take k) = h at hl e0
      have E0 := Lib.hid e0; clear e0
      have e1 := u64_byte (s[k]'hlt)
      have e2 := fnv_step1 h hl (s[k]'hlt)
      have e3 := fnv_step2 h (s[k]'hlt).toNat
      clear hl
      go_wp2
      go_round
      case rel => exact ⟨k + 1, by omega, by go_num, by rw [E0.out]⟩
      case measure => simp [intOf]; omega
    · go_wp2
      go_ret
      refine ⟨?_, rfl⟩
      rw [List.take_of_length_le (by rw [size_list]; omega)]
      rfl
end Go.Proofs.YtpdbejeiceodkaaGreatDoor
namespace Go.Proofs.YtpdbejeiceodkaaGreatDoor
open Go.RowKit
set_option linter.unusedSimpArgs false
set_option linter.unusedVariables false

def tbl64 : List UInt8 := [65, 66, 67, 68, 69, 70, 71, 72, 73, 74, 75, 76, 77, 78, 79, 80, 81, 82, 83, 84, 85, 86, 87, 88, 89, 90, 97, 98, 99, 100, 101, 102, 103, 104, 105, 106, 107, 108, 109, 110, 111, 112, 113, 114, 115, 116, 117, 118, 119, 120, 121, 122, 48, 49, 50, 51, 52, 53, 54, 55, 56, 57, 43, 47]
def sg (n : Nat) : UInt8 := tbl64.getD n 0
def grp (a b c : Nat) : Nat := a * 65536 + b * 256 + c
/-- The text of base 64. -/
def enc : List UInt8 → List UInt8
  | a :: b :: c :: r => sg (grp a.toNat b.toNat c.toNat / 262144) :: sg (grp a.toNat b.toNat c.toNat / 4096 % 64) :: sg (grp a.toNat b.toNat c.toNat / 64 % 64) :: sg (grp a.toNat b.toNat c.toNat % 64) :: enc r
  | [a, b] => [sg (grp a.toNat b.toNat 0 / 262144), sg (grp a.toNat b.toNat 0 / 4096 % 64), sg (grp a.toNat b.toNat 0 / 64 % 64), 61]
  | [a] => [sg (grp a.toNat 0 0 / 262144), sg (grp a.toNat 0 0 / 4096 % 64), 61, 61]
  | [] => []

def dig16 : List UInt8 := [48, 49, 50, 51, 52, 53, 54, 55, 56, 57, 97, 98, 99, 100, 101, 102]
def hx (n : Nat) : UInt8 := dig16.getD n 0
def hexL : List UInt8 → List UInt8
  | [] => []
  | c :: r => hx (c.toNat / 16) :: hx (c.toNat % 16) :: hexL r

theorem w64_byte (c : UInt8) : wrap64 (c.toNat : Int) = (c.toNat : Int) := by
  have h : c.toNat < 256 := c.toBitVec.isLt
  exact IntWalk.wrap64_in _ (by omega)
theorem w64_byte' (c : UInt8) (a : Nat) (h : c.toNat = a) : wrap64 (c.toNat : Int) = (a : Int) := by rw [w64_byte, h]
theorem byte_lt' (c : UInt8) (a : Nat) (h : c.toNat = a) : a < 256 := by rw [← h]; exact c.toBitVec.isLt
theorem e_o0 (a : Nat) (la : a < 256) : bits .or .i64 0 (a : Int) = (a : Int) := i64_or0 a (by omega)
theorem e_o1 (a b : Nat) (la : a < 256) (lb : b < 256) : bits .or .i64 ((a : Int) * 256) (b : Int) = (a : Int) * 256 + (b : Int) := by
  have h := i64_join 8 (a * 256) b (by simp) (by simpa using lb) (by omega) (by omega)
  rw [Int.natCast_mul, Int.natCast_add, Int.natCast_mul] at h
  exact h
theorem e_o2 (a b c : Nat) (la : a < 256) (lb : b < 256) (lc : c < 256) : bits .or .i64 (((a : Int) * 256 + (b : Int)) * 256) (c : Int) = ((grp a b c : Nat) : Int) := by
  have h := i64_join 8 ((a * 256 + b) * 256) c (by simp) (by simpa using lc) (by omega) (by omega)
  have e : (a * 256 + b) * 256 + c = grp a b c := by unfold grp; omega
  have e2 : (((a * 256 + b) * 256 : Nat) : Int) = ((a : Int) * 256 + (b : Int)) * 256 := by omega
  rw [e, e2] at h
  exact h
theorem grp_lt (a b c : Nat) (la : a < 256) (lb : b < 256) (lc : c < 256) : grp a b c < 16777216 := by unfold grp; omega
theorem e_s (n k : Nat) (h : n < 16777216) : bits .and .i64 ((n : Int) / (k : Int)) 63 = ((n / k % 64 : Nat) : Int) := by
  have h1 : n / k ≤ n := Nat.div_le_self _ _
  have h2 := i64_mask6 (n / k) (by omega)
  rw [Int.natCast_ediv] at h2
  exact h2
theorem e_s0 (n : Nat) (h : n < 16777216) : bits .and .i64 ((n : Int) / 262144) 63 = ((n / 262144 : Nat) : Int) := by
  have h1 := e_s n 262144 h
  rw [Nat.mod_eq_of_lt (by omega)] at h1
  exact h1
theorem e_s3 (n : Nat) (h : n < 16777216) : bits .and .i64 (n : Int) 63 = ((n % 64 : Nat) : Int) := i64_mask6 _ (by omega)
theorem enc_3 (t : ByteArray) (h : 3 ≤ t.size) : enc t.data.toList = [sg (grp (t[0]'(by omega)).toNat (t[1]'(by omega)).toNat (t[2]'(by omega)).toNat / 262144), sg (grp (t[0]'(by omega)).toNat (t[1]'(by omega)).toNat (t[2]'(by omega)).toNat / 4096 % 64), sg (grp (t[0]'(by omega)).toNat (t[1]'(by omega)).toNat (t[2]'(by omega)).toNat / 64 % 64), sg (grp (t[0]'(by omega)).toNat (t[1]'(by omega)).toNat (t[2]'(by omega)).toNat % 64)] ++ enc (t.data.toList.drop 3) := by
  have e := drop_get t 0 (by omega)
  rw [drop_get t 1 (by omega), drop_get t 2 (by omega), List.drop_zero] at e
  rw [e]; rfl
theorem enc_2 (t : ByteArray) (h : t.size = 2) : enc t.data.toList = [sg (grp (t[0]'(by omega)).toNat (t[1]'(by omega)).toNat 0 / 262144), sg (grp (t[0]'(by omega)).toNat (t[1]'(by omega)).toNat 0 / 4096 % 64), sg (grp (t[0]'(by omega)).toNat (t[1]'(by omega)).toNat 0 / 64 % 64), 61] := by
  have e := drop_get t 0 (by omega)
  rw [drop_get t 1 (by omega), List.drop_zero, List.drop_of_length_le (by rw [size_list]; omega)] at e
  rw [e]; rfl
theorem enc_1 (t : ByteArray) (h : t.size = 1) : enc t.data.toList = [sg (grp (t[0]'(by omega)).toNat 0 0 / 262144), sg (grp (t[0]'(by omega)).toNat 0 0 / 4096 % 64), 61, 61] := by
  have e := drop_get t 0 (by omega)
  rw [List.drop_zero, List.drop_of_length_le (by rw [size_list]; omega)] at e
  rw [e]; rfl
theorem list_nil_of (t : ByteArray) (h : t.size = 0) : t.data.toList = [] := List.eq_nil_of_length_eq_zero (by rw [size_list]; exact h)
theorem nonempty_of (t : ByteArray) (h : 0 < t.size) : (!t.toList.isEmpty) = true := by
  rw [ByteArray.toList_eq, List.isEmpty_eq_false_iff.2 (fun e => by have := size_list t; rw [e] at this; simp at this; omega)]; rfl
theorem empty_of (t : ByteArray) (h : t.size = 0) : (!t.toList.isEmpty) = false := by
  rw [ByteArray.toList_eq, list_nil_of t h]; rfl
theorem e_p2 (a b : Nat) : ((a : Int) * 256 + (b : Int)) * 256 = ((grp a b 0 : Nat) : Int) := by
  have e : (a * 256 + b) * 256 = grp a b 0 := by unfold grp; omega
  rw [← e]; omega
theorem e_p1 (a : Nat) : (a : Int) * 256 * 256 = ((grp a 0 0 : Nat) : Int) := by
  have e : a * 256 * 256 = grp a 0 0 := by unfold grp; omega
  rw [← e]; omega
theorem ext_size (t : ByteArray) (k : Nat) : (t.extract k t.size).size = t.size - k := by
  rw [← size_list, Lib.extract_to_end, List.length_drop, size_list]
theorem ext_list (t : ByteArray) (k : Nat) : (t.extract k t.size).data.toList = t.data.toList.drop k := Lib.extract_to_end t k
theorem list_drop_all (t : ByteArray) (k : Nat) (h : t.size ≤ k) : t.data.toList.drop k = [] := List.drop_of_length_le (by rw [size_list]; exact h)
theorem drop_get' (s : ByteArray) (k : Nat) (h : k < s.size) : s.data.toList.drop k = (s[k]'h) :: s.data.toList.drop (k + 1) := drop_get s k h
theorem enc_d3 (s : ByteArray) (k : Nat) (p0 : k < s.size) (p1 : k + 1 < s.size) (p2 : k + 2 < s.size) : enc (s.data.toList.drop k) = [sg (grp (s[k]'p0).toNat (s[k + 1]'p1).toNat (s[k + 2]'p2).toNat / 262144), sg (grp (s[k]'p0).toNat (s[k + 1]'p1).toNat (s[k + 2]'p2).toNat / 4096 % 64), sg (grp (s[k]'p0).toNat (s[k + 1]'p1).toNat (s[k + 2]'p2).toNat / 64 % 64), sg (grp (s[k]'p0).toNat (s[k + 1]'p1).toNat (s[k + 2]'p2).toNat % 64)] ++ enc (s.data.toList.drop (k + 3)) := by
  rw [drop_get s k p0, drop_get s (k + 1) p1, drop_get s (k + 2) p2]; rfl
theorem enc_d2 (s : ByteArray) (k : Nat) (p0 : k < s.size) (p1 : k + 1 < s.size) (p2 : k + 2 = s.size) : enc (s.data.toList.drop k) = [sg (grp (s[k]'p0).toNat (s[k + 1]'p1).toNat 0 / 262144), sg (grp (s[k]'p0).toNat (s[k + 1]'p1).toNat 0 / 4096 % 64), sg (grp (s[k]'p0).toNat (s[k + 1]'p1).toNat 0 / 64 % 64), 61] ++ enc (s.data.toList.drop (k + 3)) := by
  rw [drop_get s k p0, drop_get s (k + 1) p1, list_drop_all s (k + 1 + 1) (by omega), list_drop_all s (k + 3) (by omega)]; rfl
theorem enc_d1 (s : ByteArray) (k : Nat) (p0 : k < s.size) (p2 : k + 1 = s.size) : enc (s.data.toList.drop k) = [sg (grp (s[k]'p0).toNat 0 0 / 262144), sg (grp (s[k]'p0).toNat 0 0 / 4096 % 64), 61, 61] ++ enc (s.data.toList.drop (k + 3)) := by
  rw [drop_get s k p0, list_drop_all s (k + 1) (by omega), list_drop_all s (k + 3) (by omega)]; rfl
theorem e_g3 (a b c : Nat) : (a : Int) * 65536 + (b : Int) * 256 + (c : Int) = ((grp a b c : Nat) : Int) := by unfold grp; omega
theorem e_g2 (a b : Nat) : (a : Int) * 65536 + (b : Int) * 256 = ((grp a b 0 : Nat) : Int) := by unfold grp; omega
theorem e_g1 (a : Nat) : (a : Int) * 65536 = ((grp a 0 0 : Nat) : Int) := by unfold grp; omega
theorem sgb (q : Nat) (h : q < 64) : (⟨#[65, 66, 67, 68, 69, 70, 71, 72, 73, 74, 75, 76, 77, 78, 79, 80, 81, 82, 83, 84, 85, 86, 87, 88, 89, 90, 97, 98, 99, 100, 101, 102, 103, 104, 105, 106, 107, 108, 109, 110, 111, 112, 113, 114, 115, 116, 117, 118, 119, 120, 121, 122, 48, 49, 50, 51, 52, 53, 54, 55, 56, 57, 43, 47]⟩ : ByteArray)[q]'h = sg q := by
  have : ∀ q : Fin 64, (⟨#[65, 66, 67, 68, 69, 70, 71, 72, 73, 74, 75, 76, 77, 78, 79, 80, 81, 82, 83, 84, 85, 86, 87, 88, 89, 90, 97, 98, 99, 100, 101, 102, 103, 104, 105, 106, 107, 108, 109, 110, 111, 112, 113, 114, 115, 116, 117, 118, 119, 120, 121, 122, 48, 49, 50, 51, 52, 53, 54, 55, 56, 57, 43, 47]⟩ : ByteArray)[q.val]'q.isLt = sg q.val := by decide +kernel
  exact this ⟨q, h⟩
theorem hexL_len (l : List UInt8) : (hexL l).length = 2 * l.length := by
  induction l with
  | nil => rfl
  | cons c r ih => simp only [hexL, List.length_cons, ih]; omega
theorem hexL_append (a b : List UInt8) : hexL (a ++ b) = hexL a ++ hexL b := by
  induction a with
  | nil => rfl
  | cons c r ih => simp only [hexL, List.cons_append, ih]
theorem hx_and (c : UInt8) : bits .and .u8 (c.toNat : Int) 15 = ((c.toNat % 16 : Nat) : Int) := by
  have h := u8_and_nat c.toNat 15 c.toBitVec.isLt (by omega)
  rw [nat_mask4] at h
  exact h
theorem u8_div16' (c : UInt8) (q : Nat) (h : c.toNat / 16 = q) : IntKind.u8.wrap ((c.toNat : Int) / 16) = (q : Int) := by
  have h1 : c.toNat < 256 := c.toBitVec.isLt
  rw [IntWalk.u8_in _ (by omega), ← h]; omega
theorem u8_mod16'' (c : UInt8) (q : Nat) (h : c.toNat % 16 = q) : IntKind.u8.wrap ((c.toNat : Int) % 16) = (q : Int) := by
  rw [IntWalk.u8_in _ (by omega), ← h]; omega
theorem u8_div16 (c : UInt8) (q : Nat) (h : c.toNat / 16 = q) : IntKind.u8.wrap ((c.toNat : Int).tdiv 16) = (q : Int) := by
  have h1 : c.toNat < 256 := c.toBitVec.isLt
  rw [IntWalk.u8_quo _ _ (by omega), ← h]; omega
theorem u8_mod16 (c : UInt8) (q : Nat) (h : c.toNat % 16 = q) : IntKind.u8.wrap ((c.toNat : Int).tmod 16) = (q : Int) := by
  have h1 : c.toNat < 256 := c.toBitVec.isLt
  rw [Int.tmod_eq_emod_of_nonneg (by omega), IntWalk.u8_in _ (by omega), ← h]; omega
theorem u8_mod16' (c : UInt8) (q : Nat) (h : c.toNat % 16 = q) : (c.toNat : Int).tmod 16 = (q : Int) := by
  rw [Int.tmod_eq_emod_of_nonneg (by omega), ← h]; omega
theorem take_hex (s : ByteArray) (k : Nat) (h : k < s.size) (qa qb : Nat) (ha : Hid ((s[k]'h).toNat / 16 = qa)) (hb : Hid ((s[k]'h).toNat % 16 = qb)) : hexL (s.data.toList.take (k + 1)) = hexL (s.data.toList.take k) ++ [hx qa, hx qb] := by
  rw [take_get s k h, hexL_append, ← ha.out, ← hb.out]; rfl
theorem hxb (q : Nat) (h : q < 16) : (⟨#[48, 49, 50, 51, 52, 53, 54, 55, 56, 57, 97, 98, 99, 100, 101, 102]⟩ : ByteArray)[q]'h = hx q := by
  have : ∀ q : Fin 16, (⟨#[48, 49, 50, 51, 52, 53, 54, 55, 56, 57, 97, 98, 99, 100, 101, 102]⟩ : ByteArray)[q.val]'q.isLt = hx q.val := by decide +kernel
  exact this ⟨q, h⟩
end Go.Proofs.YtpdbejeiceodkaaGreatDoor
namespace Go.Proofs.YtpdbejeiceodkaaGreatDoor
open Go.RowKit
set_option linter.unusedSimpArgs false
set_option linter.unusedVariables false
theorem writeByte_u8h (B b : Nat) (acc : List UInt8) (c : UInt8) (w : World) (h : Lib.IsBuilder 156 5 B b (Lib.byteCells acc) w) (hlen : acc.length + 1 ≤ 140737488355328) (hBw : B ≤ w.heap.size) :
    Calls Tryz.prog 93 #[.pointer (some ⟨b, 0, none⟩), .int .u8 (c.toNat : Int)] w fun e w' => e = .returned .nilIface ∧ (Lib.IsBuilder 156 5 B b (Lib.byteCells (acc ++ [c])) w' ∧ Below B w w') := by
  rw [byteCells_snoc]; exact writeByte_any B b _ _ w h (by rw [Lib.byteCells_length]; exact hlen) hBw
set_option maxRecDepth 100000 in
set_option maxHeartbeats 1000000 in
theorem hex_any (s : ByteArray) (w : World) (hs : s.size ≤ 4194304) :
    Calls Tryz.prog 59 #[.string s] w fun e w' => e = .returned (.string ⟨(hexL s.data.toList).toArray⟩) ∧ Below w.heap.size w w' := by
  go_enter Tryz.func59, Tryz.ntmps59
  go_wp2
  go_loopw [7] (fun i wr => ∃ (k : Nat), i = .int .i64 k ∧ k ≤ s.size ∧ Lib.IsBuilder 156 5 w.heap.size w.heap.size (Lib.byteCells (hexL (s.data.toList.take k))) wr ∧ Below w.heap.size w wr)
    (fun i _ => s.size - (intOf i).toNat)
  case atStart => exact ⟨0, rfl, Nat.zero_le _, Lib.fresh_isBuilder _ _ w, (Below.refl _ w).alloc (Nat.le_refl _) _⟩
  case round =>
    obtain ⟨k, rfl, hk, hI, hbw⟩ := hrel
    by_cases hlt : k < s.size
    · have ht := take_get s k hlt
      obtain ⟨c, hc⟩ : ∃ c, s[k]'hlt = c := ⟨_, rfl⟩
      have lc : (s[k]'hlt).toNat < 256 := by rw [hc]; exact c.toBitVec.isLt
      have q2 := hx_and (s[k]'hlt)
      have HT := Lib.hid ht; clear ht hc
      have hbs := hbw.size
      have hl := hexL_len (s.data.toList.take k)
      have hl2 : (hexL (s.data.toList.take k)).length ≤ 2 * s.size := by rw [hl, List.length_take]; omega
      clear hl
      go_wp2_with fail
      refine (writeByte_u8h _ _ _ _ _ hI (by omega) hbs).mono ?_
      rintro e w1 ⟨rfl, hI1, hb1⟩
      rw [hxb] at hI1
      go_wp2_with fail
      refine (writeByte_u8h _ _ _ _ _ hI1 (by simp; omega) (by have := hb1.size; omega)).mono ?_
      rintro e w2 ⟨rfl, hI2, hb2⟩
      rw [hxb] at hI2
      go_wp2
      go_roundw
      case rel =>
        refine ⟨k + 1, by go_num, by omega, ?_, (hbw.trans hb1).trans hb2⟩
        rw [HT.out, hexL_append]
        simpa [hexL] using hI2
      case measure => simp [intOf]; omega
    · go_wp2_with (go_at_call 94; refine (Tryz.Builder_String_any _ _ _ _ hI (by have := hbw.size; omega)).mono ?_)
      rintro e w1 ⟨rfl, hb1⟩
      go_wp2
      go_ret
      refine ⟨?_, hbw.trans hb1⟩
      rw [List.take_of_length_le (by rw [size_list]; omega)]
      rfl
set_option maxRecDepth 100000 in
set_option maxHeartbeats 1000000 in
theorem rhexS_any (s : ByteArray) (w : World) (hs : s.size ≤ 4194304) :
    Calls Tryz.prog 62 #[.string s] w fun e w' => e = .returned (.string ⟨(hexL s.data.toList).toArray⟩) ∧ Below w.heap.size w w' := by
  obtain ⟨i0, hi, hz0, hz1, hz2⟩ := info_parts infoByte
  go_enter Tryz.func62, Tryz.ntmps62
  go_wp2
  go_loopw [3, 4] (fun v i wr => ∃ (k : Nat), i = .int .i64 k ∧ k ≤ s.size ∧ wr.ownsRow w.heap.size 5 1 v (2 * k) (Lib.byteCells (hexL (s.data.toList.take k))) ∧ Below w.heap.size w wr)
    (fun _ i _ => s.size - (intOf i).toNat)
  case atStart => exact ⟨0, rfl, Nat.zero_le _, World.ownsRow_made w #[] 0 (Nat.le_refl _) (by simp) rfl, (Below.refl _ w).alloc (Nat.le_refl _) _⟩
  case round =>
    obtain ⟨k, rfl, hk, hI, hbw⟩ := hrel
    by_cases hlt : k < s.size
    · have ht := take_get s k hlt
      have lc : (s[k]'hlt).toNat < 256 := (s[k]'hlt).toBitVec.isLt
      have HT := Lib.hid ht; clear ht
      have hbs := hbw.size
      have k0 : (0 : Int) ≤ (k : Int) := Int.natCast_nonneg _
      have k1 : (k : Int) < (s.size : Int) := by omega
      have k2 : (k + k + 2) * 1 ≤ 140737488355328 := by omega
      obtain ⟨qa, ha⟩ : ∃ q, (s[k]'hlt).toNat / 16 = q := ⟨_, rfl⟩
      obtain ⟨qb, hb⟩ : ∃ q, (s[k]'hlt).toNat % 16 = q := ⟨_, rfl⟩
      have d0 := u8_div16 _ _ ha
      have d1 := u8_mod16 _ _ hb
      have d2 := u8_mod16'' _ _ hb
      have d3 := u8_div16' _ _ ha
      have d4 := u8_mod16' _ _ hb
      have la : (qa : Int) < 16 := by omega
      have lb : (qb : Int) < 16 := by omega
      have la' : qa < 16 := by omega
      have lb' : qb < 16 := by omega
      have la0 : (0 : Int) ≤ (qa : Int) := by omega
      have lb0 : (0 : Int) ≤ (qb : Int) := by omega
      have HQA := Lib.hid ha; have HQB := Lib.hid hb; clear ha hb
      have tk := take_hex s k hlt qa qb HQA HQB
      have HTK := Lib.hid tk; clear tk
      go_wp2
      refine wp_region_text [(0, true), (1, true), (2, true), (3, true), (4, true), (5, true), (6, true), (7, true), (8, true), (9, true), (10, true), (11, false), (12, false), (13, true)] (by kernel_rfl) (by kernel_rfl) (by kernel_rfl) (by kernel_rfl) ?_
      repeat (refine wpTx_take rfl (by rfl) (v := ?_) ?_ ?_; rotate_left; · (intro w; go_simp; with_reducible rfl))
      refine wpTx_step rfl (fun K hK => ?_)
      go_simp
      refine hK _ _ ?_
      clear hK K
      refine wpTx_step rfl (fun K hK => ?_)
      refine step_append_own rfl (.tmp 12) (.tmp 23) 76 rfl w.heap.size 5 i0 (.int .u8 0) 1 1 Tryz.underlying76 hi hz0 hz1 hz2 rfl (by decide) _ _ _ rfl ((hI.drew).alloc _) ⟨wr.heap.size, 0, none⟩ 2 2 [.int .u8 _, .int .u8 _] rfl rfl (cells_new _ _ _) (by simp [Value.oneCell']) (by unfold maxLen; omega) (by omega) (by simp; omega) ?_
      intro v1 w1 hI1 hg1
      refine hK _ _ ?_
      clear hK K
      repeat (refine wpTx_take rfl (by rfl) (v := ?_) ?_ ?_; rotate_left; · (intro w; go_simp; with_reducible rfl))
      refine wpTx_nil ?_
      rw [hxb qa (by omega), hxb qb (by omega)] at hI1
      go_simp
      go_wp2
      go_roundw
      case rel =>
        refine ⟨k + 1, by go_num, by omega, ?_, (((hbw.drew).alloc (by simpa using hbs) _).grown hg1 (by simp; omega) (fun j hj => (hI.lt j hj).1))⟩
        rw [HTK.out, Lib.byteCells_append, show 2 * (k + 1) = 2 * k + 2 from by omega]
        exact hI1
      case measure => simp [intOf]; omega
    · have hcv := run_str_own wr 76 5 Tryz.underlying76 Tryz.underlying5 hI 9 Tryz.underlying9
      go_wp2
      go_ret
      refine ⟨?_, hbw⟩
      rw [List.take_of_length_le (by rw [size_list]; omega)]
      rfl
end Go.Proofs.YtpdbejeiceodkaaGreatDoor
