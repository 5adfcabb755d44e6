/- The walks of chooser.choose (whatever function it asks), accept.Choose and the reference's first. Conditions: at most 2^30 offers. -/
import Derived.Test.YthnniiakmjonjaaDoorLik
namespace Go.Proofs.YthnniiakmjonjaaDoor
open Go.RowKit
set_option linter.unusedSimpArgs false
set_option linter.unusedVariables false
set_option maxRecDepth 1000000
set_option maxHeartbeats 4000000 in
theorem chooseM_any (p q : Value) (f : Nat → Int) (n : Nat) (w : World) (hn : n ≤ 1073741824)
    (hc : ∀ (W : World) (i : Nat), Below w.heap.size w W → i < n → Calls Tryd.prog 85 #[.int .i64 (i : Int), p, q] W fun e W' => e = .returned (.int .i64 (f i)) ∧ Below W.heap.size W W') :
    Calls Tryd.prog 64 #[.agg #[.int .i64 (n : Int), .func (.func 85) #[] #[p, q]]] w fun e w' => e = .returned (.int .i64 (fstS f n).1) ∧ Below w.heap.size w w' := by
  have hb0 := (Below.refl _ w).alloc (Nat.le_refl _) (.cells #[.int .i64 (n : Int), .func (.func 85) #[] #[p, q]] 114)
  have hB0 := blkIs_new w #[.int .i64 (n : Int), .func (.func 85) #[] #[p, q]] 114
  have HC := Lib.hid hc; have HREL := Lib.hid (And.intro hb0 hB0)
  clear hc hb0 hB0
  go_enter Tryd.func64, Tryd.ntmps64
  go_wp2
  go_loopw [9, 3, 4] (fun iv bv qv wr => ∃ i : Nat, iv = .int .i64 i ∧ bv = .int .i64 (fstS f i).1 ∧ qv = .int .i64 (fstS f i).2 ∧ i ≤ n ∧ Below w.heap.size w wr ∧ BlkIs wr w.heap.size #[.int .i64 (n : Int), .func (.func 85) #[] #[p, q]] 114) (fun iv _ _ _ => n - (intOf iv).toNat)
  case atStart => exact ⟨0, rfl, rfl, rfl, Nat.zero_le _, HREL.out⟩
  case round =>
    clear HREL
    obtain ⟨i, rfl, rfl, rfl, hi, hb, hB⟩ := hrel
    obtain ⟨b, hbv⟩ : ∃ b, (fstS f i).1 = b := ⟨_, rfl⟩
    obtain ⟨x, hxv⟩ : ∃ x, (fstS f i).2 = x := ⟨_, rfl⟩
    rw [hbv, hxv]
    by_cases hlt : i < n
    · have k0 : (0 : Int) ≤ (i : Int) := Int.natCast_nonneg _
      have k1 : (i : Int) < (n : Int) := by omega
      have hwi := wrap64_small i (small30 i _ hi hn)
      have c1 : wr.cell? ⟨w.heap.size, 1, none⟩ = some (.func (.func 85) #[] #[p, q]) := hB.cell 1 _ rfl
      have HCC := Lib.hid (HC.out wr i hb hlt)
      have HW := Lib.hid hwi; have HB := Lib.hid (And.intro hb hB); have HBX := Lib.hid (And.intro hbv hxv)
      clear hwi hb hB hbv hxv
      obtain ⟨y, hy⟩ : ∃ y, f i = y := ⟨_, rfl⟩
      rw [hy] at HCC
      have HY := Lib.hid hy
      clear hy
      go_wp2_with fail
      refine (HCC.out).mono ?_
      rintro e w1 ⟨rfl, hb1⟩
      have HB1 := Lib.hid (And.intro (HB.out.1.trans (hb1.mono HB.out.1.size)) (HB.out.2.later hb1))
      clear hb1 c1
      by_cases hup : x < y
      · have HST := Lib.hid (fstS_up f i (by rw [HBX.out.2, HY.out]; exact hup))
        go_wp2
        have hwi := HW.out
        go_roundw
        case rel => (try rw [hwi]); clear hwi; exact ⟨i + 1, by go_num, by rw [HST.out], by rw [HST.out, HY.out], hlt, HB1.out⟩
        case measure => (try rw [hwi]); clear hwi; simp [intOf]; omega
      · have HST := Lib.hid (fstS_stay f i (by rw [HBX.out.2, HY.out]; omega))
        have hle : y ≤ x := by omega
        go_wp2
        have hwi := HW.out
        go_roundw
        case rel => (try rw [hwi]); clear hwi; exact ⟨i + 1, by go_num, by rw [HST.out, HBX.out.1], by rw [HST.out, HBX.out.2], hlt, HB1.out⟩
        case measure => (try rw [hwi]); clear hwi; simp [intOf]; omega
    · obtain rfl : i = n := by omega
      have hd : decide (i < i) = false := decide_eq_false (Nat.lt_irrefl _)
      have HX := Lib.hid (And.intro hbv hb)
      clear hb hB hbv hxv
      go_wp2
      go_ret
      rw [HX.out.1]
      exact ⟨rfl, HX.out.2⟩
theorem hmf7 (fn : Fn) (first cap : Array Value) (w : World) : (Instr.makeFunc fn first cap).run Tryd.prog w = .ok (.func fn first cap) w := rfl
set_option maxHeartbeats 4000000 in
theorem chlit_any (v ov : Value) (b1 b2 : Nat) (l : List Rng) (o : List Mdm) (i : Nat) (w : World) (hN : totF rngLen l + l.length ≤ 1073741824) (hO : totF mdmLen o + o.length ≤ 1073741824) (h : RngsIn w v l) (ho : MedsIn w ov o) (hi : i < o.length) (h1 : BlkIs w b1 #[v] 56) (h2 : BlkIs w b2 #[ov] 71) :
    Calls Tryd.prog 85 #[.int .i64 (i : Int), .pointer (some ⟨b1, 0, none⟩), .pointer (some ⟨b2, 0, none⟩)] w fun e w' => e = .returned (.int .i64 (likAt l o i)) ∧ Below w.heap.size w w' := by
  obtain ⟨m, hm⟩ : ∃ m, o[i]? = some m := ⟨_, List.getElem?_eq_getElem hi⟩
  have hml := meds_bd o hO i m hm
  rw [likAt_get l o i m hm]
  obtain ⟨oo, ocap, rfl, hat⟩ := ho
  obtain ⟨g, off, rfl, lt, c0, c1, sv, c2, hps⟩ := hat i m hm
  have k0 : (0 : Int) ≤ (i : Int) := Int.natCast_nonneg _
  have k1 : (i : Int) < (o.length : Int) := by omega
  have d1 : w.cell? ⟨b1, 0, none⟩ = some v := h1.cell 0 _ rfl
  have d2 : w.cell? ⟨b2, 0, none⟩ = some (.slice (some ⟨g, off, none⟩) o.length ocap) := h2.cell 0 _ rfl
  have HS := Lib.hid (show w.drew.cell? ⟨b1, 0, none⟩ = some v ∧ w.drew.cell? ⟨b2, 0, none⟩ = some (.slice (some ⟨g, off, none⟩) o.length ocap) ∧ w.drew.cell? ⟨g, off + i * 3, none⟩ = some (.string ⟨m.ty.toArray⟩) ∧ w.drew.cell? ⟨g, off + i * 3 + 1, none⟩ = some (.string ⟨m.sub.toArray⟩) ∧ w.drew.cell? ⟨g, off + i * 3 + 2, none⟩ = some sv from ⟨d1, d2, c0, c1, c2⟩)
  have HL := Lib.hid (liking_any v sv l m w.drew hN hml (h.below ((Below.refl _ w).drew)) (hps.below ((Below.refl _ w).drew)))
  clear hN hO h hat h1 h2 hm hml d1 d2 c0 c1 c2 hps
  go_enter Tryd.func85, Tryd.ntmps85
  go_wp2
  refine wp_region_textH (fun w' => w'.cell? ⟨b1, 0, none⟩ = some v ∧ w'.cell? ⟨b2, 0, none⟩ = some (.slice (some ⟨g, off, none⟩) o.length ocap) ∧ w'.cell? ⟨g, off + i * 3, none⟩ = some (.string ⟨m.ty.toArray⟩) ∧ w'.cell? ⟨g, off + i * 3 + 1, none⟩ = some (.string ⟨m.sub.toArray⟩) ∧ w'.cell? ⟨g, off + i * 3 + 2, none⟩ = some sv) [(0, true), (1, true), (2, true), (3, true), (4, true), (5, false), (6, true)] (by kernel_rfl) (by kernel_rfl) (by kernel_rfl) (by kernel_rfl) HS.out ?_
  iterate 5 (refine wpTxH_take rfl (by kernel_rfl) (v := ?_) ?_ ?_; rotate_left; · (intro w hS; obtain ⟨s0, s1, s2, s3, s4⟩ := hS; go_simp; with_reducible rfl))
  refine wpTxH_step rfl (fun K hK => ?_)
  go_simp
  refine (HL.out).mono ?_
  rintro e w1 ⟨rfl, hb1⟩
  obtain ⟨s0, s1, s2, s3, s4⟩ := HS.out
  refine hK _ _ ⟨mx_later (B := 0) s0 hb1, mx_later (B := 0) s1 hb1, mx_later (B := 0) s2 hb1, mx_later (B := 0) s3 hb1, mx_later (B := 0) s4 hb1⟩ ?_
  clear hK K s0 s1 s2 s3 s4
  have HB := Lib.hid ((Below.refl _ w).drew.trans hb1)
  clear hb1
  refine wpTxH_take rfl (by kernel_rfl) (v := ?_) ?_ ?_; rotate_left; · (intro w hS; clear hS; go_simp; with_reducible rfl)
  refine wpTxH_nil ?_
  go_simp
  go_wp2
  go_ret
  exact ⟨rfl, HB.out⟩
set_option maxHeartbeats 4000000 in
theorem choose_any (v ov : Value) (l : List Rng) (o : List Mdm) (w : World) (hN : totF rngLen l + l.length ≤ 1073741824) (hO : totF mdmLen o + o.length ≤ 1073741824) (h : RngsIn w v l) (ho : MedsIn w ov o) :
    Calls Tryd.prog 40 #[v, ov] w fun e w' => e = .returned (.int .i64 (chooseP l o)) ∧ Below w.heap.size w w' := by
  obtain ⟨lo, lcap, rfl, hlat⟩ := h
  have h : RngsIn w (.slice lo l.length lcap) l := ⟨_, _, rfl, hlat⟩
  obtain ⟨oo, ocap, rfl, hoat⟩ := ho
  have ho : MedsIn w (.slice oo o.length ocap) o := ⟨_, _, rfl, hoat⟩
  obtain ⟨v, hv⟩ : ∃ v, Value.slice lo l.length lcap = v := ⟨_, rfl⟩
  obtain ⟨ov, hov⟩ : ∃ ov, Value.slice oo o.length ocap = ov := ⟨_, rfl⟩
  rw [hv] at h
  rw [hov] at ho
  obtain ⟨W2, hW2⟩ : ∃ W2, (w.alloc (.cells #[v] 56)).alloc (.cells #[ov] 71) = W2 := ⟨_, rfl⟩
  have hb : Below w.heap.size w W2 := by rw [← hW2]; exact ((Below.refl _ w).alloc (Nat.le_refl _) _).alloc (alloc_le (Nat.le_refl _) _) _
  have h1 : BlkIs W2 w.heap.size #[v] 56 := by rw [← hW2]; exact (blkIs_new w _ _).alloc _
  have h2 : BlkIs W2 (w.heap.size + 1) #[ov] 71 := by
    rw [← hW2]
    have := blkIs_new (w.alloc (.cells #[v] 56)) #[ov] 71
    simpa using this
  have HC := Lib.hid (chooseM_any (.pointer (some ⟨w.heap.size, 0, none⟩)) (.pointer (some ⟨w.heap.size + 1, 0, none⟩)) (likAt l o) o.length W2 (by omega) (fun W i hW hi => chlit_any v ov w.heap.size (w.heap.size + 1) l o i W hN hO ((h.below hb).below hW) ((ho.below hb).below hW) hi (h1.later hW) (h2.later hW)))
  rw [← hv, ← hov] at hW2
  have hmf := hmf7
  have HB := Lib.hid hb; have HW := Lib.hid hW2
  have d2 : W2.cell? ⟨w.heap.size + 1, 0, none⟩ = some (.slice oo o.length ocap) := by rw [hov]; exact h2.cell 0 _ rfl
  clear hN hO h ho hlat hoat hb h1 h2 hW2 hv hov
  go_enter Tryd.func40, Tryd.ntmps40
  go_upto_region 1 with fail
  rw [HW.out]
  go_wp2_with fail
  refine (HC.out).mono ?_
  rintro e w1 ⟨rfl, hb1⟩
  have HB1 := Lib.hid (HB.out.trans (hb1.mono HB.out.size))
  clear hb1 d2
  go_wp2
  go_ret
  exact ⟨rfl, HB1.out⟩
set_option maxHeartbeats 4000000 in
theorem rfirst_any (v : Value) (l : List Int) (w : World) (hN : l.length ≤ 1073741824) (h : IntsIn w v l) :
    Calls Tryd.prog 66 #[v] w fun e w' => e = .returned (.int .i64 (fstS (fun i => l.getD i 0) l.length).1) ∧ Below w.heap.size w w' := by
  obtain ⟨ao, cap, rfl, hat⟩ := h
  have HAT := Lib.hid hat
  clear hat
  obtain ⟨f, hf⟩ : ∃ f, (fun i => l.getD i 0) = f := ⟨_, rfl⟩
  rw [hf]
  have HF := Lib.hid hf
  clear hf
  go_enter Tryd.func66, Tryd.ntmps66
  go_wp2
  go_loopw [5, 3, 4] (fun iv bv qv wr => ∃ i : Nat, iv = .int .i64 i ∧ bv = .int .i64 (fstS f i).1 ∧ qv = .int .i64 (fstS f i).2 ∧ i ≤ l.length ∧ Below w.heap.size w wr) (fun iv _ _ _ => l.length - (intOf iv).toNat)
  case atStart => exact ⟨0, rfl, rfl, rfl, Nat.zero_le _, Below.refl _ _⟩
  case round =>
    obtain ⟨i, rfl, rfl, rfl, hi, hb⟩ := hrel
    obtain ⟨b, hbv⟩ : ∃ b, (fstS f i).1 = b := ⟨_, rfl⟩
    obtain ⟨x, hxv⟩ : ∃ x, (fstS f i).2 = x := ⟨_, rfl⟩
    rw [hbv, hxv]
    by_cases hlt : i < l.length
    · obtain ⟨y, hy⟩ : ∃ y, l[i]? = some y := ⟨_, List.getElem?_eq_getElem hlt⟩
      obtain ⟨g, o, rfl, lt, hc⟩ := HAT.out i y hy
      have c0 : wr.cell? ⟨g, o + i, none⟩ = some (.int .i64 y) := by rw [hb.cell (p := ⟨g, o + i, none⟩) lt]; exact hc
      have k0 : (0 : Int) ≤ (i : Int) := Int.natCast_nonneg _
      have k1 : (i : Int) < (l.length : Int) := by omega
      have hwi := wrap64_small i (small30 i _ hi hN)
      have hfy : f i = y := by rw [← HF.out]; simp [hy]
      have HW := Lib.hid hwi; have HB := Lib.hid hb; have HBX := Lib.hid (And.intro hbv hxv); have HY := Lib.hid hfy
      clear hwi hb hbv hxv hfy hy hc
      by_cases hup : x < y
      · have HST := Lib.hid (fstS_up f i (by rw [HBX.out.2, HY.out]; exact hup))
        go_wp2_with fail
        refine wp_region_still_lit (by kernel_rfl) (by kernel_rfl) ?_
        repeat still_step
        refine wpStill_nil ?_
        go_wp2
        have hwi := HW.out
        go_roundw
        case rel => (try rw [hwi]); clear hwi; exact ⟨i + 1, by go_num, by rw [HST.out], by rw [HST.out, HY.out], hlt, HB.out.drew⟩
        case measure => (try rw [hwi]); clear hwi; simp [intOf]; omega
      · have HST := Lib.hid (fstS_stay f i (by rw [HBX.out.2, HY.out]; omega))
        have hle : y ≤ x := by omega
        go_wp2
        have hwi := HW.out
        go_roundw
        case rel => (try rw [hwi]); clear hwi; exact ⟨i + 1, by go_num, by rw [HST.out, HBX.out.1], by rw [HST.out, HBX.out.2], hlt, HB.out⟩
        case measure => (try rw [hwi]); clear hwi; simp [intOf]; omega
    · obtain rfl : i = l.length := by omega
      have hd : decide (l.length < l.length) = false := decide_eq_false (Nat.lt_irrefl _)
      have HX := Lib.hid (And.intro hbv hb)
      clear hb hbv hxv
      go_wp2
      go_ret
      rw [HX.out.1]
      exact ⟨rfl, HX.out.2⟩
end Go.Proofs.YthnniiakmjonjaaDoor
