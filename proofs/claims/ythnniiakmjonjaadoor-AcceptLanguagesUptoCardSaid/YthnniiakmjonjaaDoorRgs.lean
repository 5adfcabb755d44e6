/- The walks of turnpikelaw07.ranges, offers and sameRanges. Conditions: at most 2^30 letters, parameters and elements. -/
import Derived.Test.YthnniiakmjonjaaDoorWts
namespace Go.Proofs.YthnniiakmjonjaaDoor
open Go.RowKit
set_option linter.unusedSimpArgs false
set_option linter.unusedVariables false
set_option maxRecDepth 1000000
theorem infoRRng : (Tryd.prog.info? 122).map (fun i => (i.zero, i.size, i.bytes)) = some (some (.agg #[.string ByteArray.empty, .string ByteArray.empty, .slice none 0 0, .int .i64 0]), 4, 64) := by kernel_rfl
theorem info_partsR (h : (Tryd.prog.info? 122).map (fun i => (i.zero, i.size, i.bytes)) = some (some (.agg #[.string ByteArray.empty, .string ByteArray.empty, .slice none 0 0, .int .i64 0]), 4, 64)) : ∃ i, Tryd.prog.info? 122 = some i ∧ i.zero = some (.agg #[.string ByteArray.empty, .string ByteArray.empty, .slice none 0 0, .int .i64 0]) ∧ i.size = 4 ∧ i.bytes = 64 := by
  obtain ⟨i, hi, he⟩ := Option.map_eq_some_iff.1 h
  simp only [Prod.mk.injEq] at he
  exact ⟨i, hi, he.1, he.2.1, he.2.2⟩
theorem infoRMed : (Tryd.prog.info? 30).map (fun i => (i.zero, i.size, i.bytes)) = some (some (.agg #[.string ByteArray.empty, .string ByteArray.empty, .slice none 0 0]), 3, 56) := by kernel_rfl
theorem info_partsM (h : (Tryd.prog.info? 30).map (fun i => (i.zero, i.size, i.bytes)) = some (some (.agg #[.string ByteArray.empty, .string ByteArray.empty, .slice none 0 0]), 3, 56)) : ∃ i, Tryd.prog.info? 30 = some i ∧ i.zero = some (.agg #[.string ByteArray.empty, .string ByteArray.empty, .slice none 0 0]) ∧ i.size = 3 ∧ i.bytes = 56 := by
  obtain ⟨i, hi, he⟩ := Option.map_eq_some_iff.1 h
  simp only [Prod.mk.injEq] at he
  exact ⟨i, hi, he.1, he.2.1, he.2.2⟩
theorem rng_bd64 (i n : Nat) (h : i < n) (hn : n ≤ 1073741824) : i + 1 ≤ maxLen ∧ (i + 1) * 64 ≤ 140737488355328 ∧ (i + 1) * 56 ≤ 140737488355328 := by unfold maxLen; omega
theorem take_snoc {α : Type} (l : List α) (i : Nat) (p : α) (h : l[i]? = some p) : l.take (i + 1) = l.take i ++ [p] := by rw [List.take_add_one, h]; rfl
theorem take_len {α : Type} (l : List α) (i : Nat) (h : i ≤ l.length) : (l.take i).length = i := by rw [List.length_take]; omega
theorem ownRngs_snoc {w w' : World} {L : Nat} {T P : TypeId} {v v' sv : Value} {l : List Rng} {X : List RgV} {r : Rng} (hX : X.map rngOf = l) (hown : w.ownsRow L T 4 v l.length (rngsV X)) (hall : ∀ p ∈ X, w.ownsRow L P 3 p.1.2 p.1.1.ps.length (parsV p.1.1.ps)) (hne : P ≠ T)
    (hsv : w.ownsRow L P 3 sv r.1.ps.length (parsV r.1.ps)) (hg : w.grownBy w' v.ownBlock) (hI : w'.ownsRow L T 4 v' (l.length + 1) (rngsV X ++ [.string ⟨r.1.ty.toArray⟩, .string ⟨r.1.sub.toArray⟩, sv, .int .i64 r.2])) : OwnRngs w' L T P v' (l ++ [r]) := by
  refine ⟨X ++ [((r.1, sv), r.2)], by rw [List.map_append, hX]; rfl, ?_, fun p hp => ?_⟩
  · rw [rngsV_snoc, List.length_append]; exact hI
  · rcases List.mem_append.1 hp with h | h
    · exact (hall p h).kept hg (own_apart (hall p h) hown hne)
    · rw [List.mem_singleton] at h
      subst h
      exact hsv.kept hg (own_apart hsv hown hne)
theorem ownMeds_snoc {w w' : World} {L : Nat} {T P : TypeId} {v v' sv : Value} {l : List Mdm} {X : List MdV} {r : Mdm} (hX : X.map Prod.fst = l) (hown : w.ownsRow L T 3 v l.length (medsV X)) (hall : ∀ p ∈ X, w.ownsRow L P 3 p.2 p.1.ps.length (parsV p.1.ps)) (hne : P ≠ T)
    (hsv : w.ownsRow L P 3 sv r.ps.length (parsV r.ps)) (hg : w.grownBy w' v.ownBlock) (hI : w'.ownsRow L T 3 v' (l.length + 1) (medsV X ++ [.string ⟨r.ty.toArray⟩, .string ⟨r.sub.toArray⟩, sv])) : OwnMeds w' L T P v' (l ++ [r]) := by
  refine ⟨X ++ [(r, sv)], by rw [List.map_append, hX]; rfl, ?_, fun p hp => ?_⟩
  · rw [medsV_snoc, List.length_append]; exact hI
  · rcases List.mem_append.1 hp with h | h
    · exact (hall p h).kept hg (own_apart (hall p h) hown hne)
    · rw [List.mem_singleton] at h
      subst h
      exact hsv.kept hg (own_apart hsv hown hne)
def RngS (b a : Nat) (p : Rng) (sv : Value) (w : World) : Prop := w.cell? ⟨b, a, none⟩ = some (.string ⟨p.1.ty.toArray⟩) ∧ w.cell? ⟨b, a + 1, none⟩ = some (.string ⟨p.1.sub.toArray⟩) ∧ w.cell? ⟨b, a + 2, none⟩ = some sv ∧ w.cell? ⟨b, a + 3, none⟩ = some (.int .i64 p.2) ∧ b < w.heap.size
theorem RngS.below {b a : Nat} {p : Rng} {sv : Value} {w w' : World} (h : RngS b a p sv w) (hb : Below w.heap.size w w') : RngS b a p sv w' :=
  ⟨by rw [hb.cell (p := ⟨b, a, none⟩) h.2.2.2.2]; exact h.1, by rw [hb.cell (p := ⟨b, a + 1, none⟩) h.2.2.2.2]; exact h.2.1, by rw [hb.cell (p := ⟨b, a + 2, none⟩) h.2.2.2.2]; exact h.2.2.1, by rw [hb.cell (p := ⟨b, a + 3, none⟩) h.2.2.2.2]; exact h.2.2.2.1, Nat.lt_of_lt_of_le h.2.2.2.2 hb.size⟩
theorem RngS.grown {b a : Nat} {p : Rng} {sv : Value} {w w' : World} {row : Option Nat} (h : RngS b a p sv w) (hg : w.grownBy w' row) (hne : some b ≠ row) : RngS b a p sv w' :=
  ⟨hg.cell h.1 hne, hg.cell h.2.1 hne, hg.cell h.2.2.1 hne, hg.cell h.2.2.2.1 hne, Nat.lt_of_lt_of_le h.2.2.2.2 hg.size⟩
set_option maxHeartbeats 4000000 in
theorem ranges_any (v : Value) (l : List Rng) (w : World) (hN : totF rngLen l + l.length ≤ 1073741824) (h : RngsIn w v l) :
    Calls Tryd.prog 32 #[v] w fun e w' => ∃ v', e = .returned v' ∧ OwnRngs w' w.heap.size 122 109 v' l ∧ Below w.heap.size w w' := by
  obtain ⟨ao, cap, rfl, hat⟩ := h
  obtain ⟨i0, hi0, hz0, hz1, hz2⟩ := info_partsR infoRRng
  have hN2 : l.length ≤ 1073741824 := by omega
  have hbdr := rng_bd l hN
  obtain ⟨L, hL⟩ : ∃ L, w.heap.size = L := ⟨_, rfl⟩
  have hbb : Below L w (w.alloc (.cells #[] 122)) := by rw [← hL]; exact (Below.refl _ w).alloc (Nat.le_refl _) _
  have hrm : (w.alloc (.cells #[] 122)).ownsRow L 122 4 (.slice (some ⟨w.heap.size, 0, none⟩) 0 0) 0 [] := by rw [← hL]; exact World.ownsRow_made w #[] 0 (Nat.le_refl _) (by simp) rfl
  have hrm2 : OwnRngs (w.alloc (.cells #[] 122)) L 122 109 (.slice (some ⟨w.heap.size, 0, none⟩) 0 0) (l.take 0) := ⟨[], rfl, hrm, fun p hp => absurd hp (by simp)⟩
  have HL := Lib.hid hL
  have HATW := Lib.hid hat; have HBD := Lib.hid hbdr
  clear hat hbdr hN hrm hL
  go_enter Tryd.func32, Tryd.ntmps32
  go_wp2
  go_loopw [4, 3] (fun iv v wr => ∃ i : Nat, iv = .int .i64 i ∧ i ≤ l.length ∧ OwnRngs wr L 122 109 v (l.take i) ∧ Below L w wr)
    (fun iv _ _ => l.length - (intOf iv).toNat)
  case atStart => exact ⟨0, rfl, Nat.zero_le _, hrm2, hbb⟩
  case round =>
    clear hbb hrm2
    obtain ⟨i, rfl, hi, hown, hb⟩ := hrel
    by_cases hlt : i < l.length
    · obtain ⟨r, hp⟩ : ∃ r, l[i]? = some r := ⟨_, List.getElem?_eq_getElem hlt⟩
      have hb' : Below w.heap.size w wr := by rw [HL.out]; exact hb
      obtain ⟨g, o, rfl, hC⟩ := HATW.out.below hb' i r hp
      have hgL : g < L := by
        obtain ⟨g', o', e, hg'⟩ := HATW.out i r hp
        injection e with e; injection e with e1 e2; subst e1; rw [← HL.out]; exact hg'.1.1
      obtain ⟨sv, hS, hpar⟩ : ∃ sv, RngS g (o + i * 4) r sv wr.drew ∧ ParsIn wr.drew sv r.1.ps := by
        obtain ⟨⟨x0, x1, x2, sv, x3, x4⟩, x5⟩ := hC
        exact ⟨sv, ⟨x1, x2, x3, x5, x0⟩, x4⟩
      have k0 : (0 : Int) ≤ (i : Int) := Int.natCast_nonneg _
      have k1 : (i : Int) < (l.length : Int) := by omega
      have hbd := rng_bd64 i l.length hlt hN2
      have hwi := wrap64_small i (small30 i _ hi hN2)
      have hsn := take_snoc l i r hp
      have htl := take_len l i hi
      have hps := (mdm_bd r.1 (HBD.out i r hp)).2.2.1
      obtain ⟨X, hX, hown, hall⟩ := hown
      rw [htl] at hown
      have HMD := Lib.hid (media_any r.1 sv wr.drew hps hpar)
      have HS := Lib.hid hS; have HO := Lib.hid hown; have HB := Lib.hid hb; have HW := Lib.hid hwi; have HSN := Lib.hid hsn; have HALL := Lib.hid hall; have HX := Lib.hid hX
      have HTL := Lib.hid htl
      clear hS hown hb hb' hwi hsn hp hC hall hX htl hps hpar
      have hbL := bsz HB.out HL
      go_wp2
      refine wp_region_textH (RngS g (o + i * 4) r sv) [(0, true), (1, true), (2, true), (3, true), (4, true), (5, true), (7, true), (8, true), (9, true), (10, true), (11, true), (6, false), (12, true), (13, false), (14, false), (15, true)] (by kernel_rfl) (by kernel_rfl) (by kernel_rfl) (by kernel_rfl) HS.out ?_
      repeat (refine wpTxH_take rfl (by rfl) (v := ?_) ?_ ?_; rotate_left; · (intro w hS; obtain ⟨s0, s1, s2, s3, s4⟩ := hS; go_simp; with_reducible rfl))
      refine wpTxH_step rfl (fun K hK => ?_)
      go_simp
      refine (HMD.out).mono ?_
      rintro e w1 ⟨v2, rfl, hrow, hbm⟩
      obtain ⟨ao2, cap2, rfl⟩ := own_slice hrow
      refine hK _ _ (HS.out.below hbm) ?_
      clear hK K
      have hbz : L ≤ w1.heap.size := Nat.le_trans hbL hbm.size
      have hrow2 := own_base hrow hbL
      have ho1 := own_later HO.out.drew hbm
      have hall1 : ∀ p ∈ X, w1.ownsRow L 109 3 p.1.2 p.1.1.ps.length (parsV p.1.1.ps) := fun p hp => own_later (HALL.out p hp).drew hbm
      have hb1 : Below L w w1 := (HB.out.drew).trans (hbm.mono hbL)
      have HR2 := Lib.hid hrow2; have HO1 := Lib.hid ho1; have HA1 := Lib.hid hall1; have HB1 := Lib.hid hb1; have HS1 := Lib.hid (HS.out.below hbm)
      clear hrow hbm hrow2 ho1 hall1 hb1
      refine wpTxH_take rfl (by rfl) (v := ?_) ?_ ?_
      rotate_left
      · intro w hS; clear hS; go_simp; with_reducible rfl
      refine wpTxH_step rfl (fun K hK => ?_)
      go_simp
      refine hK _ _ (HS1.out.below ((Below.refl _ w1).alloc (Nat.le_refl _) _)) ?_
      clear hK K
      refine wpTxH_step rfl (fun K hK => ?_)
      refine step_append_own rfl (.tmp 12) (.tmp 25) 57 rfl L 122 i0 (.agg #[.string ByteArray.empty, .string ByteArray.empty, .slice none 0 0, .int .i64 0]) 4 64 Tryd.underlying57 hi0 hz0 hz1 hz2 rfl (by decide) _ _ _ rfl (HO1.out.alloc _) ⟨w1.heap.size, 0, none⟩ 1 1 [.string ⟨r.1.ty.toArray⟩, .string ⟨r.1.sub.toArray⟩, .slice ao2 r.1.ps.length cap2, .int .i64 r.2] rfl rfl (cells_new w1 122 _) (by simp [Value.oneCell']) hbd.1 hbd.2.1 (by simp; omega) ?_
      intro v1 w2 hI1 hg1
      refine hK _ _ ((HS1.out.below ((Below.refl _ w1).alloc (Nat.le_refl _) _)).grown hg1 (fun e => absurd (HO1.out.lt g e.symm).1 (Nat.not_le.2 hgL))) ?_
      clear hK K
      have hb2 : Below L w w2 := (HB1.out.alloc hbz _).grown hg1 (by simp; omega) (fun k hk => (HO1.out.lt k hk).1)
      have hfin : OwnRngs w2 L 122 109 v1 (l.take i ++ [r]) := ownRngs_snoc HX.out (by rw [HTL.out]; exact HO1.out.alloc _) (fun p hp => (HA1.out p hp).alloc _) (by decide) (HR2.out.alloc _) hg1 (by rw [HTL.out]; exact hI1)
      have HF := Lib.hid hfin; have HB2 := Lib.hid hb2
      clear hI1 hg1 hb2 hfin
      refine wpTxH_take rfl (by rfl) (v := ?_) ?_ ?_
      rotate_left
      · intro w hS; clear hS; go_simp; with_reducible rfl
      refine wpTxH_nil ?_
      go_simp
      go_wp2
      have hwi := HW.out
      go_roundw
      case rel =>
        (try rw [hwi]); clear hwi
        refine ⟨i + 1, by go_num, by omega, ?_, HB2.out⟩
        rw [HSN.out]
        exact HF.out
      case measure => (try rw [hwi]); clear hwi; simp [intOf]; omega
    · obtain rfl : i = l.length := by omega
      have hd : decide (l.length < l.length) = false := decide_eq_false (Nat.lt_irrefl _)
      rw [List.take_length] at hown
      have HO := Lib.hid hown; have HB := Lib.hid hb
      clear hown hb
      go_wp2
      go_ret
      rw [HL.out]
      exact ⟨_, rfl, HO.out, HB.out⟩
set_option maxHeartbeats 4000000 in
theorem offers_any (v : Value) (l : List Mdm) (w : World) (hN : totF mdmLen l + l.length ≤ 1073741824) (h : MedsIn w v l) :
    Calls Tryd.prog 42 #[v] w fun e w' => ∃ v', e = .returned v' ∧ OwnMeds w' w.heap.size 30 109 v' l ∧ Below w.heap.size w w' := by
  obtain ⟨ao, cap, rfl, hat⟩ := h
  obtain ⟨i0, hi0, hz0, hz1, hz2⟩ := info_partsM infoRMed
  have hN2 : l.length ≤ 1073741824 := by omega
  have hbdr := meds_bd l hN
  obtain ⟨L, hL⟩ : ∃ L, w.heap.size = L := ⟨_, rfl⟩
  have hbb : Below L w (w.alloc (.cells #[] 30)) := by rw [← hL]; exact (Below.refl _ w).alloc (Nat.le_refl _) _
  have hrm : (w.alloc (.cells #[] 30)).ownsRow L 30 3 (.slice (some ⟨w.heap.size, 0, none⟩) 0 0) 0 [] := by rw [← hL]; exact World.ownsRow_made w #[] 0 (Nat.le_refl _) (by simp) rfl
  have hrm2 : OwnMeds (w.alloc (.cells #[] 30)) L 30 109 (.slice (some ⟨w.heap.size, 0, none⟩) 0 0) (l.take 0) := ⟨[], rfl, hrm, fun p hp => absurd hp (by simp)⟩
  have HL := Lib.hid hL
  have HATW := Lib.hid hat; have HBD := Lib.hid hbdr
  clear hat hbdr hN hrm hL
  go_enter Tryd.func42, Tryd.ntmps42
  go_wp2
  go_loopw [4, 3] (fun iv v wr => ∃ i : Nat, iv = .int .i64 i ∧ i ≤ l.length ∧ OwnMeds wr L 30 109 v (l.take i) ∧ Below L w wr)
    (fun iv _ _ => l.length - (intOf iv).toNat)
  case atStart => exact ⟨0, rfl, Nat.zero_le _, hrm2, hbb⟩
  case round =>
    clear hbb hrm2
    obtain ⟨i, rfl, hi, hown, hb⟩ := hrel
    by_cases hlt : i < l.length
    · obtain ⟨r, hp⟩ : ∃ r, l[i]? = some r := ⟨_, List.getElem?_eq_getElem hlt⟩
      have hb' : Below w.heap.size w wr := by rw [HL.out]; exact hb
      obtain ⟨g, o, rfl, _, c0, c1, sv, c2, hpar⟩ := HATW.out.below hb' i r hp
      have k0 : (0 : Int) ≤ (i : Int) := Int.natCast_nonneg _
      have k1 : (i : Int) < (l.length : Int) := by omega
      have hbd := rng_bd64 i l.length hlt hN2
      have hwi := wrap64_small i (small30 i _ hi hN2)
      have hsn := take_snoc l i r hp
      have htl := take_len l i hi
      have hps := (mdm_bd r (HBD.out i r hp)).2.2.1
      obtain ⟨X, hX, hown, hall⟩ := hown
      rw [htl] at hown
      have HMD := Lib.hid (media_any r sv wr hps hpar)
      have HO := Lib.hid hown; have HB := Lib.hid hb; have HW := Lib.hid hwi; have HSN := Lib.hid hsn; have HALL := Lib.hid hall; have HX := Lib.hid hX
      have HTL := Lib.hid htl
      clear hown hb hb' hwi hsn hp hall hX htl hps hpar
      have hbL := bsz HB.out HL
      go_wp2_with fail
      refine (HMD.out).mono ?_
      rintro e w1 ⟨v2, rfl, hrow, hbm⟩
      obtain ⟨ao2, cap2, rfl⟩ := own_slice hrow
      have hbz : L ≤ w1.heap.size := Nat.le_trans hbL hbm.size
      have hrow2 := own_base hrow hbL
      have ho1 := own_later HO.out hbm
      have hall1 : ∀ p ∈ X, w1.ownsRow L 109 3 p.2 p.1.ps.length (parsV p.1.ps) := fun p hp => own_later (HALL.out p hp) hbm
      have hb1 : Below L w w1 := (HB.out).trans (hbm.mono hbL)
      have HR2 := Lib.hid hrow2; have HO1 := Lib.hid ho1; have HA1 := Lib.hid hall1; have HB1 := Lib.hid hb1
      clear hrow hbm hrow2 ho1 hall1 hb1 c0 c1 c2
      go_wp2_with (at_builtin; refine wpList_append_own _ rfl (.tmp 12) (.tmp 18) 74 rfl L 30 i0 (.agg #[.string ByteArray.empty, .string ByteArray.empty, .slice none 0 0]) 3 56 Tryd.underlying74 hi0 hz0 hz1 hz2 rfl (by decide) _ _ _ rfl (HO1.out.alloc _) ⟨w1.heap.size, 0, none⟩ 1 1 [.string ⟨r.ty.toArray⟩, .string ⟨r.sub.toArray⟩, .slice ao2 r.ps.length cap2] rfl rfl (cells_new w1 30 _) (by simp [Value.oneCell']) hbd.1 hbd.2.2 ?dd ?_)
      case dd => simp; omega
      intro v1 w2 hI1 hg1 _
      have hb2 : Below L w w2 := (HB1.out.alloc hbz _).grown hg1 (by simp; omega) (fun k hk => (HO1.out.lt k hk).1)
      have hfin : OwnMeds w2 L 30 109 v1 (l.take i ++ [r]) := ownMeds_snoc HX.out (by rw [HTL.out]; exact HO1.out.alloc _) (fun p hp => (HA1.out p hp).alloc _) (by decide) (HR2.out.alloc _) hg1 (by rw [HTL.out]; exact hI1)
      have HF := Lib.hid hfin; have HB2 := Lib.hid hb2
      clear hI1 hg1 hb2 hfin
      go_wp2
      have hwi := HW.out
      go_roundw
      case rel =>
        (try rw [hwi]); clear hwi
        refine ⟨i + 1, by go_num, by omega, ?_, HB2.out⟩
        rw [HSN.out]
        exact HF.out
      case measure => (try rw [hwi]); clear hwi; simp [intOf]; omega
    · obtain rfl : i = l.length := by omega
      have hd : decide (l.length < l.length) = false := decide_eq_false (Nat.lt_irrefl _)
      rw [List.take_length] at hown
      have HO := Lib.hid hown; have HB := Lib.hid hb
      clear hown hb
      go_wp2
      go_ret
      rw [HL.out]
      exact ⟨_, rfl, HO.out, HB.out⟩
set_option maxHeartbeats 4000000 in
theorem sameRanges_any (v1 v2 : Value) (l : List Rng) (w : World) (hN : totF rngLen l + l.length ≤ 1073741824) (h1 : RngsIn w v1 l) (h2 : RngsIn w v2 l) :
    Calls Tryd.prog 35 #[v1, v2] w fun e w' => e = .returned (.bool true) ∧ Below w.heap.size w w' := by
  obtain ⟨a1, cap1, rfl, h1⟩ := h1
  obtain ⟨a2, cap2, rfl, h2⟩ := h2
  have hN2 : l.length ≤ 1073741824 := by omega
  have hbdr := rng_bd l hN
  have HAT1 := Lib.hid h1; have HAT2 := Lib.hid h2; have HBD := Lib.hid hbdr
  clear h1 h2 hbdr hN
  go_enter Tryd.func35, Tryd.ntmps35
  go_wp2
  go_loopw [5] (fun iv wr => ∃ i : Nat, iv = .int .i64 i ∧ i ≤ l.length ∧ Below w.heap.size w wr) (fun i _ => l.length - (intOf i).toNat)
  case atStart => exact ⟨0, rfl, Nat.zero_le _, Below.refl _ _⟩
  case round =>
    obtain ⟨i, rfl, hi, hb⟩ := hrel
    by_cases hlt : i < l.length
    · obtain ⟨r, hp⟩ : ∃ r, l[i]? = some r := ⟨_, List.getElem?_eq_getElem hlt⟩
      have hC1 := HAT1.out.below hb i r hp
      have hC2 := HAT2.out.below hb i r hp
      obtain ⟨g1, o1, rfl, ⟨x0, x1, x2, s1, x3, x4⟩, x5⟩ := hC1
      obtain ⟨g2, o2, rfl, ⟨y0, y1, y2, s2, y3, y4⟩, y5⟩ := hC2
      have hS1 : RngS g1 (o1 + i * 4) r s1 wr.drew := ⟨x1, x2, x3, x5, x0⟩
      have hS2 : RngS g2 (o2 + i * 4) r s2 wr.drew := ⟨y1, y2, y3, y5, y0⟩
      have hps := (mdm_bd r.1 (HBD.out i r hp)).2.2.1
      have HAL := Lib.hid (alike_any r.1 s1 s2 wr.drew hps x4 y4)
      have HS := Lib.hid (And.intro hS1 hS2); have HB := Lib.hid hb
      have k0 : (0 : Int) ≤ (i : Int) := by omega
      have k1 : (i : Int) < (l.length : Int) := by omega
      have hwi := wrap64_small i (small30 i _ hi hN2)
      have HW := Lib.hid hwi
      have hbq : (r.2 != r.2) = false := by simp
      clear hb x0 x1 x2 x3 x4 x5 y0 y1 y2 y3 y4 y5 hS1 hS2 hps hp hwi
      go_wp2_with fail
      refine wp_region_textH (fun w => RngS g1 (o1 + i * 4) r s1 w ∧ RngS g2 (o2 + i * 4) r s2 w) [(0, true), (1, true), (2, true), (3, true), (4, true), (5, true), (6, true), (7, true), (8, true), (9, true), (10, true), (11, true), (12, true), (13, true), (14, true), (15, true), (16, true), (17, true), (18, true), (19, true), (20, true), (21, true), (22, false), (23, true), (24, true)] (by kernel_rfl) (by kernel_rfl) (by kernel_rfl) (by kernel_rfl) HS.out ?_
      iterate 22 (refine wpTxH_take rfl (by kernel_rfl) (v := ?_) ?_ ?_; rotate_left; · (intro w hS; obtain ⟨⟨s0, s1, s2, s3, s4⟩, t0, t1, t2, t3, t4⟩ := hS; go_simp; with_reducible rfl))
      refine wpTxH_step rfl (fun K hK => ?_)
      go_simp
      refine (HAL.out).mono ?_
      rintro e w1 ⟨rfl, hb1⟩
      refine hK _ _ ⟨HS.out.1.below hb1, HS.out.2.below hb1⟩ ?_
      clear hK K
      have HB1 := Lib.hid (HB.out.drew.trans (hb1.mono HB.out.size))
      clear hb1
      iterate 2 (refine wpTxH_take rfl (by kernel_rfl) (v := ?_) ?_ ?_; rotate_left; · (intro w hS; clear hS; go_simp; with_reducible rfl))
      refine wpTxH_nil ?_
      go_simp
      go_wp2
      have hwi := HW.out
      go_roundw
      case rel =>
        (try rw [hwi]); clear hwi
        exact ⟨i + 1, by go_num, by omega, HB1.out⟩
      case measure => (try rw [hwi]); clear hwi; simp [intOf]; omega
    · have hd : decide (i < l.length) = false := decide_eq_false hlt
      have HB := Lib.hid hb
      clear hb
      go_wp2
      go_ret
      exact ⟨rfl, HB.out⟩
end Go.Proofs.YthnniiakmjonjaaDoor
