/- The walk of turnpikeref07.Choose: the plain function chooseP. Conditions: at most 2^30 letters, parameters and elements. -/
import Derived.Test.YthnniiakmjonjaaDoorRLik
import Derived.Test.YthnniiakmjonjaaDoorChs
namespace Go.Proofs.YthnniiakmjonjaaDoor
open Go.RowKit
set_option linter.unusedSimpArgs false
set_option linter.unusedVariables false
set_option maxRecDepth 1000000
theorem infoInt7 : (Tryd.prog.info? 3).map (fun i => (i.zero, i.size, i.bytes)) = some (some (.int .i64 0), 1, 8) := by kernel_rfl
theorem info_partsI (h : (Tryd.prog.info? 3).map (fun i => (i.zero, i.size, i.bytes)) = some (some (.int .i64 0), 1, 8)) : ∃ i, Tryd.prog.info? 3 = some i ∧ i.zero = some (.int .i64 0) ∧ i.size = 1 ∧ i.bytes = 8 := by
  obtain ⟨i, hi, he⟩ := Option.map_eq_some_iff.1 h
  simp only [Prod.mk.injEq] at he
  exact ⟨i, hi, he.1, he.2.1, he.2.2⟩
theorem int_bd (i n : Nat) (h : i < n) (hn : n ≤ 1073741824) : i + 1 ≤ maxLen ∧ (i + 1) * 8 ≤ 140737488355328 := by unfold maxLen; omega
theorem chooseP_map (l : List Rng) (o : List Mdm) : (fstS (fun i => (o.map (likeP l)).getD i 0) (o.map (likeP l)).length).1 = chooseP l o := by
  unfold chooseP
  rw [List.length_map]
  rw [fstS_congr _ (likAt l o) o.length (fun i hi => ?_)]
  obtain ⟨m, hm⟩ : ∃ m, o[i]? = some m := ⟨_, List.getElem?_eq_getElem hi⟩
  rw [likAt_get l o i m hm]
  simp [List.getD_eq_getElem?_getD, hm]
theorem ints_step (l : List Rng) (o : List Mdm) (i : Nat) (m : Mdm) (h : o[i]? = some m) : intsV ((o.map (likeP l)).take (i + 1)) = intsV ((o.map (likeP l)).take i) ++ [.int .i64 (likeP l m)] := by
  rw [take_map (likeP l) o i m h, intsV_snoc]
set_option maxHeartbeats 4000000 in
theorem rchoose_any (v ov : Value) (l : List Rng) (o : List Mdm) (w : World) (hN : totF rngLen l + l.length ≤ 1073741824) (hO : totF mdmLen o + o.length ≤ 1073741824) (h : RngsIn w v l) (ho : MedsIn w ov o) :
    Calls Tryd.prog 41 #[v, ov] w fun e w' => e = .returned (.int .i64 (chooseP l o)) ∧ Below w.heap.size w w' := by
  obtain ⟨oo, ocap, rfl, hat⟩ := ho
  obtain ⟨i0, hi0, hz0, hz1, hz2⟩ := info_partsI infoInt7
  obtain ⟨L, hL⟩ : ∃ L, w.heap.size = L := ⟨_, rfl⟩
  have hN2 : o.length ≤ 1073741824 := by omega
  have hbb : Below L w (w.alloc (.cells #[] 3)) := by rw [← hL]; exact (Below.refl _ w).alloc (Nat.le_refl _) _
  have hrm : (w.alloc (.cells #[] 3)).ownsRow L 3 1 (.slice (some ⟨w.heap.size, 0, none⟩) 0 0) 0 [] := by rw [← hL]; exact World.ownsRow_made w #[] 0 (Nat.le_refl _) (by simp) rfl
  have HL := Lib.hid hL; have HAT := Lib.hid hat; have HH := Lib.hid (And.intro h (And.intro hN hO))
  clear hL hat h hN hO
  go_enter Tryd.func41, Tryd.ntmps41
  go_wp2
  go_loopw [6, 5] (fun iv qv wr => ∃ i : Nat, iv = .int .i64 i ∧ i ≤ o.length ∧ wr.ownsRow L 3 1 qv i (intsV ((o.map (likeP l)).take i)) ∧ Below L w wr) (fun iv _ _ => o.length - (intOf iv).toNat)
  case atStart => exact ⟨0, rfl, Nat.zero_le _, hrm, hbb⟩
  case round =>
    clear hbb hrm
    obtain ⟨i, rfl, hi, hown, hb⟩ := hrel
    have hb' : Below w.heap.size w wr := by rw [HL.out]; exact hb
    by_cases hlt : i < o.length
    · obtain ⟨m, hm⟩ : ∃ m, o[i]? = some m := ⟨_, List.getElem?_eq_getElem hlt⟩
      obtain ⟨g, off, rfl, _, c0, c1, sv, c2, hps⟩ := HAT.out.below hb' i m hm
      have k0 : (0 : Int) ≤ (i : Int) := Int.natCast_nonneg _
      have k1 : (i : Int) < (o.length : Int) := by omega
      have hbd := int_bd i o.length hlt hN2
      have hwi := wrap64_small i (small30 i _ hi hN2)
      have HLK := Lib.hid (rliking_any v sv l m wr HH.out.2.1 (meds_bd o HH.out.2.2 i m hm) (HH.out.1.below hb') hps)
      have HST := Lib.hid (ints_step l o i m hm)
      have HO := Lib.hid hown; have HB := Lib.hid hb; have HW := Lib.hid hwi
      obtain ⟨y, hy⟩ : ∃ y, likeP l m = y := ⟨_, rfl⟩
      rw [hy] at HLK HST
      clear hown hb hb' hwi hps hm hy
      go_wp2_with fail
      refine (HLK.out).mono ?_
      rintro e w1 ⟨rfl, hb1⟩
      have hbL := bsz HB.out HL
      have HO1 := Lib.hid (own_later HO.out hb1)
      have hb2 := HB.out.trans (hb1.mono hbL)
      have HB1 := Lib.hid hb2
      have hbz := hb2.size
      rw [HL.out] at hbz
      clear hb1 c0 c1 c2 hb2
      go_wp2_with (at_builtin; refine wpList_append_own _ rfl (.tmp 14) (.tmp 21) 116 rfl L 3 i0 (.int .i64 0) 1 8 Tryd.underlying116 hi0 hz0 hz1 hz2 rfl (by decide) _ _ _ rfl (HO1.out.alloc _) ⟨w1.heap.size, 0, none⟩ 1 1 [.int .i64 y] rfl rfl (cells_new w1 3 _) (by simp [Value.oneCell']) hbd.1 hbd.2 ?dd ?_)
      case dd => simp; omega
      intro v1 w2 hI1 hg1 _
      have hb2 : Below L w w2 := (HB1.out.alloc hbz _).grown hg1 (by simp; omega) (fun k hk => (HO1.out.lt k hk).1)
      have HI1 := Lib.hid hI1; have HB2 := Lib.hid hb2
      clear hI1 hg1 hb2
      go_wp2
      have hwi := HW.out
      go_roundw
      case rel =>
        (try rw [hwi]); clear hwi
        refine ⟨i + 1, by go_num, by omega, ?_, HB2.out⟩
        rw [HST.out]
        exact HI1.out
      case measure => (try rw [hwi]); clear hwi; simp [intOf]; omega
    · obtain rfl : i = o.length := by omega
      have hd : decide (o.length < o.length) = false := decide_eq_false (Nat.lt_irrefl _)
      have hfull : (o.map (likeP l)).take o.length = o.map (likeP l) := by rw [List.take_of_length_le (by rw [List.length_map]; exact Nat.le_refl _)]
      rw [hfull] at hown
      have hin : IntsIn wr _ (o.map (likeP l)) := intsIn_own (l := o.map (likeP l)) (by rw [List.length_map]; exact hown)
      have HF := Lib.hid (rfirst_any _ (o.map (likeP l)) wr (by rw [List.length_map]; exact hN2) hin)
      have HB := Lib.hid hb'
      have HC := Lib.hid (chooseP_map l o)
      clear hown hb hb' hin hfull
      go_wp2_with fail
      refine (HF.out).mono ?_
      rintro e w1 ⟨rfl, hb1⟩
      rw [HC.out]
      have HB1 := Lib.hid (HB.out.trans (hb1.mono HB.out.size))
      clear hb1
      go_wp2
      go_ret
      exact ⟨rfl, HB1.out⟩
end Go.Proofs.YthnniiakmjonjaaDoor
