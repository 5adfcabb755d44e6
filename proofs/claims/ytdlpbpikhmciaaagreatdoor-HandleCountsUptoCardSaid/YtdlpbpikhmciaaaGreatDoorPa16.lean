/- The walk of an echo's answer at one request. No conditions. -/
import Derived.Test.YtdlpbpikhmciaaaGreatDoorPk09
namespace Go.Proofs.YtdlpbpikhmciaaaGreatDoor
open Go.RowKit
set_option linter.unusedSimpArgs false
set_option linter.unusedVariables false
set_option maxRecDepth 1000000
theorem fld_shapeE {W : World} {fv : Value} {L : List Fld} (h : FldRow W fv L) : ∃ ao n cap, fv = .slice ao n cap := by
  rcases h with ⟨_, h⟩ | ⟨g, cs, cap, fr, h, _⟩
  · exact ⟨_, _, _, h⟩
  · exact ⟨_, _, _, h⟩
def echoL : List UInt8 := [71, 69, 84, 32, 47, 120, 10]
set_option maxHeartbeats 8000000 in
theorem vecho_any (v : Nat) (k s c : Int) (n t m : ByteArray) (ma mi : Int) (sv : Value) (w : World) (h : BlkIs w v (vC k s c n t m ⟨#[71, 69, 84]⟩ ⟨#[47, 120]⟩ ma mi (.slice none 0 0) sv) 100) : Calls Tryz.prog 53 #[.pointer (some ⟨v, 0, none⟩)] w (RespIs 200 [] [(ctL, tpL)] (echoL ++ [10]) w) := by
  obtain ⟨p, hp⟩ : ∃ p, w.heap.size = p := ⟨_, rfl⟩
  obtain ⟨W2, hW2⟩ : ∃ W2, w.alloc (.cells zR 46) = W2 := ⟨_, rfl⟩
  have hS : BlkIs W2 v (vC k s c n t m ⟨#[71, 69, 84]⟩ ⟨#[47, 120]⟩ ma mi (.slice none 0 0) sv) 100 := by rw [← hW2]; exact h.later (below1 w _)
  have hP : BlkIs W2 p zR 46 := by rw [← hW2, ← hp]; exact blkIs_new _ _ _
  have hb : Below w.heap.size w W2 := by rw [← hW2]; exact below1 w _
  have HW2 := Lib.hid hW2; have HI := Lib.hid (And.intro hP hb); have HPP := Lib.hid hp
  have c6 : W2.cell? ⟨v, 6, none⟩ = some (.string ⟨#[71, 69, 84]⟩) := hS.cell 6 _ rfl
  have c7 : W2.cell? ⟨v, 7, none⟩ = some (.string ⟨#[47, 120]⟩) := hS.cell 7 _ rfl
  have c8 : W2.cell? ⟨v, 8, none⟩ = some (.int .i64 ma) := hS.cell 8 _ rfl
  have c9 : W2.cell? ⟨v, 9, none⟩ = some (.int .i64 mi) := hS.cell 9 _ rfl
  have c10 : W2.cell? ⟨v, 10, none⟩ = some (.slice none 0 0) := hS.cell 10 _ rfl
  have c11 : W2.cell? ⟨v, 11, none⟩ = some (.string ⟨#[]⟩) := hS.cell 11 _ rfl
  have c12 : W2.cell? ⟨v, 12, none⟩ = some (.slice none 0 0) := hS.cell 12 _ rfl
  clear hW2 hP hb h hS
  obtain ⟨q, hq⟩ : ∃ q, W2.heap.size = q := ⟨_, rfl⟩
  obtain ⟨bb, hbb⟩ : ∃ bb, q + 1 = bb := ⟨_, rfl⟩
  obtain ⟨W4, hW4⟩ : ∃ W4, (W2.alloc (.cells #[.string ⟨#[71, 69, 84]⟩, .string ⟨#[47, 120]⟩, .int .i64 ma, .int .i64 mi, .slice none 0 0, .string ⟨#[]⟩, .slice none 0 0] 64)).alloc (.cells #[.pointer none, .slice none 0 0] 83) = W4 := ⟨_, rfl⟩
  have hQ4 : BlkIs W4 q #[.string ⟨#[71, 69, 84]⟩, .string ⟨#[47, 120]⟩, .int .i64 ma, .int .i64 mi, .slice none 0 0, .string ⟨#[]⟩, .slice none 0 0] 64 := by rw [← hW4, ← hq]; exact (blkIs_new _ _ _).alloc _
  have hB4 : Lib.IsBuilder 83 5 bb bb (Lib.byteCells []) W4 := by
    have := Lib.fresh_isBuilder 83 5 (W2.alloc (.cells #[.string ⟨#[71, 69, 84]⟩, .string ⟨#[47, 120]⟩, .int .i64 ma, .int .i64 mi, .slice none 0 0, .string ⟨#[]⟩, .slice none 0 0] 64))
    rw [World.size_alloc, hq, hbb] at this
    rw [← hW4]
    exact this
  have hb4 : Below W2.heap.size W2 W4 := by rw [← hW4]; exact (below1 _ _).alloc (by simp) _
  have hP4 := HI.out.1.later hb4
  have hp4 : p < bb := by have := HI.out.1.lt; omega
  have hw4 : Below w.heap.size w W4 := HI.out.2.trans (hb4.mono HI.out.2.size)
  have hs4 : bb ≤ W4.heap.size := by rw [← hW4]; simp; omega
  have hE : ((⟨#[71, 69, 84]⟩ : ByteArray) ++ ⟨#[32]⟩ ++ ⟨#[47, 120]⟩ ++ ⟨#[10]⟩) = ⟨echoL.toArray⟩ := by decide
  have HE := Lib.hid hE; have HW4 := Lib.hid hW4; have HI4 := Lib.hid (And.intro hQ4 (And.intro hB4 (And.intro hP4 (And.intro hw4 hs4)))); have HN := Lib.hid (And.intro hp4 hbb)
  have HWB := Lib.hid (show w.heap.size ≤ bb by have := HI.out.2.size; omega)
  clear hQ4 hB4 hb4 hP4 hp4 hw4 hs4 hE hW4
  go_enter Tryz.func53, Tryz.ntmps53
  go_upto_region 1 with fail
  rw [HW2.out]
  go_upto_region 3 with fail
  rw [HW4.out]
  have q0 := HI4.out.1.cell 0 _ rfl
  have q1 := HI4.out.1.cell 1 _ rfl
  go_wp2_with fail
  rw [HE.out]
  refine (writeString_k bb bb [] ⟨echoL.toArray⟩ W4 HI4.out.2.1 (by decide) HI4.out.2.2.2.2).mono ?_
  rintro e w5 ⟨rfl, hB5, hb5, hk5⟩
  have hQ5 := HI4.out.1.below hb5 (by have := HN.out; omega)
  have hP5 := HI4.out.2.2.1.below hb5 HN.out.1
  have hw5 := HI4.out.2.2.2.1.trans (hb5.mono HWB.out)
  have hs5 := Nat.le_trans HI4.out.2.2.2.2 hb5.size
  rw [List.nil_append, show (⟨echoL.toArray⟩ : ByteArray).data.toList = echoL from rfl] at hB5
  have q4 := hQ5.cell 4 _ rfl
  have HI5 := Lib.hid (And.intro hQ5 (And.intro hB5 (And.intro hP5 (And.intro hw5 hs5))))
  clear q0 q1 hQ5 hB5 hb5 hk5 hP5 hw5 hs5 c6 c7 c8 c9 c10 c11 c12
  go_upto_region 5 with fail
  refine wp_loop_rounds 1 ?_
  rw [rounds_succ]
  go_upto_region 9 with fail
  clear q4
  have hS : BlkIs w5.drew q #[.string ⟨#[71, 69, 84]⟩, .string ⟨#[47, 120]⟩, .int .i64 ma, .int .i64 mi, .slice none 0 0, .string ⟨#[]⟩, .slice none 0 0] 64 := HI5.out.1
  refine wp_region_textH (fun W => BlkIs W q #[.string ⟨#[71, 69, 84]⟩, .string ⟨#[47, 120]⟩, .int .i64 ma, .int .i64 mi, .slice none 0 0, .string ⟨#[]⟩, .slice none 0 0] 64) [(2, true), (3, true), (0, false), (1, true), (4, true), (5, false), (6, false)] (by kernel_rfl) (by kernel_rfl) (by kernel_rfl) (by kernel_rfl) hS ?_
  iterate 2 (refine wpTxH_take rfl (by kernel_rfl) (v := ?_) ?_ ?_; rotate_left; · (intro W hS; have t5 : W.cell? ⟨q, 5, none⟩ = some (.string ⟨#[]⟩) := hS.cell 5 _ rfl; clear hS; go_simp; with_reducible rfl))
  refine wpTxH_step rfl (fun K hK => ?_)
  go_simp
  refine (bldStr bb bb echoL _ (bld_laterK HI5.out.2.1 ((Below.refl _ w5).drew)) HI5.out.2.2.2.2).mono ?_
  rintro e w6 ⟨rfl, hb6, _⟩
  have hb56 : Below bb w5 w6 := ((Below.refl _ w5).drew).trans hb6
  have hQ6 := HI5.out.1.below hb56 (by have := HN.out; omega)
  have hP6 := HI5.out.2.2.1.below hb56 HN.out.1
  have hw6 := HI5.out.2.2.2.1.trans (hb56.mono HWB.out)
  refine hK _ _ hQ6 ?_
  clear hK K hb6 hb56
  obtain ⟨D, hD⟩ : ∃ D, echoL ++ [10] = D := ⟨_, rfl⟩
  have l1 : ¬ 9223372036854775807 < echoL.length + 1 := by decide
  have l2 : ¬ 9223372036854775807 < D.length := by rw [← hD]; decide
  have e1 : (⟨echoL.toArray⟩ : ByteArray) ++ ⟨#[10]⟩ = ⟨D.toArray⟩ := by rw [← hD]; exact ba_ext (by simp)
  have e2 : (⟨D.toArray⟩ : ByteArray) ++ ⟨#[]⟩ = ⟨D.toArray⟩ := ba_ext (by simp)
  have HDD := Lib.hid hD
  clear hD
  iterate 2 (refine wpTxH_take rfl (by kernel_rfl) (v := ?_) ?_ ?_; rotate_left; · (intro W hS; clear hS; go_simp; with_reducible rfl))
  refine wpTxH_step rfl (fun K hK => ?_)
  go_simp
  refine (said_any D w6).mono ?_
  rintro e w7 ⟨fv, rfl, hF7, hb7⟩
  obtain ⟨fo, fn, fc2, rfl⟩ := fld_shapeE hF7
  have hQ7 := hQ6.later hb7
  have hP7 := hP6.later hb7
  have hw7 := hw6.trans (hb7.mono hw6.size)
  refine hK _ _ hQ7 ?_
  clear hK K hb7
  refine wpTxH_step rfl (fun K hK => ?_)
  have y0 := hP7.free 0
  have y1 := hP7.free 1
  have y2 := hP7.free 2
  have y3 := hP7.free 3
  have z0 := hP7.cell 0 _ rfl
  have z1 := hP7.cell 1 _ rfl
  have z2 := hP7.cell 2 _ rfl
  have z3 := hP7.cell 3 _ rfl
  have hqp : q ≠ p := fun e => by
    rw [e] at hQ7
    have h1 : w7.heap[p]? = _ := hQ7
    have h2 : w7.heap[p]? = _ := hP7
    rw [h1] at h2
    injection h2 with h2
    injection h2 with _ h2
    exact absurd h2 (by decide)
  have HF := Lib.hid (And.intro (fourSet hP7 rfl (.int .i64 200) (.string ⟨#[]⟩) (.slice fo fn fc2) (.string ⟨D.toArray⟩)) (And.intro (fourBelow hw7 (Nat.le_of_eq HPP.out) (.int .i64 200) (.string ⟨#[]⟩) (.slice fo fn fc2) (.string ⟨D.toArray⟩)) (And.intro (fourFld hF7 hP7 (.int .i64 200) (.string ⟨#[]⟩) (.slice fo fn fc2) (.string ⟨D.toArray⟩)) ((((hQ7.setOther ⟨p, 0, none⟩ (.int .i64 200) hqp).setOther ⟨p, 1, none⟩ (.string ⟨#[]⟩) hqp).setOther ⟨p, 2, none⟩ (.slice fo fn fc2) hqp).setOther ⟨p, 3, none⟩ (.string ⟨D.toArray⟩) hqp))))
  clear hP7 hw7 hF7 hQ7
  go_simp
  refine hK _ _ HF.out.2.2.2 ?_
  clear hK K y0 y1 y2 y3 z0 z1 z2 z3
  refine wpTxH_nil ?_
  go_simp
  go_wp2
  refine bodyPost_ret (v := .agg (rC 200 ⟨#[]⟩ (.slice fo fn fc2) ⟨D.toArray⟩)) ?r rfl ⟨_, by rw [HDD.out], HF.out.2.2.1, HF.out.2.1⟩
  case r => exact results_respC rfl _ _ p _ (0, 0) rfl HF.out.1 rfl
end Go.Proofs.YtdlpbpikhmciaaaGreatDoor
