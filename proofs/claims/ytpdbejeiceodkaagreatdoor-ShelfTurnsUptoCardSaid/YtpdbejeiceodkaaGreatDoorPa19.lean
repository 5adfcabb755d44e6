/- The walk of shelf.New at one plain file. Conditions: bytealg's MaxLen holds an int; octet.signs holds what the text lays. -/
import Derived.Test.YtpdbejeiceodkaaGreatDoorPk18
import Derived.WideMake
import Derived.Carry
import Derived.Deep.AppendLies
import Derived.Deep.DeepCutAuto
namespace Go.Proofs.YtpdbejeiceodkaaGreatDoor
open Go.RowKit
set_option linter.unusedSimpArgs false
set_option linter.unusedVariables false
set_option maxRecDepth 1000000
abbrev zFl : Value := .agg #[.string ByteArray.empty, .string ByteArray.empty, .string ByteArray.empty, .string ByteArray.empty, .string ByteArray.empty, .int .i64 0]
theorem infoFile : (Tryz.prog.info? 46).map (fun i => (i.zero, i.size, i.bytes)) = some (some zFl, 6, 88) := by kernel_rfl
theorem info_partsFl (h : (Tryz.prog.info? 46).map (fun i => (i.zero, i.size, i.bytes)) = some (some zFl, 6, 88)) : ∃ i, Tryz.prog.info? 46 = some i ∧ i.zero = some zFl ∧ i.size = 6 ∧ i.bytes = 88 := by
  obtain ⟨i, hi, he⟩ := Option.map_eq_some_iff.1 h
  simp only [Prod.mk.injEq] at he
  exact ⟨i, hi, he.1, he.2.1, he.2.2⟩
theorem infoIntH : (Tryz.prog.info? 3).map (fun i => (i.zero, i.size, i.bytes)) = some (some (.int .i64 0), 1, 8) := by kernel_rfl
theorem zeroInts (w : World) : (zeroValue 53).run Tryz.prog w = .ok (.slice none 0 0) w := by kernel_rfl
abbrev keyA : Value := .string ⟨#[47, 97]⟩
theorem lk_none (b clock : Nat) (w : World) (hb : w.heap[b]? = some (.map #[] clock)) : (Instr.lookup 83 (.map (some b)) keyA false).run Tryz.prog w = .ok (.slice none 0 0) w := by
  have hf : Instr.findNow .string keyA ([] : List MapEntry) 0 = some none := rfl
  have hc : (Instr.checkKey true 10000 9 keyA).run Tryz.prog w = .ok () w := MapKept.run_checkKey (k := keyA) Tryz.underlying9 (by simp [MapKept.IsKey]) true 9999
  simp [Instr.lookup, run_underlying Tryz.underlying83, MapKept.run_getObj_map hb, hc, MapKept.run_findKey Tryz.underlying9 hf, zeroInts, Result.andThen]
theorem lk_one (b clock born : Nat) (v : Value) (w : World) (hb : w.heap[b]? = some (.map #[{ key := keyA, val := v, born := born }] clock)) : (Instr.lookup 83 (.map (some b)) keyA false).run Tryz.prog w = .ok v w := by
  have hf : Instr.findNow .string keyA [{ key := keyA, val := v, born := born }] 0 = some (some (0, v)) := by
    have hk : ((⟨#[47, 97]⟩ : ByteArray) == (⟨#[47, 97]⟩ : ByteArray)) = true := by decide
    simp [Instr.findNow, Instr.sameNow, hk]
  have hc : (Instr.checkKey false 10000 9 keyA).run Tryz.prog w = .ok () w := MapKept.run_checkKey (k := keyA) Tryz.underlying9 (by simp [MapKept.IsKey]) false 9999
  simp [Instr.lookup, run_underlying Tryz.underlying83, MapKept.run_getObj_map hb, hc, MapKept.run_findKey Tryz.underlying9 hf, Result.andThen]
def mapPut (w : World) (r : Nat) (o : Obj) : World := { w with heap := w.heap.setIfInBounds r o }
theorem mapPut_grown (w : World) (r : Nat) (o : Obj) : w.grownBy (mapPut w r o) (some r) :=
  ⟨rfl, rfl, rfl, by unfold mapPut; simp, fun k _ hne => by
    unfold mapPut
    show (w.heap.setIfInBounds r o)[k]? = _
    rw [Array.getElem?_setIfInBounds_ne (fun e => hne (by rw [e]))]⟩
theorem mapPut_at (w : World) (r : Nat) (o o' : Obj) (h : w.heap[r]? = some o') : (mapPut w r o).heap[r]? = some o := by
  have hlt : r < w.heap.size := (Array.getElem?_eq_some_iff.1 h).1
  unfold mapPut
  show (w.heap.setIfInBounds r o)[r]? = _
  simp [hlt]
theorem upd_first (b clock : Nat) (v : Value) (w : World) (hb : w.heap[b]? = some (.map #[] clock)) : (Instr.mapUpdate 83 (.map (some b)) keyA v).run Tryz.prog w = .ok () (mapPut w b (.map #[{ key := keyA, val := v, born := clock }] (clock + 1))) :=
  run_mapUpdate_first w 83 9 53 b clock ⟨#[47, 97]⟩ v Tryz.underlying83 Tryz.underlying9 hb
/-- What stands once the file is kept. -/
def ShKept (w : World) (m s f : Nat) (W : World) : Prop := Below w.heap.size w W ∧ w.heap.size ≤ m ∧ w.heap.size ≤ s ∧ W.heap[m]? = some (.map #[] 0) ∧ BlkIs W f flA 46 ∧ ∃ g cap, BlkIs W s #[.slice (some ⟨g, 0, none⟩) 1 cap, .map (some m)] 85 ∧ W.ownsRow w.heap.size 46 6 (.slice (some ⟨g, 0, none⟩) 1 cap) 1 flA.toList
def ShMade (w : World) (m s : Nat) (W : World) : Prop := Below w.heap.size w W ∧ ∃ g cap gi ci, BlkIs W s #[.slice (some ⟨g, 0, none⟩) 1 cap, .map (some m)] 85 ∧ W.ownsRow w.heap.size 46 6 (.slice (some ⟨g, 0, none⟩) 1 cap) 1 flA.toList ∧ W.heap[m]? = some (.map #[{ key := keyA, val := .slice (some ⟨gi, 0, none⟩) 1 ci, born := 0 }] 1) ∧ W.ownsRow w.heap.size 3 1 (.slice (some ⟨gi, 0, none⟩) 1 ci) 1 [.int .i64 0]
theorem blk_neF {w : World} {a b : Nat} {c d : Array Value} {T S : TypeId} (h : BlkIs w a c T) (h2 : BlkIs w b d S) (hne : T ≠ S := by decide) : a ≠ b := by
  rintro rfl
  unfold BlkIs at h h2
  rw [h] at h2
  injection h2 with h2
  injection h2 with _ h2
  exact hne h2
theorem shKept_leaf {w w9 : World} {fb g cap : Nat} (hb : Below w.heap.size w w9) (hM : w9.heap[w.heap.size]? = some (.map #[] 0)) (hF : BlkIs w9 fb flA 46) (hT : BlkIs w9 (w.heap.size + 1) #[.slice none 0 0, .map (some w.heap.size)] 85)
    (hown : w9.ownsRow w.heap.size 46 6 (.slice (some ⟨g, 0, none⟩) (0 + 1) cap) (0 + 1) ([] ++ flA.toList)) :
    ShKept w w.heap.size (w.heap.size + 1) fb (w9.setCell ⟨w.heap.size + 1, 0, none⟩ (.slice (some ⟨g, 0, none⟩) 1 cap)) := by
  refine ⟨hb.setCell (p := ⟨w.heap.size + 1, 0, none⟩) (Nat.le_succ _) _, Nat.le_refl _, Nat.le_succ _, ?_, hF.setOther _ _ (blk_neF hF hT), g, cap, hT.set 0 _, own_setOther hown (own_blk hown hT (by decide))⟩
  rw [Below.heap_setCell _ _ _ _ (by simp)]
  exact hM
theorem blk_nm {w : World} {a b k : Nat} {c : Array Value} {T : TypeId} {es : Array MapEntry} (h : w.heap[a]? = some (.map es k)) (h2 : BlkIs w b c T) : some a ≠ some b := by
  intro e
  injection e with e
  subst e
  unfold BlkIs at h2
  rw [h] at h2
  cases h2
theorem own_nm {w : World} {a k L s n : Nat} {e : TypeId} {v : Value} {xs : List Value} {es : Array MapEntry} (h : w.heap[a]? = some (.map es k)) (hown : w.ownsRow L e s v n xs) : v.ownBlock ≠ some a := by
  rcases hown.2 with ⟨rfl, _⟩ | ⟨g, c, cur, rfl, _, hg, _⟩
  · simp [Value.ownBlock]
  · intro e2
    simp [Value.ownBlock] at e2
    subst e2
    rw [h] at hg
    cases hg
theorem shMade_leaf {w w9 : World} {g cap gi ci : Nat} (hb : Below w.heap.size w w9) (hM : w9.heap[w.heap.size]? = some (.map #[] 0)) (hT : BlkIs w9 (w.heap.size + 1) #[.slice (some ⟨g, 0, none⟩) 1 cap, .map (some w.heap.size)] 85)
    (hO : w9.ownsRow w.heap.size 46 6 (.slice (some ⟨g, 0, none⟩) 1 cap) 1 flA.toList) (hown : w9.ownsRow w.heap.size 3 1 (.slice (some ⟨gi, 0, none⟩) (0 + 1) ci) (0 + 1) ([] ++ [.int .i64 0])) :
    ShMade w w.heap.size (w.heap.size + 1) (mapPut w9 w.heap.size (.map #[{ key := keyA, val := .slice (some ⟨gi, 0, none⟩) 1 ci, born := 0 }] 1)) :=
  ⟨hb.grown (mapPut_grown _ _ _) hb.size (fun k hk => by injection hk with hk; omega), g, cap, gi, ci, hT.grown (mapPut_grown _ _ _) (blk_nm hM hT), hO.kept (mapPut_grown _ _ _) (.inr (own_nm hM hO)), mapPut_at _ _ _ _ hM, World.ownsRow.kept hown (mapPut_grown _ _ _) (.inr (own_nm hM hown))⟩
set_option maxHeartbeats 8000000 in
theorem newA (m : Int) (g0 : Nat) (w : World) (hm : w.cell? ⟨0, 0, none⟩ = some (.int .i64 m)) (hg : SgAt w) (hf : BlkIs w g0 flA 46) : Calls Tryz.prog 35 #[.slice (some ⟨g0, 0, none⟩) 1 1] w fun e w' => ∃ b s, e = .returned (.tuple #[.pointer (some ⟨s, 0, none⟩), .int .i64 0, .int .i64 0]) ∧ ShMade w b s w' := by
  obtain ⟨i0, hi, hz0, hz1, hz2⟩ := info_partsFl infoFile
  obtain ⟨j0, hj, hy0, hy1, hy2⟩ := info_parts infoIntH
  have hmm := @run_makeMap Tryz.prog
  obtain ⟨W2, hW2⟩ : ∃ W2, (w.alloc (.map #[] 0)).alloc (.cells #[.slice none 0 0, .map (some w.heap.size)] 85) = W2 := ⟨_, rfl⟩
  have hb2 : Below w.heap.size w W2 := by rw [← hW2]; exact ((Below.refl _ w).alloc (Nat.le_refl _) _).alloc (by simp) _
  have hM2 : W2.heap[w.heap.size]? = some (.map #[] 0) := by rw [← hW2]; exact (Below.heap_alloc _ _ _ (by simp)).trans (World.alloc_heap_new w _)
  have hS2 : BlkIs W2 (w.heap.size + 1) #[.slice none 0 0, .map (some w.heap.size)] 85 := by rw [← hW2]; have := blkIs_new (w.alloc (.map #[] 0)) #[.slice none 0 0, .map (some w.heap.size)] 85; rwa [World.size_alloc] at this
  have hf2 : BlkIs W2 g0 flA 46 := hf.later hb2
  obtain ⟨W3, hW3⟩ : ∃ W3, W2.alloc (.cells flA 46) = W3 := ⟨_, rfl⟩
  obtain ⟨fb, hfb⟩ : ∃ fb, W2.heap.size = fb := ⟨_, rfl⟩
  have hb23 : Below W2.heap.size W2 W3 := by rw [← hW3]; exact (Below.refl _ W2).alloc (Nat.le_refl _) _
  have hb3 : Below w.heap.size w W3 := hb2.trans (hb23.mono hb2.size)
  have hM3 : W3.heap[w.heap.size]? = some (.map #[] 0) := by rw [hb23.block _ (Array.getElem?_eq_some_iff.1 hM2).1]; exact hM2
  have hS3 := hS2.later hb23
  have hF3 : BlkIs W3 fb flA 46 := by rw [← hW3, ← hfb]; exact blkIs_new _ _ _
  have q0 : W2.cell? ⟨g0, 0, none⟩ = some (.string ⟨#[47, 97]⟩) := hf2.cell 0 _ rfl
  have q1 : W2.cell? ⟨g0, 1, none⟩ = some (.string ⟨#[116, 101, 120, 116, 47, 112, 108, 97, 105, 110]⟩) := hf2.cell 1 _ rfl
  have q2 : W2.cell? ⟨g0, 2, none⟩ = some (.string ⟨#[]⟩) := hf2.cell 2 _ rfl
  have q3 : W2.cell? ⟨g0, 3, none⟩ = some (.string ⟨#[]⟩) := hf2.cell 3 _ rfl
  have q4 : W2.cell? ⟨g0, 4, none⟩ = some (.string ⟨#[104, 105]⟩) := hf2.cell 4 _ rfl
  have q5 : W2.cell? ⟨g0, 5, none⟩ = some (.int .i64 (-1)) := hf2.cell 5 _ rfl
  have HM := Lib.hid hm; have HG := Lib.hid hg; have HW2 := Lib.hid hW2; have HW3 := Lib.hid hW3
  have HB3 := Lib.hid (And.intro hb3 (And.intro hM3 (And.intro hS3 hF3)))
  clear hm hg hW2 hW3 hf hb2 hM2 hS2 hf2 hb23 hb3 hM3 hS3 hF3
  go_enter Tryz.func35, Tryz.ntmps35
  go_upto_region 3 with fail
  rw [HW2.out]
  refine wp_loop_rounds 2 ?_
  rw [rounds_succ]
  go_upto_region 5 with fail
  rw [HW3.out]
  clear q0 q1 q2 q3 q4 q5
  have q0 : W3.cell? ⟨fb, 0, none⟩ = some (.string ⟨#[47, 97]⟩) := HB3.out.2.2.2.cell 0 _ rfl
  have q1 : W3.cell? ⟨fb, 1, none⟩ = some (.string ⟨#[116, 101, 120, 116, 47, 112, 108, 97, 105, 110]⟩) := HB3.out.2.2.2.cell 1 _ rfl
  have q2 : W3.cell? ⟨fb, 2, none⟩ = some (.string ⟨#[]⟩) := HB3.out.2.2.2.cell 2 _ rfl
  have q3 : W3.cell? ⟨fb, 3, none⟩ = some (.string ⟨#[]⟩) := HB3.out.2.2.2.cell 3 _ rfl
  have q4 : W3.cell? ⟨fb, 4, none⟩ = some (.string ⟨#[104, 105]⟩) := HB3.out.2.2.2.cell 4 _ rfl
  have q5 : W3.cell? ⟨fb, 5, none⟩ = some (.int .i64 (-1)) := HB3.out.2.2.2.cell 5 _ rfl
  go_wp2_with fail
  refine (rightA m W3 (mx_later (B := 0) HM.out HB3.out.1) (HG.out.below HB3.out.1)).mono ?_
  rintro e w4 ⟨rfl, hb4⟩
  have HB4 := Lib.hid (And.intro (HB3.out.1.trans (hb4.mono HB3.out.1.size)) (And.intro (show w4.heap[w.heap.size]? = some (.map #[] 0) by rw [hb4.block _ (Array.getElem?_eq_some_iff.1 HB3.out.2.1).1]; exact HB3.out.2.1) (And.intro (HB3.out.2.2.1.later hb4) (HB3.out.2.2.2.later hb4))))
  clear hb4 q0 q1 q2 q3 q4 q5
  go_upto_region 9 with fail
  refine wp_region_textH (fun W => W.heap[w.heap.size]? = some (.map #[] 0) ∧ BlkIs W (w.heap.size + 1) #[.slice none 0 0, .map (some w.heap.size)] 85 ∧ BlkIs W fb flA 46) [(0, true), (1, true), (2, true), (3, true), (4, true), (5, true), (6, true), (7, true), (8, true)] (by kernel_rfl) (by kernel_rfl) (by kernel_rfl) (by kernel_rfl) HB4.out.2 ?_
  iterate 9 (refine wpTxH_take rfl (by kernel_rfl) (v := ?_) ?_ ?_; rotate_left; · (intro W hS; obtain ⟨s0, s1, s2⟩ := hS; have t1 := s1.cell 1 _ rfl; have t0 := s2.cell 0 _ rfl; have l0 := lk_none _ _ _ s0; clear s0 s1 s2; go_simp; with_reducible rfl))
  refine wpTxH_nil ?_
  go_simp
  go_upto_region 10 with fail
  refine wp_loop_rounds 1 ?_
  rw [rounds_succ]
  go_upto_region 15 with fail
  go_cut [] (fun wx => ShKept w w.heap.size (w.heap.size + 1) fb wx)
  case first =>
    rename_i J0 K0 hJ0 hK0
    have HJ0 := Lib.hid hJ0; have HK0 := Lib.hid hK0
    clear hJ0 hK0
    have HS : BlkIs w4.drew.drew fb flA 46 := HB4.out.2.2.2
    have HSa : BlkIs (w4.alloc (.cells flA 46)).drew.drew fb flA 46 := HB4.out.2.2.2.alloc (.cells flA 46)
    refine wp_region_eachH (fun W => BlkIs W fb flA 46) 11 (by kernel_rfl) (by kernel_rfl) ?_
    refine eachH_take (i := 0) rfl (by kernel_rfl) (by kernel_rfl) (by kernel_rfl) HS (v := ?_) ?_ ?_; rotate_left; · (intro W hS; clear hS; go_simp; with_reducible rfl)
    refine eachH_take (i := 1) rfl (by kernel_rfl) (by kernel_rfl) (by kernel_rfl) HS (v := ?_) ?_ ?_; rotate_left; · (intro W hS; clear hS; go_simp; with_reducible rfl)
    refine eachH_take (i := 2) rfl (by kernel_rfl) (by kernel_rfl) (by kernel_rfl) HS (v := ?_) ?_ ?_; rotate_left; · (intro W hS; clear hS; go_simp; with_reducible rfl)
    refine eachH_take (i := 3) rfl (by kernel_rfl) (by kernel_rfl) (by kernel_rfl) HS (v := ?_) ?_ ?_; rotate_left; · (intro W hS; clear hS; go_simp; with_reducible rfl)
    refine eachH_take (i := 5) rfl (by kernel_rfl) (by kernel_rfl) (by kernel_rfl) HS (v := ?_) ?_ ?_; rotate_left; · (intro W hS; have t0 := hS.cell 0 _ rfl; have t1 := hS.cell 1 _ rfl; have t2 := hS.cell 2 _ rfl; have t3 := hS.cell 3 _ rfl; have t4 := hS.cell 4 _ rfl; have t5 := hS.cell 5 _ rfl; clear hS; go_simp; with_reducible rfl)
    refine eachH2 (i := 4) (j := 6) (by kernel_rfl) rfl rfl ?_ ?_
    · intro K hK
      have t0 : w4.drew.drew.cell? ⟨w.heap.size + 1, 0, none⟩ = some (.slice none 0 0) := HB4.out.2.2.1.cell 0 _ rfl
      go_simp
      refine hK _ _ HS ?_
      clear hK K t0
      refine eachH1 (i := 6) (by kernel_rfl) rfl ?_
      intro K hK
      go_simp
      refine hK _ _ HSa ?_
      clear hK K
      refine eachH1 (i := 7) (by kernel_rfl) rfl ?_
      intro K hK
      rw [if_pos (by kernel_rfl)]
      refine wp_append_lies _ _ _ 25 rfl w.heap.size 46 i0 zFl 6 88 Tryz.underlying25 hi hz0 hz1 hz2 rfl (by decide) (.slice none 0 0) 0 [] rfl (World.ownsRow_nil _ _ _ _) ⟨w4.heap.size, 0, none⟩ 1 1 flA.toList rfl rfl ?hn (by simp [Value.oneCell']) (by decide) (by decide) (by decide) ?hb _ rfl ?_
      case hn => exact World.news_of_block (World.alloc_heap_new _ _)
      case hb => have := HB4.out.1.size; simp; omega
      intro g cap w9 hown hgrow _ hlt
      have hgrow : (w4.alloc (.cells flA 46)).grownBy w9 none := by obtain ⟨a1, a2, a3, a4, a5⟩ := hgrow; exact ⟨a1, a2, a3, a4, a5⟩
      have HS : BlkIs w4 fb flA 46 := HS
      have hS9 : BlkIs w9 fb flA 46 := (HS.alloc _).grown hgrow (by simp [Value.ownBlock])
      have hT9 : BlkIs w9 (w.heap.size + 1) #[.slice none 0 0, .map (some w.heap.size)] 85 := (HB4.out.2.2.1.alloc (.cells flA 46)).grown hgrow (by simp [Value.ownBlock])
      have hM9 : w9.heap[w.heap.size]? = some (.map #[] 0) := by rw [hgrow.block _ (by simp; have := (Array.getElem?_eq_some_iff.1 HB4.out.2.1).1; omega) (by simp [Value.ownBlock]), Below.heap_alloc _ _ _ (Array.getElem?_eq_some_iff.1 HB4.out.2.1).1]; exact HB4.out.2.1
      have hb9 : Below w.heap.size w w9 := (HB4.out.1.alloc HB4.out.1.size _).grown hgrow (by have := HB4.out.1.size; simp; omega) (fun k hk => by simp [Value.ownBlock] at hk)
      have HX := Lib.hid (And.intro hM9 (And.intro hT9 (And.intro hb9 hown)))
      refine hK _ _ hS9 ?_
      clear hK K hgrow hown hM9 hb9
      refine eachH_take (i := 8) rfl (by kernel_rfl) (by kernel_rfl) (by kernel_rfl) hS9 (v := ?_) ?_ ?_; rotate_left; · (intro W hS; clear hS; go_simp; with_reducible rfl)
      refine eachH_take (i := 9) rfl (by kernel_rfl) (by kernel_rfl) (by kernel_rfl) hS9 (v := ?_) ?_ ?_; rotate_left; · (intro W hS; clear hS; go_simp; with_reducible rfl)
      refine eachH1 (i := 10) (by kernel_rfl) rfl ?_
      intro K hK
      have t0 := hT9.cell 0 _ rfl
      have t1 := hT9.free 0
      go_simp
      refine hK _ _ (hS9.setOther _ _ (blk_neF hS9 hT9)) ?_
      clear hK K t0 t1
      refine eachH_done (by kernel_rfl) ?_
      go_simp
      refine HK0.out _ _ (Met.intro (HJ0.out _ _ ?_))
      (repeat apply Exists.intro)
      refine ⟨?_, rfl⟩
      exact shKept_leaf HX.out.2.2.1 HX.out.1 hS9 hT9 HX.out.2.2.2
    · intro K hK
      go_simp
      refine hK _ _ HSa ?_
      clear hK K
      refine eachH1 (i := 4) (by kernel_rfl) rfl ?_
      intro K hK
      have t0 : (w4.alloc (.cells flA 46)).drew.drew.cell? ⟨w.heap.size + 1, 0, none⟩ = some (.slice none 0 0) := (HB4.out.2.2.1.alloc (.cells flA 46)).cell 0 _ rfl
      go_simp
      refine hK _ _ HSa ?_
      clear hK K t0
      refine eachH1 (i := 7) (by kernel_rfl) rfl ?_
      intro K hK
      rw [if_pos (by kernel_rfl)]
      refine wp_append_lies _ _ _ 25 rfl w.heap.size 46 i0 zFl 6 88 Tryz.underlying25 hi hz0 hz1 hz2 rfl (by decide) (.slice none 0 0) 0 [] rfl (World.ownsRow_nil _ _ _ _) ⟨w4.heap.size, 0, none⟩ 1 1 flA.toList rfl rfl ?hn (by simp [Value.oneCell']) (by decide) (by decide) (by decide) ?hb _ rfl ?_
      case hn => exact World.news_of_block (World.alloc_heap_new _ _)
      case hb => have := HB4.out.1.size; simp; omega
      intro g cap w9 hown hgrow _ hlt
      have hgrow : (w4.alloc (.cells flA 46)).grownBy w9 none := by obtain ⟨a1, a2, a3, a4, a5⟩ := hgrow; exact ⟨a1, a2, a3, a4, a5⟩
      have HS : BlkIs w4 fb flA 46 := HS
      have hS9 : BlkIs w9 fb flA 46 := (HS.alloc _).grown hgrow (by simp [Value.ownBlock])
      have hT9 : BlkIs w9 (w.heap.size + 1) #[.slice none 0 0, .map (some w.heap.size)] 85 := (HB4.out.2.2.1.alloc (.cells flA 46)).grown hgrow (by simp [Value.ownBlock])
      have hM9 : w9.heap[w.heap.size]? = some (.map #[] 0) := by rw [hgrow.block _ (by simp; have := (Array.getElem?_eq_some_iff.1 HB4.out.2.1).1; omega) (by simp [Value.ownBlock]), Below.heap_alloc _ _ _ (Array.getElem?_eq_some_iff.1 HB4.out.2.1).1]; exact HB4.out.2.1
      have hb9 : Below w.heap.size w w9 := (HB4.out.1.alloc HB4.out.1.size _).grown hgrow (by have := HB4.out.1.size; simp; omega) (fun k hk => by simp [Value.ownBlock] at hk)
      have HX := Lib.hid (And.intro hM9 (And.intro hT9 (And.intro hb9 hown)))
      refine hK _ _ hS9 ?_
      clear hK K hgrow hown hM9 hb9
      refine eachH_take (i := 8) rfl (by kernel_rfl) (by kernel_rfl) (by kernel_rfl) hS9 (v := ?_) ?_ ?_; rotate_left; · (intro W hS; clear hS; go_simp; with_reducible rfl)
      refine eachH_take (i := 9) rfl (by kernel_rfl) (by kernel_rfl) (by kernel_rfl) hS9 (v := ?_) ?_ ?_; rotate_left; · (intro W hS; clear hS; go_simp; with_reducible rfl)
      refine eachH1 (i := 10) (by kernel_rfl) rfl ?_
      intro K hK
      have t0 := hT9.cell 0 _ rfl
      have t1 := hT9.free 0
      go_simp
      refine hK _ _ (hS9.setOther _ _ (blk_neF hS9 hT9)) ?_
      clear hK K t0 t1
      refine eachH_done (by kernel_rfl) ?_
      go_simp
      refine HK0.out _ _ (Met.intro (HJ0.out _ _ ?_))
      (repeat apply Exists.intro)
      refine ⟨?_, rfl⟩
      exact shKept_leaf HX.out.2.2.1 HX.out.1 hS9 hT9 HX.out.2.2.2
  case rest =>
  obtain ⟨hb5, hm5, hs5, hM5, hF5, g, cap, hT5, hO5⟩ := hcut
  have HB5 := Lib.hid (And.intro hb5 (And.intro hM5 (And.intro hT5 hO5)))
  have HS : BlkIs wc.drew fb flA 46 ∧ ∃ v, BlkIs wc.drew (w.heap.size + 1) #[v, .map (some w.heap.size)] 85 := ⟨hF5, _, hT5⟩
  have HSa : BlkIs (wc.alloc (.cells #[.int .i64 0] 3)).drew fb flA 46 ∧ ∃ v, BlkIs (wc.alloc (.cells #[.int .i64 0] 3)).drew (w.heap.size + 1) #[v, .map (some w.heap.size)] 85 := ⟨hF5.alloc (.cells #[.int .i64 0] 3), _, hT5.alloc (.cells #[.int .i64 0] 3)⟩
  clear hb5 hm5 hs5 hM5 hF5 hT5 hO5
  go_upto_region 16 with fail
  refine wp_region_eachH (fun W => BlkIs W fb flA 46 ∧ ∃ v, BlkIs W (w.heap.size + 1) #[v, .map (some w.heap.size)] 85) 17 (by kernel_rfl) (by kernel_rfl) ?_
  refine eachH_take (i := 0) rfl (by kernel_rfl) (by kernel_rfl) (by kernel_rfl) HS (v := ?_) ?_ ?_; rotate_left; · (intro W hS; obtain ⟨hS, vv, hT⟩ := hS; clear hS hT; go_simp; with_reducible rfl)
  refine eachH_take (i := 1) rfl (by kernel_rfl) (by kernel_rfl) (by kernel_rfl) HS (v := ?_) ?_ ?_; rotate_left; · (intro W hS; obtain ⟨hS, vv, hT⟩ := hS; clear hS hT; go_simp; with_reducible rfl)
  refine eachH_take (i := 2) rfl (by kernel_rfl) (by kernel_rfl) (by kernel_rfl) HS (v := ?_) ?_ ?_; rotate_left; · (intro W hS; obtain ⟨hS, vv, hT⟩ := hS; clear hS hT; go_simp; with_reducible rfl)
  refine eachH_take (i := 3) rfl (by kernel_rfl) (by kernel_rfl) (by kernel_rfl) HS (v := ?_) ?_ ?_; rotate_left; · (intro W hS; obtain ⟨hS, vv, hT⟩ := hS; have t1 := hT.cell 1 _ rfl; clear hS hT; go_simp; with_reducible rfl)
  refine eachH_take (i := 4) rfl (by kernel_rfl) (by kernel_rfl) (by kernel_rfl) HS (v := ?_) ?_ ?_; rotate_left; · (intro W hS; obtain ⟨hS, vv, hT⟩ := hS; clear hS hT; go_simp; with_reducible rfl)
  refine eachH_take (i := 5) rfl (by kernel_rfl) (by kernel_rfl) (by kernel_rfl) HS (v := ?_) ?_ ?_; rotate_left; · (intro W hS; obtain ⟨hS, vv, hT⟩ := hS; have t0 := hS.cell 0 _ rfl; clear hS hT; go_simp; with_reducible rfl)
  refine eachH_take (i := 6) rfl (by kernel_rfl) (by kernel_rfl) (by kernel_rfl) HS (v := ?_) ?_ ?_; rotate_left; · (intro W hS; obtain ⟨hS, vv, hT⟩ := hS; clear hS hT; go_simp; with_reducible rfl)
  refine eachH_take (i := 7) rfl (by kernel_rfl) (by kernel_rfl) (by kernel_rfl) HS (v := ?_) ?_ ?_; rotate_left; · (intro W hS; obtain ⟨hS, vv, hT⟩ := hS; clear hS hT; go_simp; with_reducible rfl)
  refine eachH_take (i := 8) rfl (by kernel_rfl) (by kernel_rfl) (by kernel_rfl) HS (v := ?_) ?_ ?_; rotate_left; · (intro W hS; obtain ⟨hS, vv, hT⟩ := hS; clear hS hT; go_simp; with_reducible rfl)
  refine eachH_take (i := 9) rfl (by kernel_rfl) (by kernel_rfl) (by kernel_rfl) HS (v := ?_) ?_ ?_; rotate_left; · (intro W hS; obtain ⟨hS, vv, hT⟩ := hS; have t1 := hT.cell 1 _ rfl; clear hS hT; go_simp; with_reducible rfl)
  refine eachH_take (i := 10) rfl (by kernel_rfl) (by kernel_rfl) (by kernel_rfl) HS (v := ?_) ?_ ?_; rotate_left; · (intro W hS; obtain ⟨hS, vv, hT⟩ := hS; clear hS hT; go_simp; with_reducible rfl)
  refine eachH_take (i := 11) rfl (by kernel_rfl) (by kernel_rfl) (by kernel_rfl) HS (v := ?_) ?_ ?_; rotate_left; · (intro W hS; obtain ⟨hS, vv, hT⟩ := hS; have t0 := hS.cell 0 _ rfl; clear hS hT; go_simp; with_reducible rfl)
  refine eachH_take (i := 13) rfl (by kernel_rfl) (by kernel_rfl) (by kernel_rfl) HS (v := ?_) ?_ ?_; rotate_left; · (intro W hS; obtain ⟨hS, vv, hT⟩ := hS; clear hS hT; go_simp; with_reducible rfl)
  refine eachH2 (i := 12) (j := 14) (by kernel_rfl) rfl rfl ?_ ?_
  · intro K hK
    have l0 := lk_none w.heap.size 0 wc.drew HB5.out.2.1
    go_simp
    refine hK _ _ HS ?_
    clear hK K l0
    refine eachH1 (i := 14) (by kernel_rfl) rfl ?_
    intro K hK
    go_simp
    refine hK _ _ HSa ?_
    clear hK K
    refine eachH1 (i := 15) (by kernel_rfl) rfl ?_
    intro K hK
    rw [if_pos (by kernel_rfl)]
    refine wp_append_lies _ _ _ 53 rfl w.heap.size 3 j0 (.int .i64 0) 1 8 Tryz.underlying53 hj hy0 hy1 hy2 rfl (by decide) (.slice none 0 0) 0 [] rfl (World.ownsRow_nil _ _ _ _) ⟨wc.heap.size, 0, none⟩ 1 1 [.int .i64 0] rfl rfl ?hn (by simp [Value.oneCell']) (by decide) (by decide) (by decide) ?hb _ rfl ?_
    case hn => exact World.news_of_block (World.alloc_heap_new _ _)
    case hb => have := HB5.out.1.size; simp; omega
    intro gi ci w9 hown hgrow _ hlt
    have hgrow : (wc.alloc (.cells #[.int .i64 0] 3)).grownBy w9 none := by obtain ⟨a1, a2, a3, a4, a5⟩ := hgrow; exact ⟨a1, a2, a3, a4, a5⟩
    have HS : BlkIs wc fb flA 46 ∧ ∃ v, BlkIs wc (w.heap.size + 1) #[v, .map (some w.heap.size)] 85 := HS
    have hlm := (Array.getElem?_eq_some_iff.1 HB5.out.2.1).1
    have hS9 : BlkIs w9 fb flA 46 := (HS.1.alloc _).grown hgrow (by simp [Value.ownBlock])
    have hT9 : BlkIs w9 (w.heap.size + 1) #[.slice (some ⟨g, 0, none⟩) 1 cap, .map (some w.heap.size)] 85 := (HB5.out.2.2.1.alloc (.cells #[.int .i64 0] 3)).grown hgrow (by simp [Value.ownBlock])
    have hM9 : w9.heap[w.heap.size]? = some (.map #[] 0) := by rw [hgrow.block _ (by simp; omega) (by simp [Value.ownBlock]), Below.heap_alloc _ _ _ hlm]; exact HB5.out.2.1
    have hb9 : Below w.heap.size w w9 := (HB5.out.1.alloc HB5.out.1.size (.cells #[.int .i64 0] 3)).grown hgrow (by have := HB5.out.1.size; simp; omega) (fun k hk => by simp [Value.ownBlock] at hk)
    have hO9 : w9.ownsRow w.heap.size 46 6 (.slice (some ⟨g, 0, none⟩) 1 cap) 1 flA.toList := (HB5.out.2.2.2.alloc (.cells #[.int .i64 0] 3)).kept hgrow (.inr (by simp [Value.ownBlock]))
    have HX := Lib.hid (shMade_leaf hb9 hM9 hT9 hO9 hown)
    have hS9' : BlkIs w9 fb flA 46 ∧ ∃ v, BlkIs w9 (w.heap.size + 1) #[v, .map (some w.heap.size)] 85 := ⟨hS9, _, hT9⟩
    refine hK _ _ hS9' ?_
    clear hK K hgrow hown hb9
    refine eachH1 (i := 16) (by kernel_rfl) rfl ?_
    intro K hK
    have u0 := upd_first w.heap.size 0 (.slice (some ⟨gi, 0, none⟩) (0 + 1) ci) w9 hM9
    simp only [Nat.zero_add] at u0
    go_simp
    refine hK _ _ ⟨hS9.grown (mapPut_grown _ _ _) (blk_nm hM9 hS9), _, hT9.grown (mapPut_grown _ _ _) (blk_nm hM9 hT9)⟩ ?_
    clear hK K u0
    refine eachH_done (by kernel_rfl) ?_
    go_simp
    go_wp2
    rw [rounds_succ]
    go_wp2
    go_ret3
    exact ⟨_, _, rfl, HX.out⟩
  · intro K hK
    go_simp
    refine hK _ _ HSa ?_
    clear hK K
    refine eachH1 (i := 12) (by kernel_rfl) rfl ?_
    intro K hK
    have l0 := lk_none w.heap.size 0 (wc.alloc (.cells #[.int .i64 0] 3)).drew (by show (wc.alloc (.cells #[.int .i64 0] 3)).heap[w.heap.size]? = _; rw [Below.heap_alloc _ _ _ (Array.getElem?_eq_some_iff.1 HB5.out.2.1).1]; exact HB5.out.2.1)
    go_simp
    refine hK _ _ HSa ?_
    clear hK K l0
    refine eachH1 (i := 15) (by kernel_rfl) rfl ?_
    intro K hK
    rw [if_pos (by kernel_rfl)]
    refine wp_append_lies _ _ _ 53 rfl w.heap.size 3 j0 (.int .i64 0) 1 8 Tryz.underlying53 hj hy0 hy1 hy2 rfl (by decide) (.slice none 0 0) 0 [] rfl (World.ownsRow_nil _ _ _ _) ⟨wc.heap.size, 0, none⟩ 1 1 [.int .i64 0] rfl rfl ?hn (by simp [Value.oneCell']) (by decide) (by decide) (by decide) ?hb _ rfl ?_
    case hn => exact World.news_of_block (World.alloc_heap_new _ _)
    case hb => have := HB5.out.1.size; simp; omega
    intro gi ci w9 hown hgrow _ hlt
    have hgrow : (wc.alloc (.cells #[.int .i64 0] 3)).grownBy w9 none := by obtain ⟨a1, a2, a3, a4, a5⟩ := hgrow; exact ⟨a1, a2, a3, a4, a5⟩
    have HS : BlkIs wc fb flA 46 ∧ ∃ v, BlkIs wc (w.heap.size + 1) #[v, .map (some w.heap.size)] 85 := HS
    have hlm := (Array.getElem?_eq_some_iff.1 HB5.out.2.1).1
    have hS9 : BlkIs w9 fb flA 46 := (HS.1.alloc _).grown hgrow (by simp [Value.ownBlock])
    have hT9 : BlkIs w9 (w.heap.size + 1) #[.slice (some ⟨g, 0, none⟩) 1 cap, .map (some w.heap.size)] 85 := (HB5.out.2.2.1.alloc (.cells #[.int .i64 0] 3)).grown hgrow (by simp [Value.ownBlock])
    have hM9 : w9.heap[w.heap.size]? = some (.map #[] 0) := by rw [hgrow.block _ (by simp; omega) (by simp [Value.ownBlock]), Below.heap_alloc _ _ _ hlm]; exact HB5.out.2.1
    have hb9 : Below w.heap.size w w9 := (HB5.out.1.alloc HB5.out.1.size (.cells #[.int .i64 0] 3)).grown hgrow (by have := HB5.out.1.size; simp; omega) (fun k hk => by simp [Value.ownBlock] at hk)
    have hO9 : w9.ownsRow w.heap.size 46 6 (.slice (some ⟨g, 0, none⟩) 1 cap) 1 flA.toList := (HB5.out.2.2.2.alloc (.cells #[.int .i64 0] 3)).kept hgrow (.inr (by simp [Value.ownBlock]))
    have HX := Lib.hid (shMade_leaf hb9 hM9 hT9 hO9 hown)
    have hS9' : BlkIs w9 fb flA 46 ∧ ∃ v, BlkIs w9 (w.heap.size + 1) #[v, .map (some w.heap.size)] 85 := ⟨hS9, _, hT9⟩
    refine hK _ _ hS9' ?_
    clear hK K hgrow hown hb9
    refine eachH1 (i := 16) (by kernel_rfl) rfl ?_
    intro K hK
    have u0 := upd_first w.heap.size 0 (.slice (some ⟨gi, 0, none⟩) (0 + 1) ci) w9 hM9
    simp only [Nat.zero_add] at u0
    go_simp
    refine hK _ _ ⟨hS9.grown (mapPut_grown _ _ _) (blk_nm hM9 hS9), _, hT9.grown (mapPut_grown _ _ _) (blk_nm hM9 hT9)⟩ ?_
    clear hK K u0
    refine eachH_done (by kernel_rfl) ?_
    go_simp
    go_wp2
    rw [rounds_succ]
    go_wp2
    go_ret3
    exact ⟨_, _, rfl, HX.out⟩
end Go.Proofs.YtpdbejeiceodkaaGreatDoor
