/- The walk of handle.Answer at four kinds of handlers, whatever the kind's own method answers. No conditions but these. -/
import Derived.Test.YtdlpbpikhmciaaaGreatDoorPk09
namespace Go.Proofs.YtdlpbpikhmciaaaGreatDoor
open Go.RowKit
set_option linter.unusedSimpArgs false
set_option linter.unusedVariables false
set_option maxRecDepth 1000000
theorem blk_ne {W : World} {a b : Nat} {c d : Array Value} {T U : TypeId} (h : BlkIs W a c T) (k : BlkIs W b d U) (hT : T ≠ U) : a ≠ b := fun e => by
  unfold BlkIs at h k
  rw [e, k] at h
  injection h with h
  injection h with _ h
  exact hT h.symm
theorem FldRow.shape {W : World} {fv : Value} {L : List Fld} (h : FldRow W fv L) : ∃ ao n cap, fv = .slice ao n cap := by
  rcases h with ⟨_, h⟩ | ⟨g, cs, cap, fr, h, _⟩
  · exact ⟨_, _, _, h⟩
  · exact ⟨_, _, _, h⟩
theorem fourOther {W : World} {p g : Nat} {c : Array Value} {T : TypeId} (h : BlkIs W g c T) (hne : g ≠ p) (u0 u1 u2 u3 : Value) :
    BlkIs ((((W.setCell ⟨p, 0, none⟩ u0).setCell ⟨p, 1, none⟩ u1).setCell ⟨p, 2, none⟩ u2).setCell ⟨p, 3, none⟩ u3) g c T :=
  (((h.setOther _ _ hne).setOther _ _ hne).setOther _ _ hne).setOther _ _ hne
set_option maxHeartbeats 16000000 in
theorem oanswer1_any (s c ma mi st : Int) (n t m me ta : ByteArray) (fa q : Option Addr) (fl fc : Nat) (re bo : List UInt8) (L : List Fld) (w : World)
    (hC : ∀ W, Below w.heap.size w W → Calls Tryz.prog 9 #[.agg (hdC 1 n t m s c)] W fun e w' => e = .returned (.int .i64 0) ∧ Below W.heap.size W w')
    (hM : ∀ W p, Below w.heap.size w W → BlkIs W p (vC 1 s c n t m me ta ma mi (.slice fa fl fc) (.pointer q)) 100 → Calls Tryz.prog 46 #[.pointer (some ⟨p, 0, none⟩)] W (RespIs st re L bo W)) :
    Calls Tryz.prog 24 #[.agg (hdC 1 n t m s c), .agg (asC me ta ma mi (.slice fa fl fc)), .pointer q] w (RespIs st re L bo w) := by
  obtain ⟨h, hh⟩ : ∃ h, w.heap.size = h := ⟨_, rfl⟩
  obtain ⟨b, hb⟩ : ∃ b, h + 1 = b := ⟨_, rfl⟩
  obtain ⟨r, hr⟩ : ∃ r, b + 1 = r := ⟨_, rfl⟩
  obtain ⟨W2, hW2⟩ : ∃ W2, ((w.alloc (.cells (hdC 1 n t m s c) 23)).alloc (.cells (asC me ta ma mi (.slice fa fl fc)) 68)).alloc (.cells zR 46) = W2 := ⟨_, rfl⟩
  have hb2 : Below w.heap.size w W2 := by rw [← hW2]; exact ((below1 w _).alloc (by simp) _).alloc (by simp; omega) _
  have hH2 : BlkIs W2 h (hdC 1 n t m s c) 23 := by rw [← hW2, ← hh]; exact ((blkIs_new w _ _).alloc _).alloc _
  have hA2 : BlkIs W2 b (asC me ta ma mi (.slice fa fl fc)) 68 := by rw [← hW2, ← hb, ← hh]; have := blkIs_new (w.alloc (.cells (hdC 1 n t m s c) 23)) (asC me ta ma mi (.slice fa fl fc)) 68; rw [World.size_alloc] at this; exact this.alloc _
  have hR2 : BlkIs W2 r zR 46 := by rw [← hW2, ← hr, ← hb, ← hh]; have := blkIs_new ((w.alloc (.cells (hdC 1 n t m s c) 23)).alloc (.cells (asC me ta ma mi (.slice fa fl fc)) 68)) zR 46; rw [World.size_alloc, World.size_alloc] at this; exact this
  obtain ⟨S, hSd⟩ : ∃ S : World → Prop, (fun W => Below w.heap.size w W ∧ BlkIs W h (hdC 1 n t m s c) 23 ∧ BlkIs W b (asC me ta ma mi (.slice fa fl fc)) 68) = S := ⟨_, rfl⟩
  have hSi : ∀ W, S W ↔ (Below w.heap.size w W ∧ BlkIs W h (hdC 1 n t m s c) 23 ∧ BlkIs W b (asC me ta ma mi (.slice fa fl fc)) 68) := fun W => by rw [← hSd]
  have hst : ∀ W W', S W → Below W.heap.size W W' → S W' := fun W W' h hb => by
    rw [hSi] at h ⊢
    exact ⟨h.1.trans (hb.mono h.1.size), h.2.1.later hb, h.2.2.later hb⟩
  have HR := Lib.hid (show w.heap.size ≤ r by omega)
  have HI2 := Lib.hid (And.intro (show S W2 by rw [hSi]; exact ⟨hb2, hH2, hA2⟩) hR2)
  have HST := Lib.hid hst; have HSI := Lib.hid hSi; have HW2 := Lib.hid hW2; have HCT := Lib.hid hC; have HMT := Lib.hid hM
  have a0 : W2.cell? ⟨h, 0, none⟩ = some (.int .i64 1) := hH2.cell 0 _ rfl
  have a1 : W2.cell? ⟨h, 1, none⟩ = some (.string n) := hH2.cell 1 _ rfl
  have a2 : W2.cell? ⟨h, 2, none⟩ = some (.string t) := hH2.cell 2 _ rfl
  have a3 : W2.cell? ⟨h, 3, none⟩ = some (.string m) := hH2.cell 3 _ rfl
  have a4 : W2.cell? ⟨h, 4, none⟩ = some (.int .i64 s) := hH2.cell 4 _ rfl
  have a5 : W2.cell? ⟨h, 5, none⟩ = some (.int .i64 c) := hH2.cell 5 _ rfl
  clear hSd hSi hst hW2 hb2 hH2 hA2 hR2 hC hM
  go_enter Tryz.func24, Tryz.ntmps24
  go_upto_region 1 with fail
  rw [HW2.out]
  have HC2 := Lib.hid (HCT.out W2 ((HSI.out _).1 HI2.out.1).1)
  go_wp2_with fail
  refine (HC2.out).mono ?_
  rintro e w3 ⟨rfl, hb3⟩
  have HI3 := Lib.hid (And.intro (HST.out _ _ HI2.out.1 hb3) (HI2.out.2.later hb3))
  clear hb3 a0 a1 a2 a3 a4 a5
  go_upto_region 3 with fail
  refine wp_region_eachH S 13 (by kernel_rfl) (by kernel_rfl) ?_
  have hS := HST.out _ _ HI3.out.1 ((Below.refl _ w3).drew)
  have hRb := HI3.out.2.later ((Below.refl _ w3).drew)
  obtain ⟨WD, hWD⟩ : ∃ W, w3.drew = W := ⟨_, rfl⟩
  rw [hWD] at hS hRb ⊢
  clear hWD
  refine eachH_take (i := 1) rfl (by kernel_rfl) (by kernel_rfl) (by kernel_rfl) hS (v := ?_) ?_ ?_; rotate_left; · (intro W hS; obtain ⟨_, s1, s2⟩ := (HSI.out W).1 hS; have t0 : W.cell? ⟨h, 0, none⟩ = some (.int .i64 1) := s1.cell 0 _ rfl; have t1 : W.cell? ⟨h, 1, none⟩ = some (.string n) := s1.cell 1 _ rfl; have t2 : W.cell? ⟨h, 2, none⟩ = some (.string t) := s1.cell 2 _ rfl; have t3 : W.cell? ⟨h, 3, none⟩ = some (.string m) := s1.cell 3 _ rfl; have t4 : W.cell? ⟨h, 4, none⟩ = some (.int .i64 s) := s1.cell 4 _ rfl; have t5 : W.cell? ⟨h, 5, none⟩ = some (.int .i64 c) := s1.cell 5 _ rfl; have r0 : W.cell? ⟨b, 0, none⟩ = some (.string me) := s2.cell 0 _ rfl; have r1 : W.cell? ⟨b, 1, none⟩ = some (.string ta) := s2.cell 1 _ rfl; have r2 : W.cell? ⟨b, 2, none⟩ = some (.int .i64 ma) := s2.cell 2 _ rfl; have r3 : W.cell? ⟨b, 3, none⟩ = some (.int .i64 mi) := s2.cell 3 _ rfl; have r4 : W.cell? ⟨b, 4, none⟩ = some (.slice fa fl fc) := s2.cell 4 _ rfl; have r5 : W.cell? ⟨b, 5, none⟩ = some (.string ⟨#[]⟩) := s2.cell 5 _ rfl; have r6 : W.cell? ⟨b, 6, none⟩ = some (.slice none 0 0) := s2.cell 6 _ rfl; have r7 : W.cell? ⟨b, 7, none⟩ = some (.int .i64 0) := s2.cell 7 _ rfl; have r8 : W.cell? ⟨b, 8, none⟩ = some (.string ⟨#[]⟩) := s2.cell 8 _ rfl; have r9 : W.cell? ⟨b, 9, none⟩ = some (.int .i64 0) := s2.cell 9 _ rfl; have r10 : W.cell? ⟨b, 10, none⟩ = some (.string ⟨#[]⟩) := s2.cell 10 _ rfl; have r11 : W.cell? ⟨b, 11, none⟩ = some (.string ⟨#[]⟩) := s2.cell 11 _ rfl; have r12 : W.cell? ⟨b, 12, none⟩ = some (.bool false) := s2.cell 12 _ rfl; have r13 : W.cell? ⟨b, 13, none⟩ = some (.slice none 0 0) := s2.cell 13 _ rfl; have r14 : W.cell? ⟨b, 14, none⟩ = some (.int .i64 0) := s2.cell 14 _ rfl; clear s1 s2 hS; go_simp; with_reducible rfl)
  refine eachH_take (i := 2) rfl (by kernel_rfl) (by kernel_rfl) (by kernel_rfl) hS (v := ?_) ?_ ?_; rotate_left; · (intro W hS; obtain ⟨_, s1, s2⟩ := (HSI.out W).1 hS; have t0 : W.cell? ⟨h, 0, none⟩ = some (.int .i64 1) := s1.cell 0 _ rfl; have t1 : W.cell? ⟨h, 1, none⟩ = some (.string n) := s1.cell 1 _ rfl; have t2 : W.cell? ⟨h, 2, none⟩ = some (.string t) := s1.cell 2 _ rfl; have t3 : W.cell? ⟨h, 3, none⟩ = some (.string m) := s1.cell 3 _ rfl; have t4 : W.cell? ⟨h, 4, none⟩ = some (.int .i64 s) := s1.cell 4 _ rfl; have t5 : W.cell? ⟨h, 5, none⟩ = some (.int .i64 c) := s1.cell 5 _ rfl; have r0 : W.cell? ⟨b, 0, none⟩ = some (.string me) := s2.cell 0 _ rfl; have r1 : W.cell? ⟨b, 1, none⟩ = some (.string ta) := s2.cell 1 _ rfl; have r2 : W.cell? ⟨b, 2, none⟩ = some (.int .i64 ma) := s2.cell 2 _ rfl; have r3 : W.cell? ⟨b, 3, none⟩ = some (.int .i64 mi) := s2.cell 3 _ rfl; have r4 : W.cell? ⟨b, 4, none⟩ = some (.slice fa fl fc) := s2.cell 4 _ rfl; have r5 : W.cell? ⟨b, 5, none⟩ = some (.string ⟨#[]⟩) := s2.cell 5 _ rfl; have r6 : W.cell? ⟨b, 6, none⟩ = some (.slice none 0 0) := s2.cell 6 _ rfl; have r7 : W.cell? ⟨b, 7, none⟩ = some (.int .i64 0) := s2.cell 7 _ rfl; have r8 : W.cell? ⟨b, 8, none⟩ = some (.string ⟨#[]⟩) := s2.cell 8 _ rfl; have r9 : W.cell? ⟨b, 9, none⟩ = some (.int .i64 0) := s2.cell 9 _ rfl; have r10 : W.cell? ⟨b, 10, none⟩ = some (.string ⟨#[]⟩) := s2.cell 10 _ rfl; have r11 : W.cell? ⟨b, 11, none⟩ = some (.string ⟨#[]⟩) := s2.cell 11 _ rfl; have r12 : W.cell? ⟨b, 12, none⟩ = some (.bool false) := s2.cell 12 _ rfl; have r13 : W.cell? ⟨b, 13, none⟩ = some (.slice none 0 0) := s2.cell 13 _ rfl; have r14 : W.cell? ⟨b, 14, none⟩ = some (.int .i64 0) := s2.cell 14 _ rfl; clear s1 s2 hS; go_simp; with_reducible rfl)
  refine eachH_take (i := 6) rfl (by kernel_rfl) (by kernel_rfl) (by kernel_rfl) hS (v := ?_) ?_ ?_; rotate_left; · (intro W hS; obtain ⟨_, s1, s2⟩ := (HSI.out W).1 hS; have t0 : W.cell? ⟨h, 0, none⟩ = some (.int .i64 1) := s1.cell 0 _ rfl; have t1 : W.cell? ⟨h, 1, none⟩ = some (.string n) := s1.cell 1 _ rfl; have t2 : W.cell? ⟨h, 2, none⟩ = some (.string t) := s1.cell 2 _ rfl; have t3 : W.cell? ⟨h, 3, none⟩ = some (.string m) := s1.cell 3 _ rfl; have t4 : W.cell? ⟨h, 4, none⟩ = some (.int .i64 s) := s1.cell 4 _ rfl; have t5 : W.cell? ⟨h, 5, none⟩ = some (.int .i64 c) := s1.cell 5 _ rfl; have r0 : W.cell? ⟨b, 0, none⟩ = some (.string me) := s2.cell 0 _ rfl; have r1 : W.cell? ⟨b, 1, none⟩ = some (.string ta) := s2.cell 1 _ rfl; have r2 : W.cell? ⟨b, 2, none⟩ = some (.int .i64 ma) := s2.cell 2 _ rfl; have r3 : W.cell? ⟨b, 3, none⟩ = some (.int .i64 mi) := s2.cell 3 _ rfl; have r4 : W.cell? ⟨b, 4, none⟩ = some (.slice fa fl fc) := s2.cell 4 _ rfl; have r5 : W.cell? ⟨b, 5, none⟩ = some (.string ⟨#[]⟩) := s2.cell 5 _ rfl; have r6 : W.cell? ⟨b, 6, none⟩ = some (.slice none 0 0) := s2.cell 6 _ rfl; have r7 : W.cell? ⟨b, 7, none⟩ = some (.int .i64 0) := s2.cell 7 _ rfl; have r8 : W.cell? ⟨b, 8, none⟩ = some (.string ⟨#[]⟩) := s2.cell 8 _ rfl; have r9 : W.cell? ⟨b, 9, none⟩ = some (.int .i64 0) := s2.cell 9 _ rfl; have r10 : W.cell? ⟨b, 10, none⟩ = some (.string ⟨#[]⟩) := s2.cell 10 _ rfl; have r11 : W.cell? ⟨b, 11, none⟩ = some (.string ⟨#[]⟩) := s2.cell 11 _ rfl; have r12 : W.cell? ⟨b, 12, none⟩ = some (.bool false) := s2.cell 12 _ rfl; have r13 : W.cell? ⟨b, 13, none⟩ = some (.slice none 0 0) := s2.cell 13 _ rfl; have r14 : W.cell? ⟨b, 14, none⟩ = some (.int .i64 0) := s2.cell 14 _ rfl; clear s1 s2 hS; go_simp; with_reducible rfl)
  refine eachH_take (i := 7) rfl (by kernel_rfl) (by kernel_rfl) (by kernel_rfl) hS (v := ?_) ?_ ?_; rotate_left; · (intro W hS; obtain ⟨_, s1, s2⟩ := (HSI.out W).1 hS; have t0 : W.cell? ⟨h, 0, none⟩ = some (.int .i64 1) := s1.cell 0 _ rfl; have t1 : W.cell? ⟨h, 1, none⟩ = some (.string n) := s1.cell 1 _ rfl; have t2 : W.cell? ⟨h, 2, none⟩ = some (.string t) := s1.cell 2 _ rfl; have t3 : W.cell? ⟨h, 3, none⟩ = some (.string m) := s1.cell 3 _ rfl; have t4 : W.cell? ⟨h, 4, none⟩ = some (.int .i64 s) := s1.cell 4 _ rfl; have t5 : W.cell? ⟨h, 5, none⟩ = some (.int .i64 c) := s1.cell 5 _ rfl; have r0 : W.cell? ⟨b, 0, none⟩ = some (.string me) := s2.cell 0 _ rfl; have r1 : W.cell? ⟨b, 1, none⟩ = some (.string ta) := s2.cell 1 _ rfl; have r2 : W.cell? ⟨b, 2, none⟩ = some (.int .i64 ma) := s2.cell 2 _ rfl; have r3 : W.cell? ⟨b, 3, none⟩ = some (.int .i64 mi) := s2.cell 3 _ rfl; have r4 : W.cell? ⟨b, 4, none⟩ = some (.slice fa fl fc) := s2.cell 4 _ rfl; have r5 : W.cell? ⟨b, 5, none⟩ = some (.string ⟨#[]⟩) := s2.cell 5 _ rfl; have r6 : W.cell? ⟨b, 6, none⟩ = some (.slice none 0 0) := s2.cell 6 _ rfl; have r7 : W.cell? ⟨b, 7, none⟩ = some (.int .i64 0) := s2.cell 7 _ rfl; have r8 : W.cell? ⟨b, 8, none⟩ = some (.string ⟨#[]⟩) := s2.cell 8 _ rfl; have r9 : W.cell? ⟨b, 9, none⟩ = some (.int .i64 0) := s2.cell 9 _ rfl; have r10 : W.cell? ⟨b, 10, none⟩ = some (.string ⟨#[]⟩) := s2.cell 10 _ rfl; have r11 : W.cell? ⟨b, 11, none⟩ = some (.string ⟨#[]⟩) := s2.cell 11 _ rfl; have r12 : W.cell? ⟨b, 12, none⟩ = some (.bool false) := s2.cell 12 _ rfl; have r13 : W.cell? ⟨b, 13, none⟩ = some (.slice none 0 0) := s2.cell 13 _ rfl; have r14 : W.cell? ⟨b, 14, none⟩ = some (.int .i64 0) := s2.cell 14 _ rfl; clear s1 s2 hS; go_simp; with_reducible rfl)
  refine eachH_take (i := 8) rfl (by kernel_rfl) (by kernel_rfl) (by kernel_rfl) hS (v := ?_) ?_ ?_; rotate_left; · (intro W hS; clear hS; go_simp; with_reducible rfl)
  refine eachH_take (i := 9) rfl (by kernel_rfl) (by kernel_rfl) (by kernel_rfl) hS (v := ?_) ?_ ?_; rotate_left; · (intro W hS; clear hS; go_simp; with_reducible rfl)
  refine eachH2 (i := 0) (j := 10) (by kernel_rfl) rfl rfl ?_ ?_
  · intro K hK
    go_simp
    refine (kinds_any _).mono ?_
    rintro e W3 ⟨rfl, hW3⟩
    obtain ⟨g, hg⟩ : ∃ g, WD.heap.size = g := ⟨_, rfl⟩
    try rw [hg]
    have hG : BlkIs W3 g kArr 74 := by rw [hW3, ← hg]; exact blkIs_new _ _ _
    have hcb : Below WD.heap.size WD W3 := by rw [hW3]; exact below1 _ _
    have hS := HST.out _ _ hS hcb
    have hRb := hRb.later hcb
    try have hP := hP.later hcb
    refine hK _ _ hS ?_
    clear hK K hW3 hcb
    refine eachH_take (i := 3) rfl (by kernel_rfl) (by kernel_rfl) (by kernel_rfl) hS (v := ?_) ?_ ?_; rotate_left; · (intro W hS; clear hS; go_simp; with_reducible rfl)
    refine eachH_take (i := 4) rfl (by kernel_rfl) (by kernel_rfl) (by kernel_rfl) hS (v := ?_) ?_ ?_; rotate_left; · (intro W hS; clear hS; go_simp; with_reducible rfl)
    refine eachH2 (i := 5) (j := 10) (by kernel_rfl) rfl rfl ?_ ?_
    · intro K hK
      have z0 : W3.cell? ⟨g, 8, none⟩ = some (.func (.func 46) #[] #[]) := hG.cell 8 _ rfl
      go_simp
      refine hK _ _ hS ?_
      clear hK K z0
      refine eachH1 (i := 10) (by kernel_rfl) rfl ?_
      intro K hK
      obtain ⟨p, hp⟩ : ∃ p, W3.heap.size = p := ⟨_, rfl⟩
      obtain ⟨W4, hW4⟩ : ∃ W4, W3.alloc (.cells (vC 1 s c n t m me ta ma mi (.slice fa fl fc) (.pointer q)) 100) = W4 := ⟨_, rfl⟩
      have hab : Below W3.heap.size W3 W4 := by rw [← hW4]; exact below1 _ _
      have hP : BlkIs W4 p (vC 1 s c n t m me ta ma mi (.slice fa fl fc) (.pointer q)) 100 := by rw [← hW4, ← hp]; exact blkIs_new _ _ _
      have hS := HST.out _ _ hS hab
      have hRb := hRb.later hab
      try have hG := hG.later hab
      have HW4 := Lib.hid hW4
      clear hW4 hab
      go_simp
      rw [HW4.out]
      refine hK _ _ hS ?_
      clear hK K hp HW4
      refine eachH1 (i := 11) (by kernel_rfl) rfl ?_
      intro K hK
      have HM := Lib.hid (HMT.out W4 p ((HSI.out _).1 hS).1 hP)
      clear hP
      go_simp
      refine (HM.out).mono ?_
      rintro e W6 ⟨fv, rfl, hF6, hb6⟩
      obtain ⟨fo, fn, fc2, rfl⟩ := hF6.shape
      have hS := HST.out _ _ hS hb6
      have hRb := hRb.later hb6
      refine hK _ _ hS ?_
      clear hK K hb6 HM
      refine eachH1 (i := 12) (by kernel_rfl) rfl ?_
      intro K hK
      obtain ⟨hb7, hH7, hA7⟩ := (HSI.out _).1 hS
      have y0 := hRb.free 0
      have y1 := hRb.free 1
      have y2 := hRb.free 2
      have y3 := hRb.free 3
      have x0 := hRb.cell 0 _ rfl
      have x1 := hRb.cell 1 _ rfl
      have x2 := hRb.cell 2 _ rfl
      have x3 := hRb.cell 3 _ rfl
      obtain ⟨W9, hW9⟩ : ∃ W9, ((((W6.setCell ⟨r, 0, none⟩ (.int .i64 st)).setCell ⟨r, 1, none⟩ (.string ⟨re.toArray⟩)).setCell ⟨r, 2, none⟩ (.slice fo fn fc2)).setCell ⟨r, 3, none⟩ (.string ⟨bo.toArray⟩)) = W9 := ⟨_, rfl⟩
      have hS9 : S W9 := by rw [← hW9]; exact (HSI.out _).2 ⟨fourBelow hb7 HR.out (.int .i64 st) (.string ⟨re.toArray⟩) (.slice fo fn fc2) (.string ⟨bo.toArray⟩), fourOther hH7 (blk_ne hH7 hRb (by decide)) (.int .i64 st) (.string ⟨re.toArray⟩) (.slice fo fn fc2) (.string ⟨bo.toArray⟩), fourOther hA7 (blk_ne hA7 hRb (by decide)) (.int .i64 st) (.string ⟨re.toArray⟩) (.slice fo fn fc2) (.string ⟨bo.toArray⟩)⟩
      have hR9 : BlkIs W9 r #[(.int .i64 st), (.string ⟨re.toArray⟩), (.slice fo fn fc2), (.string ⟨bo.toArray⟩)] 46 := by rw [← hW9]; exact fourSet hRb rfl (.int .i64 st) (.string ⟨re.toArray⟩) (.slice fo fn fc2) (.string ⟨bo.toArray⟩)
      have hF9 : FldRow W9 (.slice fo fn fc2) L := by rw [← hW9]; exact fourFld hF6 hRb (.int .i64 st) (.string ⟨re.toArray⟩) (.slice fo fn fc2) (.string ⟨bo.toArray⟩)
      have HW9 := Lib.hid hW9
      clear hW9 hb7 hH7 hA7 hRb hF6 hS
      go_simp
      rw [HW9.out]
      refine hK _ _ hS9 ?_
      clear hK K HW9 x0 y0 x1 y1 x2 y2 x3 y3
      refine eachH_done (by kernel_rfl) ?_
      have HX := Lib.hid (And.intro hR9 (And.intro hF9 ((HSI.out _).1 hS9).1))
      clear hS9 hR9 hF9
      go_simp
      go_wp2
      refine bodyPost_ret (v := .agg (rC st ⟨re.toArray⟩ (.slice fo fn fc2) ⟨bo.toArray⟩)) ?r rfl ⟨_, rfl, HX.out.2.1, HX.out.2.2⟩
      case r => exact results_respC rfl _ _ r _ (0, 0) rfl HX.out.1 rfl
    · intro K hK
      obtain ⟨p, hp⟩ : ∃ p, W3.heap.size = p := ⟨_, rfl⟩
      obtain ⟨W4, hW4⟩ : ∃ W4, W3.alloc (.cells (vC 1 s c n t m me ta ma mi (.slice fa fl fc) (.pointer q)) 100) = W4 := ⟨_, rfl⟩
      have hab : Below W3.heap.size W3 W4 := by rw [← hW4]; exact below1 _ _
      have hP : BlkIs W4 p (vC 1 s c n t m me ta ma mi (.slice fa fl fc) (.pointer q)) 100 := by rw [← hW4, ← hp]; exact blkIs_new _ _ _
      have hS := HST.out _ _ hS hab
      have hRb := hRb.later hab
      try have hG := hG.later hab
      have HW4 := Lib.hid hW4
      clear hW4 hab
      go_simp
      rw [HW4.out]
      refine hK _ _ hS ?_
      clear hK K hp HW4
      refine eachH1 (i := 5) (by kernel_rfl) rfl ?_
      intro K hK
      have z0 : W4.cell? ⟨g, 8, none⟩ = some (.func (.func 46) #[] #[]) := hG.cell 8 _ rfl
      go_simp
      refine hK _ _ hS ?_
      clear hK K z0
      refine eachH1 (i := 11) (by kernel_rfl) rfl ?_
      intro K hK
      have HM := Lib.hid (HMT.out W4 p ((HSI.out _).1 hS).1 hP)
      clear hP
      go_simp
      refine (HM.out).mono ?_
      rintro e W6 ⟨fv, rfl, hF6, hb6⟩
      obtain ⟨fo, fn, fc2, rfl⟩ := hF6.shape
      have hS := HST.out _ _ hS hb6
      have hRb := hRb.later hb6
      refine hK _ _ hS ?_
      clear hK K hb6 HM
      refine eachH1 (i := 12) (by kernel_rfl) rfl ?_
      intro K hK
      obtain ⟨hb7, hH7, hA7⟩ := (HSI.out _).1 hS
      have y0 := hRb.free 0
      have y1 := hRb.free 1
      have y2 := hRb.free 2
      have y3 := hRb.free 3
      have x0 := hRb.cell 0 _ rfl
      have x1 := hRb.cell 1 _ rfl
      have x2 := hRb.cell 2 _ rfl
      have x3 := hRb.cell 3 _ rfl
      obtain ⟨W9, hW9⟩ : ∃ W9, ((((W6.setCell ⟨r, 0, none⟩ (.int .i64 st)).setCell ⟨r, 1, none⟩ (.string ⟨re.toArray⟩)).setCell ⟨r, 2, none⟩ (.slice fo fn fc2)).setCell ⟨r, 3, none⟩ (.string ⟨bo.toArray⟩)) = W9 := ⟨_, rfl⟩
      have hS9 : S W9 := by rw [← hW9]; exact (HSI.out _).2 ⟨fourBelow hb7 HR.out (.int .i64 st) (.string ⟨re.toArray⟩) (.slice fo fn fc2) (.string ⟨bo.toArray⟩), fourOther hH7 (blk_ne hH7 hRb (by decide)) (.int .i64 st) (.string ⟨re.toArray⟩) (.slice fo fn fc2) (.string ⟨bo.toArray⟩), fourOther hA7 (blk_ne hA7 hRb (by decide)) (.int .i64 st) (.string ⟨re.toArray⟩) (.slice fo fn fc2) (.string ⟨bo.toArray⟩)⟩
      have hR9 : BlkIs W9 r #[(.int .i64 st), (.string ⟨re.toArray⟩), (.slice fo fn fc2), (.string ⟨bo.toArray⟩)] 46 := by rw [← hW9]; exact fourSet hRb rfl (.int .i64 st) (.string ⟨re.toArray⟩) (.slice fo fn fc2) (.string ⟨bo.toArray⟩)
      have hF9 : FldRow W9 (.slice fo fn fc2) L := by rw [← hW9]; exact fourFld hF6 hRb (.int .i64 st) (.string ⟨re.toArray⟩) (.slice fo fn fc2) (.string ⟨bo.toArray⟩)
      have HW9 := Lib.hid hW9
      clear hW9 hb7 hH7 hA7 hRb hF6 hS
      go_simp
      rw [HW9.out]
      refine hK _ _ hS9 ?_
      clear hK K HW9 x0 y0 x1 y1 x2 y2 x3 y3
      refine eachH_done (by kernel_rfl) ?_
      have HX := Lib.hid (And.intro hR9 (And.intro hF9 ((HSI.out _).1 hS9).1))
      clear hS9 hR9 hF9
      go_simp
      go_wp2
      refine bodyPost_ret (v := .agg (rC st ⟨re.toArray⟩ (.slice fo fn fc2) ⟨bo.toArray⟩)) ?r rfl ⟨_, rfl, HX.out.2.1, HX.out.2.2⟩
      case r => exact results_respC rfl _ _ r _ (0, 0) rfl HX.out.1 rfl
  · intro K hK
    obtain ⟨p, hp⟩ : ∃ p, WD.heap.size = p := ⟨_, rfl⟩
    obtain ⟨W4, hW4⟩ : ∃ W4, WD.alloc (.cells (vC 1 s c n t m me ta ma mi (.slice fa fl fc) (.pointer q)) 100) = W4 := ⟨_, rfl⟩
    have hab : Below WD.heap.size WD W4 := by rw [← hW4]; exact below1 _ _
    have hP : BlkIs W4 p (vC 1 s c n t m me ta ma mi (.slice fa fl fc) (.pointer q)) 100 := by rw [← hW4, ← hp]; exact blkIs_new _ _ _
    have hS := HST.out _ _ hS hab
    have hRb := hRb.later hab
    try have hG := hG.later hab
    have HW4 := Lib.hid hW4
    clear hW4 hab
    go_simp
    rw [HW4.out]
    refine hK _ _ hS ?_
    clear hK K hp HW4
    refine eachH1 (i := 0) (by kernel_rfl) rfl ?_
    intro K hK
    go_simp
    refine (kinds_any _).mono ?_
    rintro e W3 ⟨rfl, hW3⟩
    obtain ⟨g, hg⟩ : ∃ g, W4.heap.size = g := ⟨_, rfl⟩
    try rw [hg]
    have hG : BlkIs W3 g kArr 74 := by rw [hW3, ← hg]; exact blkIs_new _ _ _
    have hcb : Below W4.heap.size W4 W3 := by rw [hW3]; exact below1 _ _
    have hS := HST.out _ _ hS hcb
    have hRb := hRb.later hcb
    try have hP := hP.later hcb
    refine hK _ _ hS ?_
    clear hK K hW3 hcb
    refine eachH_take (i := 3) rfl (by kernel_rfl) (by kernel_rfl) (by kernel_rfl) hS (v := ?_) ?_ ?_; rotate_left; · (intro W hS; clear hS; go_simp; with_reducible rfl)
    refine eachH_take (i := 4) rfl (by kernel_rfl) (by kernel_rfl) (by kernel_rfl) hS (v := ?_) ?_ ?_; rotate_left; · (intro W hS; clear hS; go_simp; with_reducible rfl)
    refine eachH1 (i := 5) (by kernel_rfl) rfl ?_
    intro K hK
    have z0 : W3.cell? ⟨g, 8, none⟩ = some (.func (.func 46) #[] #[]) := hG.cell 8 _ rfl
    go_simp
    refine hK _ _ hS ?_
    clear hK K z0
    refine eachH1 (i := 11) (by kernel_rfl) rfl ?_
    intro K hK
    have HM := Lib.hid (HMT.out W3 p ((HSI.out _).1 hS).1 hP)
    clear hP
    go_simp
    refine (HM.out).mono ?_
    rintro e W6 ⟨fv, rfl, hF6, hb6⟩
    obtain ⟨fo, fn, fc2, rfl⟩ := hF6.shape
    have hS := HST.out _ _ hS hb6
    have hRb := hRb.later hb6
    refine hK _ _ hS ?_
    clear hK K hb6 HM
    refine eachH1 (i := 12) (by kernel_rfl) rfl ?_
    intro K hK
    obtain ⟨hb7, hH7, hA7⟩ := (HSI.out _).1 hS
    have y0 := hRb.free 0
    have y1 := hRb.free 1
    have y2 := hRb.free 2
    have y3 := hRb.free 3
    have x0 := hRb.cell 0 _ rfl
    have x1 := hRb.cell 1 _ rfl
    have x2 := hRb.cell 2 _ rfl
    have x3 := hRb.cell 3 _ rfl
    obtain ⟨W9, hW9⟩ : ∃ W9, ((((W6.setCell ⟨r, 0, none⟩ (.int .i64 st)).setCell ⟨r, 1, none⟩ (.string ⟨re.toArray⟩)).setCell ⟨r, 2, none⟩ (.slice fo fn fc2)).setCell ⟨r, 3, none⟩ (.string ⟨bo.toArray⟩)) = W9 := ⟨_, rfl⟩
    have hS9 : S W9 := by rw [← hW9]; exact (HSI.out _).2 ⟨fourBelow hb7 HR.out (.int .i64 st) (.string ⟨re.toArray⟩) (.slice fo fn fc2) (.string ⟨bo.toArray⟩), fourOther hH7 (blk_ne hH7 hRb (by decide)) (.int .i64 st) (.string ⟨re.toArray⟩) (.slice fo fn fc2) (.string ⟨bo.toArray⟩), fourOther hA7 (blk_ne hA7 hRb (by decide)) (.int .i64 st) (.string ⟨re.toArray⟩) (.slice fo fn fc2) (.string ⟨bo.toArray⟩)⟩
    have hR9 : BlkIs W9 r #[(.int .i64 st), (.string ⟨re.toArray⟩), (.slice fo fn fc2), (.string ⟨bo.toArray⟩)] 46 := by rw [← hW9]; exact fourSet hRb rfl (.int .i64 st) (.string ⟨re.toArray⟩) (.slice fo fn fc2) (.string ⟨bo.toArray⟩)
    have hF9 : FldRow W9 (.slice fo fn fc2) L := by rw [← hW9]; exact fourFld hF6 hRb (.int .i64 st) (.string ⟨re.toArray⟩) (.slice fo fn fc2) (.string ⟨bo.toArray⟩)
    have HW9 := Lib.hid hW9
    clear hW9 hb7 hH7 hA7 hRb hF6 hS
    go_simp
    rw [HW9.out]
    refine hK _ _ hS9 ?_
    clear hK K HW9 x0 y0 x1 y1 x2 y2 x3 y3
    refine eachH_done (by kernel_rfl) ?_
    have HX := Lib.hid (And.intro hR9 (And.intro hF9 ((HSI.out _).1 hS9).1))
    clear hS9 hR9 hF9
    go_simp
    go_wp2
    refine bodyPost_ret (v := .agg (rC st ⟨re.toArray⟩ (.slice fo fn fc2) ⟨bo.toArray⟩)) ?r rfl ⟨_, rfl, HX.out.2.1, HX.out.2.2⟩
    case r => exact results_respC rfl _ _ r _ (0, 0) rfl HX.out.1 rfl
set_option maxHeartbeats 16000000 in
theorem oanswer4_any (s c ma mi st : Int) (n t m me ta : ByteArray) (fa q : Option Addr) (fl fc : Nat) (re bo : List UInt8) (L : List Fld) (w : World)
    (hC : ∀ W, Below w.heap.size w W → Calls Tryz.prog 9 #[.agg (hdC 4 n t m s c)] W fun e w' => e = .returned (.int .i64 0) ∧ Below W.heap.size W w')
    (hM : ∀ W p, Below w.heap.size w W → BlkIs W p (vC 4 s c n t m me ta ma mi (.slice fa fl fc) (.pointer q)) 100 → Calls Tryz.prog 53 #[.pointer (some ⟨p, 0, none⟩)] W (RespIs st re L bo W)) :
    Calls Tryz.prog 24 #[.agg (hdC 4 n t m s c), .agg (asC me ta ma mi (.slice fa fl fc)), .pointer q] w (RespIs st re L bo w) := by
  obtain ⟨h, hh⟩ : ∃ h, w.heap.size = h := ⟨_, rfl⟩
  obtain ⟨b, hb⟩ : ∃ b, h + 1 = b := ⟨_, rfl⟩
  obtain ⟨r, hr⟩ : ∃ r, b + 1 = r := ⟨_, rfl⟩
  obtain ⟨W2, hW2⟩ : ∃ W2, ((w.alloc (.cells (hdC 4 n t m s c) 23)).alloc (.cells (asC me ta ma mi (.slice fa fl fc)) 68)).alloc (.cells zR 46) = W2 := ⟨_, rfl⟩
  have hb2 : Below w.heap.size w W2 := by rw [← hW2]; exact ((below1 w _).alloc (by simp) _).alloc (by simp; omega) _
  have hH2 : BlkIs W2 h (hdC 4 n t m s c) 23 := by rw [← hW2, ← hh]; exact ((blkIs_new w _ _).alloc _).alloc _
  have hA2 : BlkIs W2 b (asC me ta ma mi (.slice fa fl fc)) 68 := by rw [← hW2, ← hb, ← hh]; have := blkIs_new (w.alloc (.cells (hdC 4 n t m s c) 23)) (asC me ta ma mi (.slice fa fl fc)) 68; rw [World.size_alloc] at this; exact this.alloc _
  have hR2 : BlkIs W2 r zR 46 := by rw [← hW2, ← hr, ← hb, ← hh]; have := blkIs_new ((w.alloc (.cells (hdC 4 n t m s c) 23)).alloc (.cells (asC me ta ma mi (.slice fa fl fc)) 68)) zR 46; rw [World.size_alloc, World.size_alloc] at this; exact this
  obtain ⟨S, hSd⟩ : ∃ S : World → Prop, (fun W => Below w.heap.size w W ∧ BlkIs W h (hdC 4 n t m s c) 23 ∧ BlkIs W b (asC me ta ma mi (.slice fa fl fc)) 68) = S := ⟨_, rfl⟩
  have hSi : ∀ W, S W ↔ (Below w.heap.size w W ∧ BlkIs W h (hdC 4 n t m s c) 23 ∧ BlkIs W b (asC me ta ma mi (.slice fa fl fc)) 68) := fun W => by rw [← hSd]
  have hst : ∀ W W', S W → Below W.heap.size W W' → S W' := fun W W' h hb => by
    rw [hSi] at h ⊢
    exact ⟨h.1.trans (hb.mono h.1.size), h.2.1.later hb, h.2.2.later hb⟩
  have HR := Lib.hid (show w.heap.size ≤ r by omega)
  have HI2 := Lib.hid (And.intro (show S W2 by rw [hSi]; exact ⟨hb2, hH2, hA2⟩) hR2)
  have HST := Lib.hid hst; have HSI := Lib.hid hSi; have HW2 := Lib.hid hW2; have HCT := Lib.hid hC; have HMT := Lib.hid hM
  have a0 : W2.cell? ⟨h, 0, none⟩ = some (.int .i64 4) := hH2.cell 0 _ rfl
  have a1 : W2.cell? ⟨h, 1, none⟩ = some (.string n) := hH2.cell 1 _ rfl
  have a2 : W2.cell? ⟨h, 2, none⟩ = some (.string t) := hH2.cell 2 _ rfl
  have a3 : W2.cell? ⟨h, 3, none⟩ = some (.string m) := hH2.cell 3 _ rfl
  have a4 : W2.cell? ⟨h, 4, none⟩ = some (.int .i64 s) := hH2.cell 4 _ rfl
  have a5 : W2.cell? ⟨h, 5, none⟩ = some (.int .i64 c) := hH2.cell 5 _ rfl
  clear hSd hSi hst hW2 hb2 hH2 hA2 hR2 hC hM
  go_enter Tryz.func24, Tryz.ntmps24
  go_upto_region 1 with fail
  rw [HW2.out]
  have HC2 := Lib.hid (HCT.out W2 ((HSI.out _).1 HI2.out.1).1)
  go_wp2_with fail
  refine (HC2.out).mono ?_
  rintro e w3 ⟨rfl, hb3⟩
  have HI3 := Lib.hid (And.intro (HST.out _ _ HI2.out.1 hb3) (HI2.out.2.later hb3))
  clear hb3 a0 a1 a2 a3 a4 a5
  go_upto_region 3 with fail
  refine wp_region_eachH S 13 (by kernel_rfl) (by kernel_rfl) ?_
  have hS := HST.out _ _ HI3.out.1 ((Below.refl _ w3).drew)
  have hRb := HI3.out.2.later ((Below.refl _ w3).drew)
  obtain ⟨WD, hWD⟩ : ∃ W, w3.drew = W := ⟨_, rfl⟩
  rw [hWD] at hS hRb ⊢
  clear hWD
  refine eachH_take (i := 1) rfl (by kernel_rfl) (by kernel_rfl) (by kernel_rfl) hS (v := ?_) ?_ ?_; rotate_left; · (intro W hS; obtain ⟨_, s1, s2⟩ := (HSI.out W).1 hS; have t0 : W.cell? ⟨h, 0, none⟩ = some (.int .i64 4) := s1.cell 0 _ rfl; have t1 : W.cell? ⟨h, 1, none⟩ = some (.string n) := s1.cell 1 _ rfl; have t2 : W.cell? ⟨h, 2, none⟩ = some (.string t) := s1.cell 2 _ rfl; have t3 : W.cell? ⟨h, 3, none⟩ = some (.string m) := s1.cell 3 _ rfl; have t4 : W.cell? ⟨h, 4, none⟩ = some (.int .i64 s) := s1.cell 4 _ rfl; have t5 : W.cell? ⟨h, 5, none⟩ = some (.int .i64 c) := s1.cell 5 _ rfl; have r0 : W.cell? ⟨b, 0, none⟩ = some (.string me) := s2.cell 0 _ rfl; have r1 : W.cell? ⟨b, 1, none⟩ = some (.string ta) := s2.cell 1 _ rfl; have r2 : W.cell? ⟨b, 2, none⟩ = some (.int .i64 ma) := s2.cell 2 _ rfl; have r3 : W.cell? ⟨b, 3, none⟩ = some (.int .i64 mi) := s2.cell 3 _ rfl; have r4 : W.cell? ⟨b, 4, none⟩ = some (.slice fa fl fc) := s2.cell 4 _ rfl; have r5 : W.cell? ⟨b, 5, none⟩ = some (.string ⟨#[]⟩) := s2.cell 5 _ rfl; have r6 : W.cell? ⟨b, 6, none⟩ = some (.slice none 0 0) := s2.cell 6 _ rfl; have r7 : W.cell? ⟨b, 7, none⟩ = some (.int .i64 0) := s2.cell 7 _ rfl; have r8 : W.cell? ⟨b, 8, none⟩ = some (.string ⟨#[]⟩) := s2.cell 8 _ rfl; have r9 : W.cell? ⟨b, 9, none⟩ = some (.int .i64 0) := s2.cell 9 _ rfl; have r10 : W.cell? ⟨b, 10, none⟩ = some (.string ⟨#[]⟩) := s2.cell 10 _ rfl; have r11 : W.cell? ⟨b, 11, none⟩ = some (.string ⟨#[]⟩) := s2.cell 11 _ rfl; have r12 : W.cell? ⟨b, 12, none⟩ = some (.bool false) := s2.cell 12 _ rfl; have r13 : W.cell? ⟨b, 13, none⟩ = some (.slice none 0 0) := s2.cell 13 _ rfl; have r14 : W.cell? ⟨b, 14, none⟩ = some (.int .i64 0) := s2.cell 14 _ rfl; clear s1 s2 hS; go_simp; with_reducible rfl)
  refine eachH_take (i := 2) rfl (by kernel_rfl) (by kernel_rfl) (by kernel_rfl) hS (v := ?_) ?_ ?_; rotate_left; · (intro W hS; obtain ⟨_, s1, s2⟩ := (HSI.out W).1 hS; have t0 : W.cell? ⟨h, 0, none⟩ = some (.int .i64 4) := s1.cell 0 _ rfl; have t1 : W.cell? ⟨h, 1, none⟩ = some (.string n) := s1.cell 1 _ rfl; have t2 : W.cell? ⟨h, 2, none⟩ = some (.string t) := s1.cell 2 _ rfl; have t3 : W.cell? ⟨h, 3, none⟩ = some (.string m) := s1.cell 3 _ rfl; have t4 : W.cell? ⟨h, 4, none⟩ = some (.int .i64 s) := s1.cell 4 _ rfl; have t5 : W.cell? ⟨h, 5, none⟩ = some (.int .i64 c) := s1.cell 5 _ rfl; have r0 : W.cell? ⟨b, 0, none⟩ = some (.string me) := s2.cell 0 _ rfl; have r1 : W.cell? ⟨b, 1, none⟩ = some (.string ta) := s2.cell 1 _ rfl; have r2 : W.cell? ⟨b, 2, none⟩ = some (.int .i64 ma) := s2.cell 2 _ rfl; have r3 : W.cell? ⟨b, 3, none⟩ = some (.int .i64 mi) := s2.cell 3 _ rfl; have r4 : W.cell? ⟨b, 4, none⟩ = some (.slice fa fl fc) := s2.cell 4 _ rfl; have r5 : W.cell? ⟨b, 5, none⟩ = some (.string ⟨#[]⟩) := s2.cell 5 _ rfl; have r6 : W.cell? ⟨b, 6, none⟩ = some (.slice none 0 0) := s2.cell 6 _ rfl; have r7 : W.cell? ⟨b, 7, none⟩ = some (.int .i64 0) := s2.cell 7 _ rfl; have r8 : W.cell? ⟨b, 8, none⟩ = some (.string ⟨#[]⟩) := s2.cell 8 _ rfl; have r9 : W.cell? ⟨b, 9, none⟩ = some (.int .i64 0) := s2.cell 9 _ rfl; have r10 : W.cell? ⟨b, 10, none⟩ = some (.string ⟨#[]⟩) := s2.cell 10 _ rfl; have r11 : W.cell? ⟨b, 11, none⟩ = some (.string ⟨#[]⟩) := s2.cell 11 _ rfl; have r12 : W.cell? ⟨b, 12, none⟩ = some (.bool false) := s2.cell 12 _ rfl; have r13 : W.cell? ⟨b, 13, none⟩ = some (.slice none 0 0) := s2.cell 13 _ rfl; have r14 : W.cell? ⟨b, 14, none⟩ = some (.int .i64 0) := s2.cell 14 _ rfl; clear s1 s2 hS; go_simp; with_reducible rfl)
  refine eachH_take (i := 6) rfl (by kernel_rfl) (by kernel_rfl) (by kernel_rfl) hS (v := ?_) ?_ ?_; rotate_left; · (intro W hS; obtain ⟨_, s1, s2⟩ := (HSI.out W).1 hS; have t0 : W.cell? ⟨h, 0, none⟩ = some (.int .i64 4) := s1.cell 0 _ rfl; have t1 : W.cell? ⟨h, 1, none⟩ = some (.string n) := s1.cell 1 _ rfl; have t2 : W.cell? ⟨h, 2, none⟩ = some (.string t) := s1.cell 2 _ rfl; have t3 : W.cell? ⟨h, 3, none⟩ = some (.string m) := s1.cell 3 _ rfl; have t4 : W.cell? ⟨h, 4, none⟩ = some (.int .i64 s) := s1.cell 4 _ rfl; have t5 : W.cell? ⟨h, 5, none⟩ = some (.int .i64 c) := s1.cell 5 _ rfl; have r0 : W.cell? ⟨b, 0, none⟩ = some (.string me) := s2.cell 0 _ rfl; have r1 : W.cell? ⟨b, 1, none⟩ = some (.string ta) := s2.cell 1 _ rfl; have r2 : W.cell? ⟨b, 2, none⟩ = some (.int .i64 ma) := s2.cell 2 _ rfl; have r3 : W.cell? ⟨b, 3, none⟩ = some (.int .i64 mi) := s2.cell 3 _ rfl; have r4 : W.cell? ⟨b, 4, none⟩ = some (.slice fa fl fc) := s2.cell 4 _ rfl; have r5 : W.cell? ⟨b, 5, none⟩ = some (.string ⟨#[]⟩) := s2.cell 5 _ rfl; have r6 : W.cell? ⟨b, 6, none⟩ = some (.slice none 0 0) := s2.cell 6 _ rfl; have r7 : W.cell? ⟨b, 7, none⟩ = some (.int .i64 0) := s2.cell 7 _ rfl; have r8 : W.cell? ⟨b, 8, none⟩ = some (.string ⟨#[]⟩) := s2.cell 8 _ rfl; have r9 : W.cell? ⟨b, 9, none⟩ = some (.int .i64 0) := s2.cell 9 _ rfl; have r10 : W.cell? ⟨b, 10, none⟩ = some (.string ⟨#[]⟩) := s2.cell 10 _ rfl; have r11 : W.cell? ⟨b, 11, none⟩ = some (.string ⟨#[]⟩) := s2.cell 11 _ rfl; have r12 : W.cell? ⟨b, 12, none⟩ = some (.bool false) := s2.cell 12 _ rfl; have r13 : W.cell? ⟨b, 13, none⟩ = some (.slice none 0 0) := s2.cell 13 _ rfl; have r14 : W.cell? ⟨b, 14, none⟩ = some (.int .i64 0) := s2.cell 14 _ rfl; clear s1 s2 hS; go_simp; with_reducible rfl)
  refine eachH_take (i := 7) rfl (by kernel_rfl) (by kernel_rfl) (by kernel_rfl) hS (v := ?_) ?_ ?_; rotate_left; · (intro W hS; obtain ⟨_, s1, s2⟩ := (HSI.out W).1 hS; have t0 : W.cell? ⟨h, 0, none⟩ = some (.int .i64 4) := s1.cell 0 _ rfl; have t1 : W.cell? ⟨h, 1, none⟩ = some (.string n) := s1.cell 1 _ rfl; have t2 : W.cell? ⟨h, 2, none⟩ = some (.string t) := s1.cell 2 _ rfl; have t3 : W.cell? ⟨h, 3, none⟩ = some (.string m) := s1.cell 3 _ rfl; have t4 : W.cell? ⟨h, 4, none⟩ = some (.int .i64 s) := s1.cell 4 _ rfl; have t5 : W.cell? ⟨h, 5, none⟩ = some (.int .i64 c) := s1.cell 5 _ rfl; have r0 : W.cell? ⟨b, 0, none⟩ = some (.string me) := s2.cell 0 _ rfl; have r1 : W.cell? ⟨b, 1, none⟩ = some (.string ta) := s2.cell 1 _ rfl; have r2 : W.cell? ⟨b, 2, none⟩ = some (.int .i64 ma) := s2.cell 2 _ rfl; have r3 : W.cell? ⟨b, 3, none⟩ = some (.int .i64 mi) := s2.cell 3 _ rfl; have r4 : W.cell? ⟨b, 4, none⟩ = some (.slice fa fl fc) := s2.cell 4 _ rfl; have r5 : W.cell? ⟨b, 5, none⟩ = some (.string ⟨#[]⟩) := s2.cell 5 _ rfl; have r6 : W.cell? ⟨b, 6, none⟩ = some (.slice none 0 0) := s2.cell 6 _ rfl; have r7 : W.cell? ⟨b, 7, none⟩ = some (.int .i64 0) := s2.cell 7 _ rfl; have r8 : W.cell? ⟨b, 8, none⟩ = some (.string ⟨#[]⟩) := s2.cell 8 _ rfl; have r9 : W.cell? ⟨b, 9, none⟩ = some (.int .i64 0) := s2.cell 9 _ rfl; have r10 : W.cell? ⟨b, 10, none⟩ = some (.string ⟨#[]⟩) := s2.cell 10 _ rfl; have r11 : W.cell? ⟨b, 11, none⟩ = some (.string ⟨#[]⟩) := s2.cell 11 _ rfl; have r12 : W.cell? ⟨b, 12, none⟩ = some (.bool false) := s2.cell 12 _ rfl; have r13 : W.cell? ⟨b, 13, none⟩ = some (.slice none 0 0) := s2.cell 13 _ rfl; have r14 : W.cell? ⟨b, 14, none⟩ = some (.int .i64 0) := s2.cell 14 _ rfl; clear s1 s2 hS; go_simp; with_reducible rfl)
  refine eachH_take (i := 8) rfl (by kernel_rfl) (by kernel_rfl) (by kernel_rfl) hS (v := ?_) ?_ ?_; rotate_left; · (intro W hS; clear hS; go_simp; with_reducible rfl)
  refine eachH_take (i := 9) rfl (by kernel_rfl) (by kernel_rfl) (by kernel_rfl) hS (v := ?_) ?_ ?_; rotate_left; · (intro W hS; clear hS; go_simp; with_reducible rfl)
  refine eachH2 (i := 0) (j := 10) (by kernel_rfl) rfl rfl ?_ ?_
  · intro K hK
    go_simp
    refine (kinds_any _).mono ?_
    rintro e W3 ⟨rfl, hW3⟩
    obtain ⟨g, hg⟩ : ∃ g, WD.heap.size = g := ⟨_, rfl⟩
    try rw [hg]
    have hG : BlkIs W3 g kArr 74 := by rw [hW3, ← hg]; exact blkIs_new _ _ _
    have hcb : Below WD.heap.size WD W3 := by rw [hW3]; exact below1 _ _
    have hS := HST.out _ _ hS hcb
    have hRb := hRb.later hcb
    try have hP := hP.later hcb
    refine hK _ _ hS ?_
    clear hK K hW3 hcb
    refine eachH_take (i := 3) rfl (by kernel_rfl) (by kernel_rfl) (by kernel_rfl) hS (v := ?_) ?_ ?_; rotate_left; · (intro W hS; clear hS; go_simp; with_reducible rfl)
    refine eachH_take (i := 4) rfl (by kernel_rfl) (by kernel_rfl) (by kernel_rfl) hS (v := ?_) ?_ ?_; rotate_left; · (intro W hS; clear hS; go_simp; with_reducible rfl)
    refine eachH2 (i := 5) (j := 10) (by kernel_rfl) rfl rfl ?_ ?_
    · intro K hK
      have z0 : W3.cell? ⟨g, 32, none⟩ = some (.func (.func 53) #[] #[]) := hG.cell 32 _ rfl
      go_simp
      refine hK _ _ hS ?_
      clear hK K z0
      refine eachH1 (i := 10) (by kernel_rfl) rfl ?_
      intro K hK
      obtain ⟨p, hp⟩ : ∃ p, W3.heap.size = p := ⟨_, rfl⟩
      obtain ⟨W4, hW4⟩ : ∃ W4, W3.alloc (.cells (vC 4 s c n t m me ta ma mi (.slice fa fl fc) (.pointer q)) 100) = W4 := ⟨_, rfl⟩
      have hab : Below W3.heap.size W3 W4 := by rw [← hW4]; exact below1 _ _
      have hP : BlkIs W4 p (vC 4 s c n t m me ta ma mi (.slice fa fl fc) (.pointer q)) 100 := by rw [← hW4, ← hp]; exact blkIs_new _ _ _
      have hS := HST.out _ _ hS hab
      have hRb := hRb.later hab
      try have hG := hG.later hab
      have HW4 := Lib.hid hW4
      clear hW4 hab
      go_simp
      rw [HW4.out]
      refine hK _ _ hS ?_
      clear hK K hp HW4
      refine eachH1 (i := 11) (by kernel_rfl) rfl ?_
      intro K hK
      have HM := Lib.hid (HMT.out W4 p ((HSI.out _).1 hS).1 hP)
      clear hP
      go_simp
      refine (HM.out).mono ?_
      rintro e W6 ⟨fv, rfl, hF6, hb6⟩
      obtain ⟨fo, fn, fc2, rfl⟩ := hF6.shape
      have hS := HST.out _ _ hS hb6
      have hRb := hRb.later hb6
      refine hK _ _ hS ?_
      clear hK K hb6 HM
      refine eachH1 (i := 12) (by kernel_rfl) rfl ?_
      intro K hK
      obtain ⟨hb7, hH7, hA7⟩ := (HSI.out _).1 hS
      have y0 := hRb.free 0
      have y1 := hRb.free 1
      have y2 := hRb.free 2
      have y3 := hRb.free 3
      have x0 := hRb.cell 0 _ rfl
      have x1 := hRb.cell 1 _ rfl
      have x2 := hRb.cell 2 _ rfl
      have x3 := hRb.cell 3 _ rfl
      obtain ⟨W9, hW9⟩ : ∃ W9, ((((W6.setCell ⟨r, 0, none⟩ (.int .i64 st)).setCell ⟨r, 1, none⟩ (.string ⟨re.toArray⟩)).setCell ⟨r, 2, none⟩ (.slice fo fn fc2)).setCell ⟨r, 3, none⟩ (.string ⟨bo.toArray⟩)) = W9 := ⟨_, rfl⟩
      have hS9 : S W9 := by rw [← hW9]; exact (HSI.out _).2 ⟨fourBelow hb7 HR.out (.int .i64 st) (.string ⟨re.toArray⟩) (.slice fo fn fc2) (.string ⟨bo.toArray⟩), fourOther hH7 (blk_ne hH7 hRb (by decide)) (.int .i64 st) (.string ⟨re.toArray⟩) (.slice fo fn fc2) (.string ⟨bo.toArray⟩), fourOther hA7 (blk_ne hA7 hRb (by decide)) (.int .i64 st) (.string ⟨re.toArray⟩) (.slice fo fn fc2) (.string ⟨bo.toArray⟩)⟩
      have hR9 : BlkIs W9 r #[(.int .i64 st), (.string ⟨re.toArray⟩), (.slice fo fn fc2), (.string ⟨bo.toArray⟩)] 46 := by rw [← hW9]; exact fourSet hRb rfl (.int .i64 st) (.string ⟨re.toArray⟩) (.slice fo fn fc2) (.string ⟨bo.toArray⟩)
      have hF9 : FldRow W9 (.slice fo fn fc2) L := by rw [← hW9]; exact fourFld hF6 hRb (.int .i64 st) (.string ⟨re.toArray⟩) (.slice fo fn fc2) (.string ⟨bo.toArray⟩)
      have HW9 := Lib.hid hW9
      clear hW9 hb7 hH7 hA7 hRb hF6 hS
      go_simp
      rw [HW9.out]
      refine hK _ _ hS9 ?_
      clear hK K HW9 x0 y0 x1 y1 x2 y2 x3 y3
      refine eachH_done (by kernel_rfl) ?_
      have HX := Lib.hid (And.intro hR9 (And.intro hF9 ((HSI.out _).1 hS9).1))
      clear hS9 hR9 hF9
      go_simp
      go_wp2
      refine bodyPost_ret (v := .agg (rC st ⟨re.toArray⟩ (.slice fo fn fc2) ⟨bo.toArray⟩)) ?r rfl ⟨_, rfl, HX.out.2.1, HX.out.2.2⟩
      case r => exact results_respC rfl _ _ r _ (0, 0) rfl HX.out.1 rfl
    · intro K hK
      obtain ⟨p, hp⟩ : ∃ p, W3.heap.size = p := ⟨_, rfl⟩
      obtain ⟨W4, hW4⟩ : ∃ W4, W3.alloc (.cells (vC 4 s c n t m me ta ma mi (.slice fa fl fc) (.pointer q)) 100) = W4 := ⟨_, rfl⟩
      have hab : Below W3.heap.size W3 W4 := by rw [← hW4]; exact below1 _ _
      have hP : BlkIs W4 p (vC 4 s c n t m me ta ma mi (.slice fa fl fc) (.pointer q)) 100 := by rw [← hW4, ← hp]; exact blkIs_new _ _ _
      have hS := HST.out _ _ hS hab
      have hRb := hRb.later hab
      try have hG := hG.later hab
      have HW4 := Lib.hid hW4
      clear hW4 hab
      go_simp
      rw [HW4.out]
      refine hK _ _ hS ?_
      clear hK K hp HW4
      refine eachH1 (i := 5) (by kernel_rfl) rfl ?_
      intro K hK
      have z0 : W4.cell? ⟨g, 32, none⟩ = some (.func (.func 53) #[] #[]) := hG.cell 32 _ rfl
      go_simp
      refine hK _ _ hS ?_
      clear hK K z0
      refine eachH1 (i := 11) (by kernel_rfl) rfl ?_
      intro K hK
      have HM := Lib.hid (HMT.out W4 p ((HSI.out _).1 hS).1 hP)
      clear hP
      go_simp
      refine (HM.out).mono ?_
      rintro e W6 ⟨fv, rfl, hF6, hb6⟩
      obtain ⟨fo, fn, fc2, rfl⟩ := hF6.shape
      have hS := HST.out _ _ hS hb6
      have hRb := hRb.later hb6
      refine hK _ _ hS ?_
      clear hK K hb6 HM
      refine eachH1 (i := 12) (by kernel_rfl) rfl ?_
      intro K hK
      obtain ⟨hb7, hH7, hA7⟩ := (HSI.out _).1 hS
      have y0 := hRb.free 0
      have y1 := hRb.free 1
      have y2 := hRb.free 2
      have y3 := hRb.free 3
      have x0 := hRb.cell 0 _ rfl
      have x1 := hRb.cell 1 _ rfl
      have x2 := hRb.cell 2 _ rfl
      have x3 := hRb.cell 3 _ rfl
      obtain ⟨W9, hW9⟩ : ∃ W9, ((((W6.setCell ⟨r, 0, none⟩ (.int .i64 st)).setCell ⟨r, 1, none⟩ (.string ⟨re.toArray⟩)).setCell ⟨r, 2, none⟩ (.slice fo fn fc2)).setCell ⟨r, 3, none⟩ (.string ⟨bo.toArray⟩)) = W9 := ⟨_, rfl⟩
      have hS9 : S W9 := by rw [← hW9]; exact (HSI.out _).2 ⟨fourBelow hb7 HR.out (.int .i64 st) (.string ⟨re.toArray⟩) (.slice fo fn fc2) (.string ⟨bo.toArray⟩), fourOther hH7 (blk_ne hH7 hRb (by decide)) (.int .i64 st) (.string ⟨re.toArray⟩) (.slice fo fn fc2) (.string ⟨bo.toArray⟩), fourOther hA7 (blk_ne hA7 hRb (by decide)) (.int .i64 st) (.string ⟨re.toArray⟩) (.slice fo fn fc2) (.string ⟨bo.toArray⟩)⟩
      have hR9 : BlkIs W9 r #[(.int .i64 st), (.string ⟨re.toArray⟩), (.slice fo fn fc2), (.string ⟨bo.toArray⟩)] 46 := by rw [← hW9]; exact fourSet hRb rfl (.int .i64 st) (.string ⟨re.toArray⟩) (.slice fo fn fc2) (.string ⟨bo.toArray⟩)
      have hF9 : FldRow W9 (.slice fo fn fc2) L := by rw [← hW9]; exact fourFld hF6 hRb (.int .i64 st) (.string ⟨re.toArray⟩) (.slice fo fn fc2) (.string ⟨bo.toArray⟩)
      have HW9 := Lib.hid hW9
      clear hW9 hb7 hH7 hA7 hRb hF6 hS
      go_simp
      rw [HW9.out]
      refine hK _ _ hS9 ?_
      clear hK K HW9 x0 y0 x1 y1 x2 y2 x3 y3
      refine eachH_done (by kernel_rfl) ?_
      have HX := Lib.hid (And.intro hR9 (And.intro hF9 ((HSI.out _).1 hS9).1))
      clear hS9 hR9 hF9
      go_simp
      go_wp2
      refine bodyPost_ret (v := .agg (rC st ⟨re.toArray⟩ (.slice fo fn fc2) ⟨bo.toArray⟩)) ?r rfl ⟨_, rfl, HX.out.2.1, HX.out.2.2⟩
      case r => exact results_respC rfl _ _ r _ (0, 0) rfl HX.out.1 rfl
  · intro K hK
    obtain ⟨p, hp⟩ : ∃ p, WD.heap.size = p := ⟨_, rfl⟩
    obtain ⟨W4, hW4⟩ : ∃ W4, WD.alloc (.cells (vC 4 s c n t m me ta ma mi (.slice fa fl fc) (.pointer q)) 100) = W4 := ⟨_, rfl⟩
    have hab : Below WD.heap.size WD W4 := by rw [← hW4]; exact below1 _ _
    have hP : BlkIs W4 p (vC 4 s c n t m me ta ma mi (.slice fa fl fc) (.pointer q)) 100 := by rw [← hW4, ← hp]; exact blkIs_new _ _ _
    have hS := HST.out _ _ hS hab
    have hRb := hRb.later hab
    try have hG := hG.later hab
    have HW4 := Lib.hid hW4
    clear hW4 hab
    go_simp
    rw [HW4.out]
    refine hK _ _ hS ?_
    clear hK K hp HW4
    refine eachH1 (i := 0) (by kernel_rfl) rfl ?_
    intro K hK
    go_simp
    refine (kinds_any _).mono ?_
    rintro e W3 ⟨rfl, hW3⟩
    obtain ⟨g, hg⟩ : ∃ g, W4.heap.size = g := ⟨_, rfl⟩
    try rw [hg]
    have hG : BlkIs W3 g kArr 74 := by rw [hW3, ← hg]; exact blkIs_new _ _ _
    have hcb : Below W4.heap.size W4 W3 := by rw [hW3]; exact below1 _ _
    have hS := HST.out _ _ hS hcb
    have hRb := hRb.later hcb
    try have hP := hP.later hcb
    refine hK _ _ hS ?_
    clear hK K hW3 hcb
    refine eachH_take (i := 3) rfl (by kernel_rfl) (by kernel_rfl) (by kernel_rfl) hS (v := ?_) ?_ ?_; rotate_left; · (intro W hS; clear hS; go_simp; with_reducible rfl)
    refine eachH_take (i := 4) rfl (by kernel_rfl) (by kernel_rfl) (by kernel_rfl) hS (v := ?_) ?_ ?_; rotate_left; · (intro W hS; clear hS; go_simp; with_reducible rfl)
    refine eachH1 (i := 5) (by kernel_rfl) rfl ?_
    intro K hK
    have z0 : W3.cell? ⟨g, 32, none⟩ = some (.func (.func 53) #[] #[]) := hG.cell 32 _ rfl
    go_simp
    refine hK _ _ hS ?_
    clear hK K z0
    refine eachH1 (i := 11) (by kernel_rfl) rfl ?_
    intro K hK
    have HM := Lib.hid (HMT.out W3 p ((HSI.out _).1 hS).1 hP)
    clear hP
    go_simp
    refine (HM.out).mono ?_
    rintro e W6 ⟨fv, rfl, hF6, hb6⟩
    obtain ⟨fo, fn, fc2, rfl⟩ := hF6.shape
    have hS := HST.out _ _ hS hb6
    have hRb := hRb.later hb6
    refine hK _ _ hS ?_
    clear hK K hb6 HM
    refine eachH1 (i := 12) (by kernel_rfl) rfl ?_
    intro K hK
    obtain ⟨hb7, hH7, hA7⟩ := (HSI.out _).1 hS
    have y0 := hRb.free 0
    have y1 := hRb.free 1
    have y2 := hRb.free 2
    have y3 := hRb.free 3
    have x0 := hRb.cell 0 _ rfl
    have x1 := hRb.cell 1 _ rfl
    have x2 := hRb.cell 2 _ rfl
    have x3 := hRb.cell 3 _ rfl
    obtain ⟨W9, hW9⟩ : ∃ W9, ((((W6.setCell ⟨r, 0, none⟩ (.int .i64 st)).setCell ⟨r, 1, none⟩ (.string ⟨re.toArray⟩)).setCell ⟨r, 2, none⟩ (.slice fo fn fc2)).setCell ⟨r, 3, none⟩ (.string ⟨bo.toArray⟩)) = W9 := ⟨_, rfl⟩
    have hS9 : S W9 := by rw [← hW9]; exact (HSI.out _).2 ⟨fourBelow hb7 HR.out (.int .i64 st) (.string ⟨re.toArray⟩) (.slice fo fn fc2) (.string ⟨bo.toArray⟩), fourOther hH7 (blk_ne hH7 hRb (by decide)) (.int .i64 st) (.string ⟨re.toArray⟩) (.slice fo fn fc2) (.string ⟨bo.toArray⟩), fourOther hA7 (blk_ne hA7 hRb (by decide)) (.int .i64 st) (.string ⟨re.toArray⟩) (.slice fo fn fc2) (.string ⟨bo.toArray⟩)⟩
    have hR9 : BlkIs W9 r #[(.int .i64 st), (.string ⟨re.toArray⟩), (.slice fo fn fc2), (.string ⟨bo.toArray⟩)] 46 := by rw [← hW9]; exact fourSet hRb rfl (.int .i64 st) (.string ⟨re.toArray⟩) (.slice fo fn fc2) (.string ⟨bo.toArray⟩)
    have hF9 : FldRow W9 (.slice fo fn fc2) L := by rw [← hW9]; exact fourFld hF6 hRb (.int .i64 st) (.string ⟨re.toArray⟩) (.slice fo fn fc2) (.string ⟨bo.toArray⟩)
    have HW9 := Lib.hid hW9
    clear hW9 hb7 hH7 hA7 hRb hF6 hS
    go_simp
    rw [HW9.out]
    refine hK _ _ hS9 ?_
    clear hK K HW9 x0 y0 x1 y1 x2 y2 x3 y3
    refine eachH_done (by kernel_rfl) ?_
    have HX := Lib.hid (And.intro hR9 (And.intro hF9 ((HSI.out _).1 hS9).1))
    clear hS9 hR9 hF9
    go_simp
    go_wp2
    refine bodyPost_ret (v := .agg (rC st ⟨re.toArray⟩ (.slice fo fn fc2) ⟨bo.toArray⟩)) ?r rfl ⟨_, rfl, HX.out.2.1, HX.out.2.2⟩
    case r => exact results_respC rfl _ _ r _ (0, 0) rfl HX.out.1 rfl
set_option maxHeartbeats 16000000 in
theorem oanswer8_any (s c ma mi st : Int) (n t m me ta : ByteArray) (fa q : Option Addr) (fl fc : Nat) (re bo : List UInt8) (L : List Fld) (w : World)
    (hC : ∀ W, Below w.heap.size w W → Calls Tryz.prog 9 #[.agg (hdC 8 n t m s c)] W fun e w' => e = .returned (.int .i64 0) ∧ Below W.heap.size W w')
    (hM : ∀ W p, Below w.heap.size w W → BlkIs W p (vC 8 s c n t m me ta ma mi (.slice fa fl fc) (.pointer q)) 100 → Calls Tryz.prog 60 #[.pointer (some ⟨p, 0, none⟩)] W (RespIs st re L bo W)) :
    Calls Tryz.prog 24 #[.agg (hdC 8 n t m s c), .agg (asC me ta ma mi (.slice fa fl fc)), .pointer q] w (RespIs st re L bo w) := by
  obtain ⟨h, hh⟩ : ∃ h, w.heap.size = h := ⟨_, rfl⟩
  obtain ⟨b, hb⟩ : ∃ b, h + 1 = b := ⟨_, rfl⟩
  obtain ⟨r, hr⟩ : ∃ r, b + 1 = r := ⟨_, rfl⟩
  obtain ⟨W2, hW2⟩ : ∃ W2, ((w.alloc (.cells (hdC 8 n t m s c) 23)).alloc (.cells (asC me ta ma mi (.slice fa fl fc)) 68)).alloc (.cells zR 46) = W2 := ⟨_, rfl⟩
  have hb2 : Below w.heap.size w W2 := by rw [← hW2]; exact ((below1 w _).alloc (by simp) _).alloc (by simp; omega) _
  have hH2 : BlkIs W2 h (hdC 8 n t m s c) 23 := by rw [← hW2, ← hh]; exact ((blkIs_new w _ _).alloc _).alloc _
  have hA2 : BlkIs W2 b (asC me ta ma mi (.slice fa fl fc)) 68 := by rw [← hW2, ← hb, ← hh]; have := blkIs_new (w.alloc (.cells (hdC 8 n t m s c) 23)) (asC me ta ma mi (.slice fa fl fc)) 68; rw [World.size_alloc] at this; exact this.alloc _
  have hR2 : BlkIs W2 r zR 46 := by rw [← hW2, ← hr, ← hb, ← hh]; have := blkIs_new ((w.alloc (.cells (hdC 8 n t m s c) 23)).alloc (.cells (asC me ta ma mi (.slice fa fl fc)) 68)) zR 46; rw [World.size_alloc, World.size_alloc] at this; exact this
  obtain ⟨S, hSd⟩ : ∃ S : World → Prop, (fun W => Below w.heap.size w W ∧ BlkIs W h (hdC 8 n t m s c) 23 ∧ BlkIs W b (asC me ta ma mi (.slice fa fl fc)) 68) = S := ⟨_, rfl⟩
  have hSi : ∀ W, S W ↔ (Below w.heap.size w W ∧ BlkIs W h (hdC 8 n t m s c) 23 ∧ BlkIs W b (asC me ta ma mi (.slice fa fl fc)) 68) := fun W => by rw [← hSd]
  have hst : ∀ W W', S W → Below W.heap.size W W' → S W' := fun W W' h hb => by
    rw [hSi] at h ⊢
    exact ⟨h.1.trans (hb.mono h.1.size), h.2.1.later hb, h.2.2.later hb⟩
  have HR := Lib.hid (show w.heap.size ≤ r by omega)
  have HI2 := Lib.hid (And.intro (show S W2 by rw [hSi]; exact ⟨hb2, hH2, hA2⟩) hR2)
  have HST := Lib.hid hst; have HSI := Lib.hid hSi; have HW2 := Lib.hid hW2; have HCT := Lib.hid hC; have HMT := Lib.hid hM
  have a0 : W2.cell? ⟨h, 0, none⟩ = some (.int .i64 8) := hH2.cell 0 _ rfl
  have a1 : W2.cell? ⟨h, 1, none⟩ = some (.string n) := hH2.cell 1 _ rfl
  have a2 : W2.cell? ⟨h, 2, none⟩ = some (.string t) := hH2.cell 2 _ rfl
  have a3 : W2.cell? ⟨h, 3, none⟩ = some (.string m) := hH2.cell 3 _ rfl
  have a4 : W2.cell? ⟨h, 4, none⟩ = some (.int .i64 s) := hH2.cell 4 _ rfl
  have a5 : W2.cell? ⟨h, 5, none⟩ = some (.int .i64 c) := hH2.cell 5 _ rfl
  clear hSd hSi hst hW2 hb2 hH2 hA2 hR2 hC hM
  go_enter Tryz.func24, Tryz.ntmps24
  go_upto_region 1 with fail
  rw [HW2.out]
  have HC2 := Lib.hid (HCT.out W2 ((HSI.out _).1 HI2.out.1).1)
  go_wp2_with fail
  refine (HC2.out).mono ?_
  rintro e w3 ⟨rfl, hb3⟩
  have HI3 := Lib.hid (And.intro (HST.out _ _ HI2.out.1 hb3) (HI2.out.2.later hb3))
  clear hb3 a0 a1 a2 a3 a4 a5
  go_upto_region 3 with fail
  refine wp_region_eachH S 13 (by kernel_rfl) (by kernel_rfl) ?_
  have hS := HST.out _ _ HI3.out.1 ((Below.refl _ w3).drew)
  have hRb := HI3.out.2.later ((Below.refl _ w3).drew)
  obtain ⟨WD, hWD⟩ : ∃ W, w3.drew = W := ⟨_, rfl⟩
  rw [hWD] at hS hRb ⊢
  clear hWD
  refine eachH_take (i := 1) rfl (by kernel_rfl) (by kernel_rfl) (by kernel_rfl) hS (v := ?_) ?_ ?_; rotate_left; · (intro W hS; obtain ⟨_, s1, s2⟩ := (HSI.out W).1 hS; have t0 : W.cell? ⟨h, 0, none⟩ = some (.int .i64 8) := s1.cell 0 _ rfl; have t1 : W.cell? ⟨h, 1, none⟩ = some (.string n) := s1.cell 1 _ rfl; have t2 : W.cell? ⟨h, 2, none⟩ = some (.string t) := s1.cell 2 _ rfl; have t3 : W.cell? ⟨h, 3, none⟩ = some (.string m) := s1.cell 3 _ rfl; have t4 : W.cell? ⟨h, 4, none⟩ = some (.int .i64 s) := s1.cell 4 _ rfl; have t5 : W.cell? ⟨h, 5, none⟩ = some (.int .i64 c) := s1.cell 5 _ rfl; have r0 : W.cell? ⟨b, 0, none⟩ = some (.string me) := s2.cell 0 _ rfl; have r1 : W.cell? ⟨b, 1, none⟩ = some (.string ta) := s2.cell 1 _ rfl; have r2 : W.cell? ⟨b, 2, none⟩ = some (.int .i64 ma) := s2.cell 2 _ rfl; have r3 : W.cell? ⟨b, 3, none⟩ = some (.int .i64 mi) := s2.cell 3 _ rfl; have r4 : W.cell? ⟨b, 4, none⟩ = some (.slice fa fl fc) := s2.cell 4 _ rfl; have r5 : W.cell? ⟨b, 5, none⟩ = some (.string ⟨#[]⟩) := s2.cell 5 _ rfl; have r6 : W.cell? ⟨b, 6, none⟩ = some (.slice none 0 0) := s2.cell 6 _ rfl; have r7 : W.cell? ⟨b, 7, none⟩ = some (.int .i64 0) := s2.cell 7 _ rfl; have r8 : W.cell? ⟨b, 8, none⟩ = some (.string ⟨#[]⟩) := s2.cell 8 _ rfl; have r9 : W.cell? ⟨b, 9, none⟩ = some (.int .i64 0) := s2.cell 9 _ rfl; have r10 : W.cell? ⟨b, 10, none⟩ = some (.string ⟨#[]⟩) := s2.cell 10 _ rfl; have r11 : W.cell? ⟨b, 11, none⟩ = some (.string ⟨#[]⟩) := s2.cell 11 _ rfl; have r12 : W.cell? ⟨b, 12, none⟩ = some (.bool false) := s2.cell 12 _ rfl; have r13 : W.cell? ⟨b, 13, none⟩ = some (.slice none 0 0) := s2.cell 13 _ rfl; have r14 : W.cell? ⟨b, 14, none⟩ = some (.int .i64 0) := s2.cell 14 _ rfl; clear s1 s2 hS; go_simp; with_reducible rfl)
  refine eachH_take (i := 2) rfl (by kernel_rfl) (by kernel_rfl) (by kernel_rfl) hS (v := ?_) ?_ ?_; rotate_left; · (intro W hS; obtain ⟨_, s1, s2⟩ := (HSI.out W).1 hS; have t0 : W.cell? ⟨h, 0, none⟩ = some (.int .i64 8) := s1.cell 0 _ rfl; have t1 : W.cell? ⟨h, 1, none⟩ = some (.string n) := s1.cell 1 _ rfl; have t2 : W.cell? ⟨h, 2, none⟩ = some (.string t) := s1.cell 2 _ rfl; have t3 : W.cell? ⟨h, 3, none⟩ = some (.string m) := s1.cell 3 _ rfl; have t4 : W.cell? ⟨h, 4, none⟩ = some (.int .i64 s) := s1.cell 4 _ rfl; have t5 : W.cell? ⟨h, 5, none⟩ = some (.int .i64 c) := s1.cell 5 _ rfl; have r0 : W.cell? ⟨b, 0, none⟩ = some (.string me) := s2.cell 0 _ rfl; have r1 : W.cell? ⟨b, 1, none⟩ = some (.string ta) := s2.cell 1 _ rfl; have r2 : W.cell? ⟨b, 2, none⟩ = some (.int .i64 ma) := s2.cell 2 _ rfl; have r3 : W.cell? ⟨b, 3, none⟩ = some (.int .i64 mi) := s2.cell 3 _ rfl; have r4 : W.cell? ⟨b, 4, none⟩ = some (.slice fa fl fc) := s2.cell 4 _ rfl; have r5 : W.cell? ⟨b, 5, none⟩ = some (.string ⟨#[]⟩) := s2.cell 5 _ rfl; have r6 : W.cell? ⟨b, 6, none⟩ = some (.slice none 0 0) := s2.cell 6 _ rfl; have r7 : W.cell? ⟨b, 7, none⟩ = some (.int .i64 0) := s2.cell 7 _ rfl; have r8 : W.cell? ⟨b, 8, none⟩ = some (.string ⟨#[]⟩) := s2.cell 8 _ rfl; have r9 : W.cell? ⟨b, 9, none⟩ = some (.int .i64 0) := s2.cell 9 _ rfl; have r10 : W.cell? ⟨b, 10, none⟩ = some (.string ⟨#[]⟩) := s2.cell 10 _ rfl; have r11 : W.cell? ⟨b, 11, none⟩ = some (.string ⟨#[]⟩) := s2.cell 11 _ rfl; have r12 : W.cell? ⟨b, 12, none⟩ = some (.bool false) := s2.cell 12 _ rfl; have r13 : W.cell? ⟨b, 13, none⟩ = some (.slice none 0 0) := s2.cell 13 _ rfl; have r14 : W.cell? ⟨b, 14, none⟩ = some (.int .i64 0) := s2.cell 14 _ rfl; clear s1 s2 hS; go_simp; with_reducible rfl)
  refine eachH_take (i := 6) rfl (by kernel_rfl) (by kernel_rfl) (by kernel_rfl) hS (v := ?_) ?_ ?_; rotate_left; · (intro W hS; obtain ⟨_, s1, s2⟩ := (HSI.out W).1 hS; have t0 : W.cell? ⟨h, 0, none⟩ = some (.int .i64 8) := s1.cell 0 _ rfl; have t1 : W.cell? ⟨h, 1, none⟩ = some (.string n) := s1.cell 1 _ rfl; have t2 : W.cell? ⟨h, 2, none⟩ = some (.string t) := s1.cell 2 _ rfl; have t3 : W.cell? ⟨h, 3, none⟩ = some (.string m) := s1.cell 3 _ rfl; have t4 : W.cell? ⟨h, 4, none⟩ = some (.int .i64 s) := s1.cell 4 _ rfl; have t5 : W.cell? ⟨h, 5, none⟩ = some (.int .i64 c) := s1.cell 5 _ rfl; have r0 : W.cell? ⟨b, 0, none⟩ = some (.string me) := s2.cell 0 _ rfl; have r1 : W.cell? ⟨b, 1, none⟩ = some (.string ta) := s2.cell 1 _ rfl; have r2 : W.cell? ⟨b, 2, none⟩ = some (.int .i64 ma) := s2.cell 2 _ rfl; have r3 : W.cell? ⟨b, 3, none⟩ = some (.int .i64 mi) := s2.cell 3 _ rfl; have r4 : W.cell? ⟨b, 4, none⟩ = some (.slice fa fl fc) := s2.cell 4 _ rfl; have r5 : W.cell? ⟨b, 5, none⟩ = some (.string ⟨#[]⟩) := s2.cell 5 _ rfl; have r6 : W.cell? ⟨b, 6, none⟩ = some (.slice none 0 0) := s2.cell 6 _ rfl; have r7 : W.cell? ⟨b, 7, none⟩ = some (.int .i64 0) := s2.cell 7 _ rfl; have r8 : W.cell? ⟨b, 8, none⟩ = some (.string ⟨#[]⟩) := s2.cell 8 _ rfl; have r9 : W.cell? ⟨b, 9, none⟩ = some (.int .i64 0) := s2.cell 9 _ rfl; have r10 : W.cell? ⟨b, 10, none⟩ = some (.string ⟨#[]⟩) := s2.cell 10 _ rfl; have r11 : W.cell? ⟨b, 11, none⟩ = some (.string ⟨#[]⟩) := s2.cell 11 _ rfl; have r12 : W.cell? ⟨b, 12, none⟩ = some (.bool false) := s2.cell 12 _ rfl; have r13 : W.cell? ⟨b, 13, none⟩ = some (.slice none 0 0) := s2.cell 13 _ rfl; have r14 : W.cell? ⟨b, 14, none⟩ = some (.int .i64 0) := s2.cell 14 _ rfl; clear s1 s2 hS; go_simp; with_reducible rfl)
  refine eachH_take (i := 7) rfl (by kernel_rfl) (by kernel_rfl) (by kernel_rfl) hS (v := ?_) ?_ ?_; rotate_left; · (intro W hS; obtain ⟨_, s1, s2⟩ := (HSI.out W).1 hS; have t0 : W.cell? ⟨h, 0, none⟩ = some (.int .i64 8) := s1.cell 0 _ rfl; have t1 : W.cell? ⟨h, 1, none⟩ = some (.string n) := s1.cell 1 _ rfl; have t2 : W.cell? ⟨h, 2, none⟩ = some (.string t) := s1.cell 2 _ rfl; have t3 : W.cell? ⟨h, 3, none⟩ = some (.string m) := s1.cell 3 _ rfl; have t4 : W.cell? ⟨h, 4, none⟩ = some (.int .i64 s) := s1.cell 4 _ rfl; have t5 : W.cell? ⟨h, 5, none⟩ = some (.int .i64 c) := s1.cell 5 _ rfl; have r0 : W.cell? ⟨b, 0, none⟩ = some (.string me) := s2.cell 0 _ rfl; have r1 : W.cell? ⟨b, 1, none⟩ = some (.string ta) := s2.cell 1 _ rfl; have r2 : W.cell? ⟨b, 2, none⟩ = some (.int .i64 ma) := s2.cell 2 _ rfl; have r3 : W.cell? ⟨b, 3, none⟩ = some (.int .i64 mi) := s2.cell 3 _ rfl; have r4 : W.cell? ⟨b, 4, none⟩ = some (.slice fa fl fc) := s2.cell 4 _ rfl; have r5 : W.cell? ⟨b, 5, none⟩ = some (.string ⟨#[]⟩) := s2.cell 5 _ rfl; have r6 : W.cell? ⟨b, 6, none⟩ = some (.slice none 0 0) := s2.cell 6 _ rfl; have r7 : W.cell? ⟨b, 7, none⟩ = some (.int .i64 0) := s2.cell 7 _ rfl; have r8 : W.cell? ⟨b, 8, none⟩ = some (.string ⟨#[]⟩) := s2.cell 8 _ rfl; have r9 : W.cell? ⟨b, 9, none⟩ = some (.int .i64 0) := s2.cell 9 _ rfl; have r10 : W.cell? ⟨b, 10, none⟩ = some (.string ⟨#[]⟩) := s2.cell 10 _ rfl; have r11 : W.cell? ⟨b, 11, none⟩ = some (.string ⟨#[]⟩) := s2.cell 11 _ rfl; have r12 : W.cell? ⟨b, 12, none⟩ = some (.bool false) := s2.cell 12 _ rfl; have r13 : W.cell? ⟨b, 13, none⟩ = some (.slice none 0 0) := s2.cell 13 _ rfl; have r14 : W.cell? ⟨b, 14, none⟩ = some (.int .i64 0) := s2.cell 14 _ rfl; clear s1 s2 hS; go_simp; with_reducible rfl)
  refine eachH_take (i := 8) rfl (by kernel_rfl) (by kernel_rfl) (by kernel_rfl) hS (v := ?_) ?_ ?_; rotate_left; · (intro W hS; clear hS; go_simp; with_reducible rfl)
  refine eachH_take (i := 9) rfl (by kernel_rfl) (by kernel_rfl) (by kernel_rfl) hS (v := ?_) ?_ ?_; rotate_left; · (intro W hS; clear hS; go_simp; with_reducible rfl)
  refine eachH2 (i := 0) (j := 10) (by kernel_rfl) rfl rfl ?_ ?_
  · intro K hK
    go_simp
    refine (kinds_any _).mono ?_
    rintro e W3 ⟨rfl, hW3⟩
    obtain ⟨g, hg⟩ : ∃ g, WD.heap.size = g := ⟨_, rfl⟩
    try rw [hg]
    have hG : BlkIs W3 g kArr 74 := by rw [hW3, ← hg]; exact blkIs_new _ _ _
    have hcb : Below WD.heap.size WD W3 := by rw [hW3]; exact below1 _ _
    have hS := HST.out _ _ hS hcb
    have hRb := hRb.later hcb
    try have hP := hP.later hcb
    refine hK _ _ hS ?_
    clear hK K hW3 hcb
    refine eachH_take (i := 3) rfl (by kernel_rfl) (by kernel_rfl) (by kernel_rfl) hS (v := ?_) ?_ ?_; rotate_left; · (intro W hS; clear hS; go_simp; with_reducible rfl)
    refine eachH_take (i := 4) rfl (by kernel_rfl) (by kernel_rfl) (by kernel_rfl) hS (v := ?_) ?_ ?_; rotate_left; · (intro W hS; clear hS; go_simp; with_reducible rfl)
    refine eachH2 (i := 5) (j := 10) (by kernel_rfl) rfl rfl ?_ ?_
    · intro K hK
      have z0 : W3.cell? ⟨g, 64, none⟩ = some (.func (.func 60) #[] #[]) := hG.cell 64 _ rfl
      go_simp
      refine hK _ _ hS ?_
      clear hK K z0
      refine eachH1 (i := 10) (by kernel_rfl) rfl ?_
      intro K hK
      obtain ⟨p, hp⟩ : ∃ p, W3.heap.size = p := ⟨_, rfl⟩
      obtain ⟨W4, hW4⟩ : ∃ W4, W3.alloc (.cells (vC 8 s c n t m me ta ma mi (.slice fa fl fc) (.pointer q)) 100) = W4 := ⟨_, rfl⟩
      have hab : Below W3.heap.size W3 W4 := by rw [← hW4]; exact below1 _ _
      have hP : BlkIs W4 p (vC 8 s c n t m me ta ma mi (.slice fa fl fc) (.pointer q)) 100 := by rw [← hW4, ← hp]; exact blkIs_new _ _ _
      have hS := HST.out _ _ hS hab
      have hRb := hRb.later hab
      try have hG := hG.later hab
      have HW4 := Lib.hid hW4
      clear hW4 hab
      go_simp
      rw [HW4.out]
      refine hK _ _ hS ?_
      clear hK K hp HW4
      refine eachH1 (i := 11) (by kernel_rfl) rfl ?_
      intro K hK
      have HM := Lib.hid (HMT.out W4 p ((HSI.out _).1 hS).1 hP)
      clear hP
      go_simp
      refine (HM.out).mono ?_
      rintro e W6 ⟨fv, rfl, hF6, hb6⟩
      obtain ⟨fo, fn, fc2, rfl⟩ := hF6.shape
      have hS := HST.out _ _ hS hb6
      have hRb := hRb.later hb6
      refine hK _ _ hS ?_
      clear hK K hb6 HM
      refine eachH1 (i := 12) (by kernel_rfl) rfl ?_
      intro K hK
      obtain ⟨hb7, hH7, hA7⟩ := (HSI.out _).1 hS
      have y0 := hRb.free 0
      have y1 := hRb.free 1
      have y2 := hRb.free 2
      have y3 := hRb.free 3
      have x0 := hRb.cell 0 _ rfl
      have x1 := hRb.cell 1 _ rfl
      have x2 := hRb.cell 2 _ rfl
      have x3 := hRb.cell 3 _ rfl
      obtain ⟨W9, hW9⟩ : ∃ W9, ((((W6.setCell ⟨r, 0, none⟩ (.int .i64 st)).setCell ⟨r, 1, none⟩ (.string ⟨re.toArray⟩)).setCell ⟨r, 2, none⟩ (.slice fo fn fc2)).setCell ⟨r, 3, none⟩ (.string ⟨bo.toArray⟩)) = W9 := ⟨_, rfl⟩
      have hS9 : S W9 := by rw [← hW9]; exact (HSI.out _).2 ⟨fourBelow hb7 HR.out (.int .i64 st) (.string ⟨re.toArray⟩) (.slice fo fn fc2) (.string ⟨bo.toArray⟩), fourOther hH7 (blk_ne hH7 hRb (by decide)) (.int .i64 st) (.string ⟨re.toArray⟩) (.slice fo fn fc2) (.string ⟨bo.toArray⟩), fourOther hA7 (blk_ne hA7 hRb (by decide)) (.int .i64 st) (.string ⟨re.toArray⟩) (.slice fo fn fc2) (.string ⟨bo.toArray⟩)⟩
      have hR9 : BlkIs W9 r #[(.int .i64 st), (.string ⟨re.toArray⟩), (.slice fo fn fc2), (.string ⟨bo.toArray⟩)] 46 := by rw [← hW9]; exact fourSet hRb rfl (.int .i64 st) (.string ⟨re.toArray⟩) (.slice fo fn fc2) (.string ⟨bo.toArray⟩)
      have hF9 : FldRow W9 (.slice fo fn fc2) L := by rw [← hW9]; exact fourFld hF6 hRb (.int .i64 st) (.string ⟨re.toArray⟩) (.slice fo fn fc2) (.string ⟨bo.toArray⟩)
      have HW9 := Lib.hid hW9
      clear hW9 hb7 hH7 hA7 hRb hF6 hS
      go_simp
      rw [HW9.out]
      refine hK _ _ hS9 ?_
      clear hK K HW9 x0 y0 x1 y1 x2 y2 x3 y3
      refine eachH_done (by kernel_rfl) ?_
      have HX := Lib.hid (And.intro hR9 (And.intro hF9 ((HSI.out _).1 hS9).1))
      clear hS9 hR9 hF9
      go_simp
      go_wp2
      refine bodyPost_ret (v := .agg (rC st ⟨re.toArray⟩ (.slice fo fn fc2) ⟨bo.toArray⟩)) ?r rfl ⟨_, rfl, HX.out.2.1, HX.out.2.2⟩
      case r => exact results_respC rfl _ _ r _ (0, 0) rfl HX.out.1 rfl
    · intro K hK
      obtain ⟨p, hp⟩ : ∃ p, W3.heap.size = p := ⟨_, rfl⟩
      obtain ⟨W4, hW4⟩ : ∃ W4, W3.alloc (.cells (vC 8 s c n t m me ta ma mi (.slice fa fl fc) (.pointer q)) 100) = W4 := ⟨_, rfl⟩
      have hab : Below W3.heap.size W3 W4 := by rw [← hW4]; exact below1 _ _
      have hP : BlkIs W4 p (vC 8 s c n t m me ta ma mi (.slice fa fl fc) (.pointer q)) 100 := by rw [← hW4, ← hp]; exact blkIs_new _ _ _
      have hS := HST.out _ _ hS hab
      have hRb := hRb.later hab
      try have hG := hG.later hab
      have HW4 := Lib.hid hW4
      clear hW4 hab
      go_simp
      rw [HW4.out]
      refine hK _ _ hS ?_
      clear hK K hp HW4
      refine eachH1 (i := 5) (by kernel_rfl) rfl ?_
      intro K hK
      have z0 : W4.cell? ⟨g, 64, none⟩ = some (.func (.func 60) #[] #[]) := hG.cell 64 _ rfl
      go_simp
      refine hK _ _ hS ?_
      clear hK K z0
      refine eachH1 (i := 11) (by kernel_rfl) rfl ?_
      intro K hK
      have HM := Lib.hid (HMT.out W4 p ((HSI.out _).1 hS).1 hP)
      clear hP
      go_simp
      refine (HM.out).mono ?_
      rintro e W6 ⟨fv, rfl, hF6, hb6⟩
      obtain ⟨fo, fn, fc2, rfl⟩ := hF6.shape
      have hS := HST.out _ _ hS hb6
      have hRb := hRb.later hb6
      refine hK _ _ hS ?_
      clear hK K hb6 HM
      refine eachH1 (i := 12) (by kernel_rfl) rfl ?_
      intro K hK
      obtain ⟨hb7, hH7, hA7⟩ := (HSI.out _).1 hS
      have y0 := hRb.free 0
      have y1 := hRb.free 1
      have y2 := hRb.free 2
      have y3 := hRb.free 3
      have x0 := hRb.cell 0 _ rfl
      have x1 := hRb.cell 1 _ rfl
      have x2 := hRb.cell 2 _ rfl
      have x3 := hRb.cell 3 _ rfl
      obtain ⟨W9, hW9⟩ : ∃ W9, ((((W6.setCell ⟨r, 0, none⟩ (.int .i64 st)).setCell ⟨r, 1, none⟩ (.string ⟨re.toArray⟩)).setCell ⟨r, 2, none⟩ (.slice fo fn fc2)).setCell ⟨r, 3, none⟩ (.string ⟨bo.toArray⟩)) = W9 := ⟨_, rfl⟩
      have hS9 : S W9 := by rw [← hW9]; exact (HSI.out _).2 ⟨fourBelow hb7 HR.out (.int .i64 st) (.string ⟨re.toArray⟩) (.slice fo fn fc2) (.string ⟨bo.toArray⟩), fourOther hH7 (blk_ne hH7 hRb (by decide)) (.int .i64 st) (.string ⟨re.toArray⟩) (.slice fo fn fc2) (.string ⟨bo.toArray⟩), fourOther hA7 (blk_ne hA7 hRb (by decide)) (.int .i64 st) (.string ⟨re.toArray⟩) (.slice fo fn fc2) (.string ⟨bo.toArray⟩)⟩
      have hR9 : BlkIs W9 r #[(.int .i64 st), (.string ⟨re.toArray⟩), (.slice fo fn fc2), (.string ⟨bo.toArray⟩)] 46 := by rw [← hW9]; exact fourSet hRb rfl (.int .i64 st) (.string ⟨re.toArray⟩) (.slice fo fn fc2) (.string ⟨bo.toArray⟩)
      have hF9 : FldRow W9 (.slice fo fn fc2) L := by rw [← hW9]; exact fourFld hF6 hRb (.int .i64 st) (.string ⟨re.toArray⟩) (.slice fo fn fc2) (.string ⟨bo.toArray⟩)
      have HW9 := Lib.hid hW9
      clear hW9 hb7 hH7 hA7 hRb hF6 hS
      go_simp
      rw [HW9.out]
      refine hK _ _ hS9 ?_
      clear hK K HW9 x0 y0 x1 y1 x2 y2 x3 y3
      refine eachH_done (by kernel_rfl) ?_
      have HX := Lib.hid (And.intro hR9 (And.intro hF9 ((HSI.out _).1 hS9).1))
      clear hS9 hR9 hF9
      go_simp
      go_wp2
      refine bodyPost_ret (v := .agg (rC st ⟨re.toArray⟩ (.slice fo fn fc2) ⟨bo.toArray⟩)) ?r rfl ⟨_, rfl, HX.out.2.1, HX.out.2.2⟩
      case r => exact results_respC rfl _ _ r _ (0, 0) rfl HX.out.1 rfl
  · intro K hK
    obtain ⟨p, hp⟩ : ∃ p, WD.heap.size = p := ⟨_, rfl⟩
    obtain ⟨W4, hW4⟩ : ∃ W4, WD.alloc (.cells (vC 8 s c n t m me ta ma mi (.slice fa fl fc) (.pointer q)) 100) = W4 := ⟨_, rfl⟩
    have hab : Below WD.heap.size WD W4 := by rw [← hW4]; exact below1 _ _
    have hP : BlkIs W4 p (vC 8 s c n t m me ta ma mi (.slice fa fl fc) (.pointer q)) 100 := by rw [← hW4, ← hp]; exact blkIs_new _ _ _
    have hS := HST.out _ _ hS hab
    have hRb := hRb.later hab
    try have hG := hG.later hab
    have HW4 := Lib.hid hW4
    clear hW4 hab
    go_simp
    rw [HW4.out]
    refine hK _ _ hS ?_
    clear hK K hp HW4
    refine eachH1 (i := 0) (by kernel_rfl) rfl ?_
    intro K hK
    go_simp
    refine (kinds_any _).mono ?_
    rintro e W3 ⟨rfl, hW3⟩
    obtain ⟨g, hg⟩ : ∃ g, W4.heap.size = g := ⟨_, rfl⟩
    try rw [hg]
    have hG : BlkIs W3 g kArr 74 := by rw [hW3, ← hg]; exact blkIs_new _ _ _
    have hcb : Below W4.heap.size W4 W3 := by rw [hW3]; exact below1 _ _
    have hS := HST.out _ _ hS hcb
    have hRb := hRb.later hcb
    try have hP := hP.later hcb
    refine hK _ _ hS ?_
    clear hK K hW3 hcb
    refine eachH_take (i := 3) rfl (by kernel_rfl) (by kernel_rfl) (by kernel_rfl) hS (v := ?_) ?_ ?_; rotate_left; · (intro W hS; clear hS; go_simp; with_reducible rfl)
    refine eachH_take (i := 4) rfl (by kernel_rfl) (by kernel_rfl) (by kernel_rfl) hS (v := ?_) ?_ ?_; rotate_left; · (intro W hS; clear hS; go_simp; with_reducible rfl)
    refine eachH1 (i := 5) (by kernel_rfl) rfl ?_
    intro K hK
    have z0 : W3.cell? ⟨g, 64, none⟩ = some (.func (.func 60) #[] #[]) := hG.cell 64 _ rfl
    go_simp
    refine hK _ _ hS ?_
    clear hK K z0
    refine eachH1 (i := 11) (by kernel_rfl) rfl ?_
    intro K hK
    have HM := Lib.hid (HMT.out W3 p ((HSI.out _).1 hS).1 hP)
    clear hP
    go_simp
    refine (HM.out).mono ?_
    rintro e W6 ⟨fv, rfl, hF6, hb6⟩
    obtain ⟨fo, fn, fc2, rfl⟩ := hF6.shape
    have hS := HST.out _ _ hS hb6
    have hRb := hRb.later hb6
    refine hK _ _ hS ?_
    clear hK K hb6 HM
    refine eachH1 (i := 12) (by kernel_rfl) rfl ?_
    intro K hK
    obtain ⟨hb7, hH7, hA7⟩ := (HSI.out _).1 hS
    have y0 := hRb.free 0
    have y1 := hRb.free 1
    have y2 := hRb.free 2
    have y3 := hRb.free 3
    have x0 := hRb.cell 0 _ rfl
    have x1 := hRb.cell 1 _ rfl
    have x2 := hRb.cell 2 _ rfl
    have x3 := hRb.cell 3 _ rfl
    obtain ⟨W9, hW9⟩ : ∃ W9, ((((W6.setCell ⟨r, 0, none⟩ (.int .i64 st)).setCell ⟨r, 1, none⟩ (.string ⟨re.toArray⟩)).setCell ⟨r, 2, none⟩ (.slice fo fn fc2)).setCell ⟨r, 3, none⟩ (.string ⟨bo.toArray⟩)) = W9 := ⟨_, rfl⟩
    have hS9 : S W9 := by rw [← hW9]; exact (HSI.out _).2 ⟨fourBelow hb7 HR.out (.int .i64 st) (.string ⟨re.toArray⟩) (.slice fo fn fc2) (.string ⟨bo.toArray⟩), fourOther hH7 (blk_ne hH7 hRb (by decide)) (.int .i64 st) (.string ⟨re.toArray⟩) (.slice fo fn fc2) (.string ⟨bo.toArray⟩), fourOther hA7 (blk_ne hA7 hRb (by decide)) (.int .i64 st) (.string ⟨re.toArray⟩) (.slice fo fn fc2) (.string ⟨bo.toArray⟩)⟩
    have hR9 : BlkIs W9 r #[(.int .i64 st), (.string ⟨re.toArray⟩), (.slice fo fn fc2), (.string ⟨bo.toArray⟩)] 46 := by rw [← hW9]; exact fourSet hRb rfl (.int .i64 st) (.string ⟨re.toArray⟩) (.slice fo fn fc2) (.string ⟨bo.toArray⟩)
    have hF9 : FldRow W9 (.slice fo fn fc2) L := by rw [← hW9]; exact fourFld hF6 hRb (.int .i64 st) (.string ⟨re.toArray⟩) (.slice fo fn fc2) (.string ⟨bo.toArray⟩)
    have HW9 := Lib.hid hW9
    clear hW9 hb7 hH7 hA7 hRb hF6 hS
    go_simp
    rw [HW9.out]
    refine hK _ _ hS9 ?_
    clear hK K HW9 x0 y0 x1 y1 x2 y2 x3 y3
    refine eachH_done (by kernel_rfl) ?_
    have HX := Lib.hid (And.intro hR9 (And.intro hF9 ((HSI.out _).1 hS9).1))
    clear hS9 hR9 hF9
    go_simp
    go_wp2
    refine bodyPost_ret (v := .agg (rC st ⟨re.toArray⟩ (.slice fo fn fc2) ⟨bo.toArray⟩)) ?r rfl ⟨_, rfl, HX.out.2.1, HX.out.2.2⟩
    case r => exact results_respC rfl _ _ r _ (0, 0) rfl HX.out.1 rfl
set_option maxHeartbeats 16000000 in
theorem oanswer9_any (s c ma mi st : Int) (n t m me ta : ByteArray) (fa q : Option Addr) (fl fc : Nat) (re bo : List UInt8) (L : List Fld) (w : World)
    (hC : ∀ W, Below w.heap.size w W → Calls Tryz.prog 9 #[.agg (hdC 9 n t m s c)] W fun e w' => e = .returned (.int .i64 0) ∧ Below W.heap.size W w')
    (hM : ∀ W p, Below w.heap.size w W → BlkIs W p (vC 9 s c n t m me ta ma mi (.slice fa fl fc) (.pointer q)) 100 → Calls Tryz.prog 63 #[.pointer (some ⟨p, 0, none⟩)] W (RespIs st re L bo W)) :
    Calls Tryz.prog 24 #[.agg (hdC 9 n t m s c), .agg (asC me ta ma mi (.slice fa fl fc)), .pointer q] w (RespIs st re L bo w) := by
  obtain ⟨h, hh⟩ : ∃ h, w.heap.size = h := ⟨_, rfl⟩
  obtain ⟨b, hb⟩ : ∃ b, h + 1 = b := ⟨_, rfl⟩
  obtain ⟨r, hr⟩ : ∃ r, b + 1 = r := ⟨_, rfl⟩
  obtain ⟨W2, hW2⟩ : ∃ W2, ((w.alloc (.cells (hdC 9 n t m s c) 23)).alloc (.cells (asC me ta ma mi (.slice fa fl fc)) 68)).alloc (.cells zR 46) = W2 := ⟨_, rfl⟩
  have hb2 : Below w.heap.size w W2 := by rw [← hW2]; exact ((below1 w _).alloc (by simp) _).alloc (by simp; omega) _
  have hH2 : BlkIs W2 h (hdC 9 n t m s c) 23 := by rw [← hW2, ← hh]; exact ((blkIs_new w _ _).alloc _).alloc _
  have hA2 : BlkIs W2 b (asC me ta ma mi (.slice fa fl fc)) 68 := by rw [← hW2, ← hb, ← hh]; have := blkIs_new (w.alloc (.cells (hdC 9 n t m s c) 23)) (asC me ta ma mi (.slice fa fl fc)) 68; rw [World.size_alloc] at this; exact this.alloc _
  have hR2 : BlkIs W2 r zR 46 := by rw [← hW2, ← hr, ← hb, ← hh]; have := blkIs_new ((w.alloc (.cells (hdC 9 n t m s c) 23)).alloc (.cells (asC me ta ma mi (.slice fa fl fc)) 68)) zR 46; rw [World.size_alloc, World.size_alloc] at this; exact this
  obtain ⟨S, hSd⟩ : ∃ S : World → Prop, (fun W => Below w.heap.size w W ∧ BlkIs W h (hdC 9 n t m s c) 23 ∧ BlkIs W b (asC me ta ma mi (.slice fa fl fc)) 68) = S := ⟨_, rfl⟩
  have hSi : ∀ W, S W ↔ (Below w.heap.size w W ∧ BlkIs W h (hdC 9 n t m s c) 23 ∧ BlkIs W b (asC me ta ma mi (.slice fa fl fc)) 68) := fun W => by rw [← hSd]
  have hst : ∀ W W', S W → Below W.heap.size W W' → S W' := fun W W' h hb => by
    rw [hSi] at h ⊢
    exact ⟨h.1.trans (hb.mono h.1.size), h.2.1.later hb, h.2.2.later hb⟩
  have HR := Lib.hid (show w.heap.size ≤ r by omega)
  have HI2 := Lib.hid (And.intro (show S W2 by rw [hSi]; exact ⟨hb2, hH2, hA2⟩) hR2)
  have HST := Lib.hid hst; have HSI := Lib.hid hSi; have HW2 := Lib.hid hW2; have HCT := Lib.hid hC; have HMT := Lib.hid hM
  have a0 : W2.cell? ⟨h, 0, none⟩ = some (.int .i64 9) := hH2.cell 0 _ rfl
  have a1 : W2.cell? ⟨h, 1, none⟩ = some (.string n) := hH2.cell 1 _ rfl
  have a2 : W2.cell? ⟨h, 2, none⟩ = some (.string t) := hH2.cell 2 _ rfl
  have a3 : W2.cell? ⟨h, 3, none⟩ = some (.string m) := hH2.cell 3 _ rfl
  have a4 : W2.cell? ⟨h, 4, none⟩ = some (.int .i64 s) := hH2.cell 4 _ rfl
  have a5 : W2.cell? ⟨h, 5, none⟩ = some (.int .i64 c) := hH2.cell 5 _ rfl
  clear hSd hSi hst hW2 hb2 hH2 hA2 hR2 hC hM
  go_enter Tryz.func24, Tryz.ntmps24
  go_upto_region 1 with fail
  rw [HW2.out]
  have HC2 := Lib.hid (HCT.out W2 ((HSI.out _).1 HI2.out.1).1)
  go_wp2_with fail
  refine (HC2.out).mono ?_
  rintro e w3 ⟨rfl, hb3⟩
  have HI3 := Lib.hid (And.intro (HST.out _ _ HI2.out.1 hb3) (HI2.out.2.later hb3))
  clear hb3 a0 a1 a2 a3 a4 a5
  go_upto_region 3 with fail
  refine wp_region_eachH S 13 (by kernel_rfl) (by kernel_rfl) ?_
  have hS := HST.out _ _ HI3.out.1 ((Below.refl _ w3).drew)
  have hRb := HI3.out.2.later ((Below.refl _ w3).drew)
  obtain ⟨WD, hWD⟩ : ∃ W, w3.drew = W := ⟨_, rfl⟩
  rw [hWD] at hS hRb ⊢
  clear hWD
  refine eachH_take (i := 1) rfl (by kernel_rfl) (by kernel_rfl) (by kernel_rfl) hS (v := ?_) ?_ ?_; rotate_left; · (intro W hS; obtain ⟨_, s1, s2⟩ := (HSI.out W).1 hS; have t0 : W.cell? ⟨h, 0, none⟩ = some (.int .i64 9) := s1.cell 0 _ rfl; have t1 : W.cell? ⟨h, 1, none⟩ = some (.string n) := s1.cell 1 _ rfl; have t2 : W.cell? ⟨h, 2, none⟩ = some (.string t) := s1.cell 2 _ rfl; have t3 : W.cell? ⟨h, 3, none⟩ = some (.string m) := s1.cell 3 _ rfl; have t4 : W.cell? ⟨h, 4, none⟩ = some (.int .i64 s) := s1.cell 4 _ rfl; have t5 : W.cell? ⟨h, 5, none⟩ = some (.int .i64 c) := s1.cell 5 _ rfl; have r0 : W.cell? ⟨b, 0, none⟩ = some (.string me) := s2.cell 0 _ rfl; have r1 : W.cell? ⟨b, 1, none⟩ = some (.string ta) := s2.cell 1 _ rfl; have r2 : W.cell? ⟨b, 2, none⟩ = some (.int .i64 ma) := s2.cell 2 _ rfl; have r3 : W.cell? ⟨b, 3, none⟩ = some (.int .i64 mi) := s2.cell 3 _ rfl; have r4 : W.cell? ⟨b, 4, none⟩ = some (.slice fa fl fc) := s2.cell 4 _ rfl; have r5 : W.cell? ⟨b, 5, none⟩ = some (.string ⟨#[]⟩) := s2.cell 5 _ rfl; have r6 : W.cell? ⟨b, 6, none⟩ = some (.slice none 0 0) := s2.cell 6 _ rfl; have r7 : W.cell? ⟨b, 7, none⟩ = some (.int .i64 0) := s2.cell 7 _ rfl; have r8 : W.cell? ⟨b, 8, none⟩ = some (.string ⟨#[]⟩) := s2.cell 8 _ rfl; have r9 : W.cell? ⟨b, 9, none⟩ = some (.int .i64 0) := s2.cell 9 _ rfl; have r10 : W.cell? ⟨b, 10, none⟩ = some (.string ⟨#[]⟩) := s2.cell 10 _ rfl; have r11 : W.cell? ⟨b, 11, none⟩ = some (.string ⟨#[]⟩) := s2.cell 11 _ rfl; have r12 : W.cell? ⟨b, 12, none⟩ = some (.bool false) := s2.cell 12 _ rfl; have r13 : W.cell? ⟨b, 13, none⟩ = some (.slice none 0 0) := s2.cell 13 _ rfl; have r14 : W.cell? ⟨b, 14, none⟩ = some (.int .i64 0) := s2.cell 14 _ rfl; clear s1 s2 hS; go_simp; with_reducible rfl)
  refine eachH_take (i := 2) rfl (by kernel_rfl) (by kernel_rfl) (by kernel_rfl) hS (v := ?_) ?_ ?_; rotate_left; · (intro W hS; obtain ⟨_, s1, s2⟩ := (HSI.out W).1 hS; have t0 : W.cell? ⟨h, 0, none⟩ = some (.int .i64 9) := s1.cell 0 _ rfl; have t1 : W.cell? ⟨h, 1, none⟩ = some (.string n) := s1.cell 1 _ rfl; have t2 : W.cell? ⟨h, 2, none⟩ = some (.string t) := s1.cell 2 _ rfl; have t3 : W.cell? ⟨h, 3, none⟩ = some (.string m) := s1.cell 3 _ rfl; have t4 : W.cell? ⟨h, 4, none⟩ = some (.int .i64 s) := s1.cell 4 _ rfl; have t5 : W.cell? ⟨h, 5, none⟩ = some (.int .i64 c) := s1.cell 5 _ rfl; have r0 : W.cell? ⟨b, 0, none⟩ = some (.string me) := s2.cell 0 _ rfl; have r1 : W.cell? ⟨b, 1, none⟩ = some (.string ta) := s2.cell 1 _ rfl; have r2 : W.cell? ⟨b, 2, none⟩ = some (.int .i64 ma) := s2.cell 2 _ rfl; have r3 : W.cell? ⟨b, 3, none⟩ = some (.int .i64 mi) := s2.cell 3 _ rfl; have r4 : W.cell? ⟨b, 4, none⟩ = some (.slice fa fl fc) := s2.cell 4 _ rfl; have r5 : W.cell? ⟨b, 5, none⟩ = some (.string ⟨#[]⟩) := s2.cell 5 _ rfl; have r6 : W.cell? ⟨b, 6, none⟩ = some (.slice none 0 0) := s2.cell 6 _ rfl; have r7 : W.cell? ⟨b, 7, none⟩ = some (.int .i64 0) := s2.cell 7 _ rfl; have r8 : W.cell? ⟨b, 8, none⟩ = some (.string ⟨#[]⟩) := s2.cell 8 _ rfl; have r9 : W.cell? ⟨b, 9, none⟩ = some (.int .i64 0) := s2.cell 9 _ rfl; have r10 : W.cell? ⟨b, 10, none⟩ = some (.string ⟨#[]⟩) := s2.cell 10 _ rfl; have r11 : W.cell? ⟨b, 11, none⟩ = some (.string ⟨#[]⟩) := s2.cell 11 _ rfl; have r12 : W.cell? ⟨b, 12, none⟩ = some (.bool false) := s2.cell 12 _ rfl; have r13 : W.cell? ⟨b, 13, none⟩ = some (.slice none 0 0) := s2.cell 13 _ rfl; have r14 : W.cell? ⟨b, 14, none⟩ = some (.int .i64 0) := s2.cell 14 _ rfl; clear s1 s2 hS; go_simp; with_reducible rfl)
  refine eachH_take (i := 6) rfl (by kernel_rfl) (by kernel_rfl) (by kernel_rfl) hS (v := ?_) ?_ ?_; rotate_left; · (intro W hS; obtain ⟨_, s1, s2⟩ := (HSI.out W).1 hS; have t0 : W.cell? ⟨h, 0, none⟩ = some (.int .i64 9) := s1.cell 0 _ rfl; have t1 : W.cell? ⟨h, 1, none⟩ = some (.string n) := s1.cell 1 _ rfl; have t2 : W.cell? ⟨h, 2, none⟩ = some (.string t) := s1.cell 2 _ rfl; have t3 : W.cell? ⟨h, 3, none⟩ = some (.string m) := s1.cell 3 _ rfl; have t4 : W.cell? ⟨h, 4, none⟩ = some (.int .i64 s) := s1.cell 4 _ rfl; have t5 : W.cell? ⟨h, 5, none⟩ = some (.int .i64 c) := s1.cell 5 _ rfl; have r0 : W.cell? ⟨b, 0, none⟩ = some (.string me) := s2.cell 0 _ rfl; have r1 : W.cell? ⟨b, 1, none⟩ = some (.string ta) := s2.cell 1 _ rfl; have r2 : W.cell? ⟨b, 2, none⟩ = some (.int .i64 ma) := s2.cell 2 _ rfl; have r3 : W.cell? ⟨b, 3, none⟩ = some (.int .i64 mi) := s2.cell 3 _ rfl; have r4 : W.cell? ⟨b, 4, none⟩ = some (.slice fa fl fc) := s2.cell 4 _ rfl; have r5 : W.cell? ⟨b, 5, none⟩ = some (.string ⟨#[]⟩) := s2.cell 5 _ rfl; have r6 : W.cell? ⟨b, 6, none⟩ = some (.slice none 0 0) := s2.cell 6 _ rfl; have r7 : W.cell? ⟨b, 7, none⟩ = some (.int .i64 0) := s2.cell 7 _ rfl; have r8 : W.cell? ⟨b, 8, none⟩ = some (.string ⟨#[]⟩) := s2.cell 8 _ rfl; have r9 : W.cell? ⟨b, 9, none⟩ = some (.int .i64 0) := s2.cell 9 _ rfl; have r10 : W.cell? ⟨b, 10, none⟩ = some (.string ⟨#[]⟩) := s2.cell 10 _ rfl; have r11 : W.cell? ⟨b, 11, none⟩ = some (.string ⟨#[]⟩) := s2.cell 11 _ rfl; have r12 : W.cell? ⟨b, 12, none⟩ = some (.bool false) := s2.cell 12 _ rfl; have r13 : W.cell? ⟨b, 13, none⟩ = some (.slice none 0 0) := s2.cell 13 _ rfl; have r14 : W.cell? ⟨b, 14, none⟩ = some (.int .i64 0) := s2.cell 14 _ rfl; clear s1 s2 hS; go_simp; with_reducible rfl)
  refine eachH_take (i := 7) rfl (by kernel_rfl) (by kernel_rfl) (by kernel_rfl) hS (v := ?_) ?_ ?_; rotate_left; · (intro W hS; obtain ⟨_, s1, s2⟩ := (HSI.out W).1 hS; have t0 : W.cell? ⟨h, 0, none⟩ = some (.int .i64 9) := s1.cell 0 _ rfl; have t1 : W.cell? ⟨h, 1, none⟩ = some (.string n) := s1.cell 1 _ rfl; have t2 : W.cell? ⟨h, 2, none⟩ = some (.string t) := s1.cell 2 _ rfl; have t3 : W.cell? ⟨h, 3, none⟩ = some (.string m) := s1.cell 3 _ rfl; have t4 : W.cell? ⟨h, 4, none⟩ = some (.int .i64 s) := s1.cell 4 _ rfl; have t5 : W.cell? ⟨h, 5, none⟩ = some (.int .i64 c) := s1.cell 5 _ rfl; have r0 : W.cell? ⟨b, 0, none⟩ = some (.string me) := s2.cell 0 _ rfl; have r1 : W.cell? ⟨b, 1, none⟩ = some (.string ta) := s2.cell 1 _ rfl; have r2 : W.cell? ⟨b, 2, none⟩ = some (.int .i64 ma) := s2.cell 2 _ rfl; have r3 : W.cell? ⟨b, 3, none⟩ = some (.int .i64 mi) := s2.cell 3 _ rfl; have r4 : W.cell? ⟨b, 4, none⟩ = some (.slice fa fl fc) := s2.cell 4 _ rfl; have r5 : W.cell? ⟨b, 5, none⟩ = some (.string ⟨#[]⟩) := s2.cell 5 _ rfl; have r6 : W.cell? ⟨b, 6, none⟩ = some (.slice none 0 0) := s2.cell 6 _ rfl; have r7 : W.cell? ⟨b, 7, none⟩ = some (.int .i64 0) := s2.cell 7 _ rfl; have r8 : W.cell? ⟨b, 8, none⟩ = some (.string ⟨#[]⟩) := s2.cell 8 _ rfl; have r9 : W.cell? ⟨b, 9, none⟩ = some (.int .i64 0) := s2.cell 9 _ rfl; have r10 : W.cell? ⟨b, 10, none⟩ = some (.string ⟨#[]⟩) := s2.cell 10 _ rfl; have r11 : W.cell? ⟨b, 11, none⟩ = some (.string ⟨#[]⟩) := s2.cell 11 _ rfl; have r12 : W.cell? ⟨b, 12, none⟩ = some (.bool false) := s2.cell 12 _ rfl; have r13 : W.cell? ⟨b, 13, none⟩ = some (.slice none 0 0) := s2.cell 13 _ rfl; have r14 : W.cell? ⟨b, 14, none⟩ = some (.int .i64 0) := s2.cell 14 _ rfl; clear s1 s2 hS; go_simp; with_reducible rfl)
  refine eachH_take (i := 8) rfl (by kernel_rfl) (by kernel_rfl) (by kernel_rfl) hS (v := ?_) ?_ ?_; rotate_left; · (intro W hS; clear hS; go_simp; with_reducible rfl)
  refine eachH_take (i := 9) rfl (by kernel_rfl) (by kernel_rfl) (by kernel_rfl) hS (v := ?_) ?_ ?_; rotate_left; · (intro W hS; clear hS; go_simp; with_reducible rfl)
  refine eachH2 (i := 0) (j := 10) (by kernel_rfl) rfl rfl ?_ ?_
  · intro K hK
    go_simp
    refine (kinds_any _).mono ?_
    rintro e W3 ⟨rfl, hW3⟩
    obtain ⟨g, hg⟩ : ∃ g, WD.heap.size = g := ⟨_, rfl⟩
    try rw [hg]
    have hG : BlkIs W3 g kArr 74 := by rw [hW3, ← hg]; exact blkIs_new _ _ _
    have hcb : Below WD.heap.size WD W3 := by rw [hW3]; exact below1 _ _
    have hS := HST.out _ _ hS hcb
    have hRb := hRb.later hcb
    try have hP := hP.later hcb
    refine hK _ _ hS ?_
    clear hK K hW3 hcb
    refine eachH_take (i := 3) rfl (by kernel_rfl) (by kernel_rfl) (by kernel_rfl) hS (v := ?_) ?_ ?_; rotate_left; · (intro W hS; clear hS; go_simp; with_reducible rfl)
    refine eachH_take (i := 4) rfl (by kernel_rfl) (by kernel_rfl) (by kernel_rfl) hS (v := ?_) ?_ ?_; rotate_left; · (intro W hS; clear hS; go_simp; with_reducible rfl)
    refine eachH2 (i := 5) (j := 10) (by kernel_rfl) rfl rfl ?_ ?_
    · intro K hK
      have z0 : W3.cell? ⟨g, 72, none⟩ = some (.func (.func 63) #[] #[]) := hG.cell 72 _ rfl
      go_simp
      refine hK _ _ hS ?_
      clear hK K z0
      refine eachH1 (i := 10) (by kernel_rfl) rfl ?_
      intro K hK
      obtain ⟨p, hp⟩ : ∃ p, W3.heap.size = p := ⟨_, rfl⟩
      obtain ⟨W4, hW4⟩ : ∃ W4, W3.alloc (.cells (vC 9 s c n t m me ta ma mi (.slice fa fl fc) (.pointer q)) 100) = W4 := ⟨_, rfl⟩
      have hab : Below W3.heap.size W3 W4 := by rw [← hW4]; exact below1 _ _
      have hP : BlkIs W4 p (vC 9 s c n t m me ta ma mi (.slice fa fl fc) (.pointer q)) 100 := by rw [← hW4, ← hp]; exact blkIs_new _ _ _
      have hS := HST.out _ _ hS hab
      have hRb := hRb.later hab
      try have hG := hG.later hab
      have HW4 := Lib.hid hW4
      clear hW4 hab
      go_simp
      rw [HW4.out]
      refine hK _ _ hS ?_
      clear hK K hp HW4
      refine eachH1 (i := 11) (by kernel_rfl) rfl ?_
      intro K hK
      have HM := Lib.hid (HMT.out W4 p ((HSI.out _).1 hS).1 hP)
      clear hP
      go_simp
      refine (HM.out).mono ?_
      rintro e W6 ⟨fv, rfl, hF6, hb6⟩
      obtain ⟨fo, fn, fc2, rfl⟩ := hF6.shape
      have hS := HST.out _ _ hS hb6
      have hRb := hRb.later hb6
      refine hK _ _ hS ?_
      clear hK K hb6 HM
      refine eachH1 (i := 12) (by kernel_rfl) rfl ?_
      intro K hK
      obtain ⟨hb7, hH7, hA7⟩ := (HSI.out _).1 hS
      have y0 := hRb.free 0
      have y1 := hRb.free 1
      have y2 := hRb.free 2
      have y3 := hRb.free 3
      have x0 := hRb.cell 0 _ rfl
      have x1 := hRb.cell 1 _ rfl
      have x2 := hRb.cell 2 _ rfl
      have x3 := hRb.cell 3 _ rfl
      obtain ⟨W9, hW9⟩ : ∃ W9, ((((W6.setCell ⟨r, 0, none⟩ (.int .i64 st)).setCell ⟨r, 1, none⟩ (.string ⟨re.toArray⟩)).setCell ⟨r, 2, none⟩ (.slice fo fn fc2)).setCell ⟨r, 3, none⟩ (.string ⟨bo.toArray⟩)) = W9 := ⟨_, rfl⟩
      have hS9 : S W9 := by rw [← hW9]; exact (HSI.out _).2 ⟨fourBelow hb7 HR.out (.int .i64 st) (.string ⟨re.toArray⟩) (.slice fo fn fc2) (.string ⟨bo.toArray⟩), fourOther hH7 (blk_ne hH7 hRb (by decide)) (.int .i64 st) (.string ⟨re.toArray⟩) (.slice fo fn fc2) (.string ⟨bo.toArray⟩), fourOther hA7 (blk_ne hA7 hRb (by decide)) (.int .i64 st) (.string ⟨re.toArray⟩) (.slice fo fn fc2) (.string ⟨bo.toArray⟩)⟩
      have hR9 : BlkIs W9 r #[(.int .i64 st), (.string ⟨re.toArray⟩), (.slice fo fn fc2), (.string ⟨bo.toArray⟩)] 46 := by rw [← hW9]; exact fourSet hRb rfl (.int .i64 st) (.string ⟨re.toArray⟩) (.slice fo fn fc2) (.string ⟨bo.toArray⟩)
      have hF9 : FldRow W9 (.slice fo fn fc2) L := by rw [← hW9]; exact fourFld hF6 hRb (.int .i64 st) (.string ⟨re.toArray⟩) (.slice fo fn fc2) (.string ⟨bo.toArray⟩)
      have HW9 := Lib.hid hW9
      clear hW9 hb7 hH7 hA7 hRb hF6 hS
      go_simp
      rw [HW9.out]
      refine hK _ _ hS9 ?_
      clear hK K HW9 x0 y0 x1 y1 x2 y2 x3 y3
      refine eachH_done (by kernel_rfl) ?_
      have HX := Lib.hid (And.intro hR9 (And.intro hF9 ((HSI.out _).1 hS9).1))
      clear hS9 hR9 hF9
      go_simp
      go_wp2
      refine bodyPost_ret (v := .agg (rC st ⟨re.toArray⟩ (.slice fo fn fc2) ⟨bo.toArray⟩)) ?r rfl ⟨_, rfl, HX.out.2.1, HX.out.2.2⟩
      case r => exact results_respC rfl _ _ r _ (0, 0) rfl HX.out.1 rfl
    · intro K hK
      obtain ⟨p, hp⟩ : ∃ p, W3.heap.size = p := ⟨_, rfl⟩
      obtain ⟨W4, hW4⟩ : ∃ W4, W3.alloc (.cells (vC 9 s c n t m me ta ma mi (.slice fa fl fc) (.pointer q)) 100) = W4 := ⟨_, rfl⟩
      have hab : Below W3.heap.size W3 W4 := by rw [← hW4]; exact below1 _ _
      have hP : BlkIs W4 p (vC 9 s c n t m me ta ma mi (.slice fa fl fc) (.pointer q)) 100 := by rw [← hW4, ← hp]; exact blkIs_new _ _ _
      have hS := HST.out _ _ hS hab
      have hRb := hRb.later hab
      try have hG := hG.later hab
      have HW4 := Lib.hid hW4
      clear hW4 hab
      go_simp
      rw [HW4.out]
      refine hK _ _ hS ?_
      clear hK K hp HW4
      refine eachH1 (i := 5) (by kernel_rfl) rfl ?_
      intro K hK
      have z0 : W4.cell? ⟨g, 72, none⟩ = some (.func (.func 63) #[] #[]) := hG.cell 72 _ rfl
      go_simp
      refine hK _ _ hS ?_
      clear hK K z0
      refine eachH1 (i := 11) (by kernel_rfl) rfl ?_
      intro K hK
      have HM := Lib.hid (HMT.out W4 p ((HSI.out _).1 hS).1 hP)
      clear hP
      go_simp
      refine (HM.out).mono ?_
      rintro e W6 ⟨fv, rfl, hF6, hb6⟩
      obtain ⟨fo, fn, fc2, rfl⟩ := hF6.shape
      have hS := HST.out _ _ hS hb6
      have hRb := hRb.later hb6
      refine hK _ _ hS ?_
      clear hK K hb6 HM
      refine eachH1 (i := 12) (by kernel_rfl) rfl ?_
      intro K hK
      obtain ⟨hb7, hH7, hA7⟩ := (HSI.out _).1 hS
      have y0 := hRb.free 0
      have y1 := hRb.free 1
      have y2 := hRb.free 2
      have y3 := hRb.free 3
      have x0 := hRb.cell 0 _ rfl
      have x1 := hRb.cell 1 _ rfl
      have x2 := hRb.cell 2 _ rfl
      have x3 := hRb.cell 3 _ rfl
      obtain ⟨W9, hW9⟩ : ∃ W9, ((((W6.setCell ⟨r, 0, none⟩ (.int .i64 st)).setCell ⟨r, 1, none⟩ (.string ⟨re.toArray⟩)).setCell ⟨r, 2, none⟩ (.slice fo fn fc2)).setCell ⟨r, 3, none⟩ (.string ⟨bo.toArray⟩)) = W9 := ⟨_, rfl⟩
      have hS9 : S W9 := by rw [← hW9]; exact (HSI.out _).2 ⟨fourBelow hb7 HR.out (.int .i64 st) (.string ⟨re.toArray⟩) (.slice fo fn fc2) (.string ⟨bo.toArray⟩), fourOther hH7 (blk_ne hH7 hRb (by decide)) (.int .i64 st) (.string ⟨re.toArray⟩) (.slice fo fn fc2) (.string ⟨bo.toArray⟩), fourOther hA7 (blk_ne hA7 hRb (by decide)) (.int .i64 st) (.string ⟨re.toArray⟩) (.slice fo fn fc2) (.string ⟨bo.toArray⟩)⟩
      have hR9 : BlkIs W9 r #[(.int .i64 st), (.string ⟨re.toArray⟩), (.slice fo fn fc2), (.string ⟨bo.toArray⟩)] 46 := by rw [← hW9]; exact fourSet hRb rfl (.int .i64 st) (.string ⟨re.toArray⟩) (.slice fo fn fc2) (.string ⟨bo.toArray⟩)
      have hF9 : FldRow W9 (.slice fo fn fc2) L := by rw [← hW9]; exact fourFld hF6 hRb (.int .i64 st) (.string ⟨re.toArray⟩) (.slice fo fn fc2) (.string ⟨bo.toArray⟩)
      have HW9 := Lib.hid hW9
      clear hW9 hb7 hH7 hA7 hRb hF6 hS
      go_simp
      rw [HW9.out]
      refine hK _ _ hS9 ?_
      clear hK K HW9 x0 y0 x1 y1 x2 y2 x3 y3
      refine eachH_done (by kernel_rfl) ?_
      have HX := Lib.hid (And.intro hR9 (And.intro hF9 ((HSI.out _).1 hS9).1))
      clear hS9 hR9 hF9
      go_simp
      go_wp2
      refine bodyPost_ret (v := .agg (rC st ⟨re.toArray⟩ (.slice fo fn fc2) ⟨bo.toArray⟩)) ?r rfl ⟨_, rfl, HX.out.2.1, HX.out.2.2⟩
      case r => exact results_respC rfl _ _ r _ (0, 0) rfl HX.out.1 rfl
  · intro K hK
    obtain ⟨p, hp⟩ : ∃ p, WD.heap.size = p := ⟨_, rfl⟩
    obtain ⟨W4, hW4⟩ : ∃ W4, WD.alloc (.cells (vC 9 s c n t m me ta ma mi (.slice fa fl fc) (.pointer q)) 100) = W4 := ⟨_, rfl⟩
    have hab : Below WD.heap.size WD W4 := by rw [← hW4]; exact below1 _ _
    have hP : BlkIs W4 p (vC 9 s c n t m me ta ma mi (.slice fa fl fc) (.pointer q)) 100 := by rw [← hW4, ← hp]; exact blkIs_new _ _ _
    have hS := HST.out _ _ hS hab
    have hRb := hRb.later hab
    try have hG := hG.later hab
    have HW4 := Lib.hid hW4
    clear hW4 hab
    go_simp
    rw [HW4.out]
    refine hK _ _ hS ?_
    clear hK K hp HW4
    refine eachH1 (i := 0) (by kernel_rfl) rfl ?_
    intro K hK
    go_simp
    refine (kinds_any _).mono ?_
    rintro e W3 ⟨rfl, hW3⟩
    obtain ⟨g, hg⟩ : ∃ g, W4.heap.size = g := ⟨_, rfl⟩
    try rw [hg]
    have hG : BlkIs W3 g kArr 74 := by rw [hW3, ← hg]; exact blkIs_new _ _ _
    have hcb : Below W4.heap.size W4 W3 := by rw [hW3]; exact below1 _ _
    have hS := HST.out _ _ hS hcb
    have hRb := hRb.later hcb
    try have hP := hP.later hcb
    refine hK _ _ hS ?_
    clear hK K hW3 hcb
    refine eachH_take (i := 3) rfl (by kernel_rfl) (by kernel_rfl) (by kernel_rfl) hS (v := ?_) ?_ ?_; rotate_left; · (intro W hS; clear hS; go_simp; with_reducible rfl)
    refine eachH_take (i := 4) rfl (by kernel_rfl) (by kernel_rfl) (by kernel_rfl) hS (v := ?_) ?_ ?_; rotate_left; · (intro W hS; clear hS; go_simp; with_reducible rfl)
    refine eachH1 (i := 5) (by kernel_rfl) rfl ?_
    intro K hK
    have z0 : W3.cell? ⟨g, 72, none⟩ = some (.func (.func 63) #[] #[]) := hG.cell 72 _ rfl
    go_simp
    refine hK _ _ hS ?_
    clear hK K z0
    refine eachH1 (i := 11) (by kernel_rfl) rfl ?_
    intro K hK
    have HM := Lib.hid (HMT.out W3 p ((HSI.out _).1 hS).1 hP)
    clear hP
    go_simp
    refine (HM.out).mono ?_
    rintro e W6 ⟨fv, rfl, hF6, hb6⟩
    obtain ⟨fo, fn, fc2, rfl⟩ := hF6.shape
    have hS := HST.out _ _ hS hb6
    have hRb := hRb.later hb6
    refine hK _ _ hS ?_
    clear hK K hb6 HM
    refine eachH1 (i := 12) (by kernel_rfl) rfl ?_
    intro K hK
    obtain ⟨hb7, hH7, hA7⟩ := (HSI.out _).1 hS
    have y0 := hRb.free 0
    have y1 := hRb.free 1
    have y2 := hRb.free 2
    have y3 := hRb.free 3
    have x0 := hRb.cell 0 _ rfl
    have x1 := hRb.cell 1 _ rfl
    have x2 := hRb.cell 2 _ rfl
    have x3 := hRb.cell 3 _ rfl
    obtain ⟨W9, hW9⟩ : ∃ W9, ((((W6.setCell ⟨r, 0, none⟩ (.int .i64 st)).setCell ⟨r, 1, none⟩ (.string ⟨re.toArray⟩)).setCell ⟨r, 2, none⟩ (.slice fo fn fc2)).setCell ⟨r, 3, none⟩ (.string ⟨bo.toArray⟩)) = W9 := ⟨_, rfl⟩
    have hS9 : S W9 := by rw [← hW9]; exact (HSI.out _).2 ⟨fourBelow hb7 HR.out (.int .i64 st) (.string ⟨re.toArray⟩) (.slice fo fn fc2) (.string ⟨bo.toArray⟩), fourOther hH7 (blk_ne hH7 hRb (by decide)) (.int .i64 st) (.string ⟨re.toArray⟩) (.slice fo fn fc2) (.string ⟨bo.toArray⟩), fourOther hA7 (blk_ne hA7 hRb (by decide)) (.int .i64 st) (.string ⟨re.toArray⟩) (.slice fo fn fc2) (.string ⟨bo.toArray⟩)⟩
    have hR9 : BlkIs W9 r #[(.int .i64 st), (.string ⟨re.toArray⟩), (.slice fo fn fc2), (.string ⟨bo.toArray⟩)] 46 := by rw [← hW9]; exact fourSet hRb rfl (.int .i64 st) (.string ⟨re.toArray⟩) (.slice fo fn fc2) (.string ⟨bo.toArray⟩)
    have hF9 : FldRow W9 (.slice fo fn fc2) L := by rw [← hW9]; exact fourFld hF6 hRb (.int .i64 st) (.string ⟨re.toArray⟩) (.slice fo fn fc2) (.string ⟨bo.toArray⟩)
    have HW9 := Lib.hid hW9
    clear hW9 hb7 hH7 hA7 hRb hF6 hS
    go_simp
    rw [HW9.out]
    refine hK _ _ hS9 ?_
    clear hK K HW9 x0 y0 x1 y1 x2 y2 x3 y3
    refine eachH_done (by kernel_rfl) ?_
    have HX := Lib.hid (And.intro hR9 (And.intro hF9 ((HSI.out _).1 hS9).1))
    clear hS9 hR9 hF9
    go_simp
    go_wp2
    refine bodyPost_ret (v := .agg (rC st ⟨re.toArray⟩ (.slice fo fn fc2) ⟨bo.toArray⟩)) ?r rfl ⟨_, rfl, HX.out.2.1, HX.out.2.2⟩
    case r => exact results_respC rfl _ _ r _ (0, 0) rfl HX.out.1 rfl
end Go.Proofs.YtdlpbpikhmciaaaGreatDoor
