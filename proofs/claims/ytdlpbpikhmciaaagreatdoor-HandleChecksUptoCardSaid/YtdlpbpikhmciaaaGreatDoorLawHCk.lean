/- The walk of turnpikelaw18.HandleChecks: true at every handler. Conditions: texts are small; octet.signs holds what the text lays. -/
import Derived.Test.YtdlpbpikhmciaaaGreatDoorHdW
import Derived.Test.YtdlpbpikhmciaaaGreatDoorHdCc
import Derived.Test.YtdlpbpikhmciaaaGreatDoorRHdC
namespace Go.Proofs.YtdlpbpikhmciaaaGreatDoor
open Go.RowKit
set_option linter.unusedSimpArgs false
set_option linter.unusedVariables false
set_option maxRecDepth 1000000
/-- What both Checks say. -/
def hck (k s c : Int) (n t m : ByteArray) : Int :=
  let b := fun un ut um us uc => bareB un ut um us uc (decide (n.toList = [])) (decide (t.toList = [])) (decide (m.toList = [])) (decide (s = 0)) (c == 0)
  if k = 1 then chkI (b false true true true false) (rt1 m.data.toList s)
  else if k = 2 then chkI (b false false false true false) (rt2 s)
  else if k = 3 then chkI (b false true false true false) (rt3 t.data.toList s)
  else if k = 4 then chkI (b false false false false false) true
  else if k = 5 then chkI (b false false false false false) true
  else if k = 6 then chkI (b true false false false true) (rt4 n.data.toList c)
  else if k = 7 then chkI (b false false false false true) (rt5 c)
  else if k = 8 then chkI (b true false false false false) (isTok n.data.toList)
  else if k = 9 then chkI (b false false false false false) true
  else 180
theorem dE0 : (!decide (e0.toList = [])) = false := by simp only [toL]; decide
theorem dEX : (!decide (eX.toList = [])) = true := by simp only [toL]; decide
theorem d0 : (!decide ((0 : Int) = 0)) = false := rfl
theorem d1 : (!decide ((1 : Int) = 0)) = true := rfl
set_option maxHeartbeats 4000000 in
theorem ocheckX_any (k s c : Int) (n t m : ByteArray) (w : World) (hk : k < 1 ∨ 9 < k) : Calls Tryz.prog 9 #[.agg (hdC k n t m s c)] w fun e w' => e = .returned (.int .i64 180) ∧ Below w.heap.size w w' := by
  have HBW := Lib.hid (show ∀ a, Below w.heap.size w (w.alloc (.cells a 23)) from fun a => below1 w _)
  rcases hk with hk | hk
  · go_enter Tryz.func9, Tryz.ntmps9
    go_wp2
    go_ret
    exact ⟨rfl, HBW.out _⟩
  · have hk1 : ¬ k < 1 := by omega
    go_enter Tryz.func9, Tryz.ntmps9
    go_wp2
    go_ret
    exact ⟨rfl, HBW.out _⟩
set_option maxHeartbeats 4000000 in
theorem rcheckX_any (k s c : Int) (n t m : ByteArray) (w : World) (hk : k < 1 ∨ 9 < k) : Calls Tryz.prog 10 #[.agg (hdC k n t m s c)] w fun e w' => e = .returned (.int .i64 180) ∧ Below w.heap.size w w' := by
  have HBW := Lib.hid (show ∀ a, Below w.heap.size w (w.alloc (.cells a 28)) from fun a => below1 w _)
  have h1 : (k == 1) = false := by simp; omega
  have h2 : (k == 2) = false := by simp; omega
  have h3 : (k == 3) = false := by simp; omega
  have h4 : (k == 4) = false := by simp; omega
  have h5 : (k == 5) = false := by simp; omega
  have h6 : (k == 6) = false := by simp; omega
  have h7 : (k == 7) = false := by simp; omega
  have h8 : (k == 8) = false := by simp; omega
  have h9 : (k == 9) = false := by simp; omega
  clear hk
  go_enter Tryz.func10, Tryz.ntmps10
  go_wp2
  go_ret
  exact ⟨rfl, HBW.out _⟩
theorem kcases (k : Int) : k = 1 ∨ k = 2 ∨ k = 3 ∨ k = 4 ∨ k = 5 ∨ k = 6 ∨ k = 7 ∨ k = 8 ∨ k = 9 ∨ (k < 1 ∨ 9 < k) := by omega
theorem hckX (k s c : Int) (n t m : ByteArray) (hk : k < 1 ∨ 9 < k) : hck k s c n t m = 180 := by
  unfold hck
  rw [if_neg (by omega), if_neg (by omega), if_neg (by omega), if_neg (by omega), if_neg (by omega), if_neg (by omega), if_neg (by omega), if_neg (by omega), if_neg (by omega)]
theorem ocheck_any (k s c : Int) (n t m : ByteArray) (w : World) (hn : n.size ≤ 1048576) (ht : t.size ≤ 1048576) (hm : m.size ≤ 1048576) (hg : SgAt w) : Calls Tryz.prog 9 #[.agg (hdC k n t m s c)] w fun e w' => e = .returned (.int .i64 (hck k s c n t m)) ∧ Below w.heap.size w w' := by
  rcases kcases k with rfl | rfl | rfl | rfl | rfl | rfl | rfl | rfl | rfl | hk
  · have := ocheck1_any _ s c n t m w (fun W hb => lit1_any 1 s c n t m W (by omega))
    rw [dE0, dEX, d0, d1] at this; exact this
  · have := ocheck2_any _ s c n t m w (fun W hb => lit2_any 2 s c n t m W)
    rw [dE0, d0, d1] at this; exact this
  · have := ocheck3_any _ s c n t m w (fun W hb => lit3_any 3 s c n t m W ht)
    rw [dE0, dEX, d0, d1] at this; exact this
  · have := ocheck4_any _ s c n t m w (fun W hb => yes_any _ W)
    rw [dE0, d0] at this; exact this
  · have := ocheck5_any _ s c n t m w (fun W hb => yes_any _ W)
    rw [dE0, d0] at this; exact this
  · have := ocheck6_any _ s c n t m w (fun W hb => lit4_any 6 s c n t m W (by omega))
    rw [dE0, dEX, d0, d1] at this; exact this
  · have := ocheck7_any _ s c n t m w (fun W hb => lit5_any 7 s c n t m W)
    rw [dE0, d0, d1] at this; exact this
  · have := ocheck8_any _ s c n t m w (fun W hb => lit6_any 8 s c n t m W (by omega) (hg.below hb))
    rw [dE0, dEX, d0] at this; exact this
  · have := ocheck9_any _ s c n t m w (fun W hb => yes_any _ W)
    rw [dE0, d0] at this; exact this
  · rw [hckX k s c n t m hk]
    exact ocheckX_any k s c n t m w hk
theorem rcheck_any (k s c : Int) (n t m : ByteArray) (w : World) (hn : n.size ≤ 1048576) (ht : t.size ≤ 1048576) (hm : m.size ≤ 1048576) : Calls Tryz.prog 10 #[.agg (hdC k n t m s c)] w fun e w' => e = .returned (.int .i64 (hck k s c n t m)) ∧ Below w.heap.size w w' := by
  rcases kcases k with rfl | rfl | rfl | rfl | rfl | rfl | rfl | rfl | rfl | hk
  · exact rcheck1_any s c n t m w (by omega)
  · exact rcheck2_any s c n t m w
  · exact rcheck3_any s c n t m w ht
  · exact rcheck4_any s c n t m w
  · exact rcheck5_any s c n t m w
  · exact rcheck6_any s c n t m w (by omega)
  · exact rcheck7_any s c n t m w
  · exact rcheck8_any s c n t m w (by omega)
  · exact rcheck9_any s c n t m w
  · rw [hckX k s c n t m hk]
    exact rcheckX_any k s c n t m w hk
theorem results_rhdC {fn : Func} {p : Tmp} (h : fn.results = #[.cell p 28]) (tmps : Array Value) (w : World) (g : Nat) (cs : Array Value) (fr : Nat × Nat)
    (hp : tmps.getD p undef = .pointer (some ⟨g, 0, none⟩)) (hg : w.heap[g]? = some (.cells cs 28 fr)) (hs : cs.size = 6) :
    (results fn tmps).run Tryz.prog w = .ok (.agg cs) w :=
  results_cell_row h tmps w g 28 cs fr _ hp hg Tryz.underlying28 rfl (by rw [hs]; kernel_rfl)
set_option maxHeartbeats 4000000 in
theorem handler_any (k s c : Int) (n t m : ByteArray) (w : World) : Calls Tryz.prog 11 #[.agg (hdC k n t m s c)] w fun e w' => e = .returned (.agg (hdC k n t m s c)) ∧ Below w.heap.size w w' := by
  obtain ⟨p, hp⟩ : ∃ p, w.heap.size = p := ⟨_, rfl⟩
  go_enter Tryz.func11, Tryz.ntmps11
  go_wp2
  refine bodyPost_ret (v := .agg (hdC k n t m s c)) ?r rfl ⟨rfl, ?b⟩
  case r => exact results_rhdC rfl _ _ (p + 1) _ (0, 0) rfl (by have := blkIs_new (w.alloc (.cells (hdC k n t m s c) 23)) (hdC k n t m s c) 28; rw [World.size_alloc, hp] at this; exact this) rfl
  case b => exact (below1 w _).alloc (by simp) _
set_option maxHeartbeats 8000000 in
theorem handleChecks_any (k s c : Int) (n t m : ByteArray) (w : World) (hn : n.size ≤ 1048576) (ht : t.size ≤ 1048576) (hm : m.size ≤ 1048576) (hg : SgAt w) : Calls Tryz.prog 3 #[.agg (hdC k n t m s c)] w fun e w' => e = .returned (.bool true) ∧ Below w.heap.size w w' := by
  obtain ⟨X, hX⟩ : ∃ X, hck k s c n t m = X := ⟨_, rfl⟩
  obtain ⟨h, hh⟩ : ∃ h, w.heap.size = h := ⟨_, rfl⟩
  obtain ⟨W2, hW2⟩ : ∃ W2, w.alloc (.cells (hdC k n t m s c) 23) = W2 := ⟨_, rfl⟩
  have hb2 : Below w.heap.size w W2 := by rw [← hW2]; exact below1 _ _
  have hS : BlkIs W2.drew h (hdC k n t m s c) 23 := by rw [← hW2, ← hh]; exact blkIs_new _ _ _
  have HOC := Lib.hid (fun W (hb : Below w.heap.size w W) => ocheck_any k s c n t m W hn ht hm (hg.below hb))
  have HRC := Lib.hid (fun W => rcheck_any k s c n t m W hn ht hm)
  rw [hX] at HOC HRC
  have HW2 := Lib.hid hW2; have HB2 := Lib.hid hb2
  clear hX hW2 hb2 hn ht hm hg
  go_enter Tryz.func3, Tryz.ntmps3
  go_upto_region 1 with fail
  rw [HW2.out]
  refine wp_region_textH (fun W => BlkIs W h (hdC k n t m s c) 23) [(0, false), (1, true), (2, true), (4, true), (3, false), (5, false), (6, false), (7, true), (8, true), (9, true)] (by kernel_rfl) (by kernel_rfl) (by kernel_rfl) (by kernel_rfl) hS ?_
  refine wpTxH_step rfl (fun K hK => ?_)
  go_simp
  refine (awake18_any _).mono ?_
  rintro e w3 ⟨rfl, hb3⟩
  have hS3 := hS.later hb3
  have HB3 := Lib.hid (HB2.out.trans (((Below.refl _ W2).drew.trans hb3).mono HB2.out.size))
  refine hK _ _ hS3 ?_
  clear hK K hb3 hS
  iterate 3 (refine wpTxH_take rfl (by kernel_rfl) (v := ?_) ?_ ?_; rotate_left; · (intro W hS; have t0 := hS.cell 0 _ rfl; have t1 := hS.cell 1 _ rfl; have t2 := hS.cell 2 _ rfl; have t3 := hS.cell 3 _ rfl; have t4 := hS.cell 4 _ rfl; have t5 := hS.cell 5 _ rfl; clear hS; go_simp; with_reducible rfl))
  refine wpTxH_step rfl (fun K hK => ?_)
  have HO := Lib.hid (HOC.out w3 HB3.out)
  go_simp
  refine (HO.out).mono ?_
  rintro e w4 ⟨rfl, hb4⟩
  have hS4 := hS3.later hb4
  have HB4 := Lib.hid (HB3.out.trans (hb4.mono HB3.out.size))
  refine hK _ _ hS4 ?_
  clear hK K hb4 hS3 HO
  refine wpTxH_step rfl (fun K hK => ?_)
  go_simp
  refine (handler_any k s c n t m w4).mono ?_
  rintro e w5 ⟨rfl, hb5⟩
  have hS5 := hS4.later hb5
  have HB5 := Lib.hid (HB4.out.trans (hb5.mono HB4.out.size))
  refine hK _ _ hS5 ?_
  clear hK K hb5 hS4
  refine wpTxH_step rfl (fun K hK => ?_)
  have HO := Lib.hid (HRC.out w5)
  go_simp
  refine (HO.out).mono ?_
  rintro e w6 ⟨rfl, hb6⟩
  have hS6 := hS5.later hb6
  have HB6 := Lib.hid (HB5.out.trans (hb6.mono HB5.out.size))
  refine hK _ _ hS6 ?_
  clear hK K hb6 hS5 HO
  iterate 3 (refine wpTxH_take rfl (by kernel_rfl) (v := ?_) ?_ ?_; rotate_left; · (intro W hS; clear hS; go_simp; with_reducible rfl))
  refine wpTxH_nil ?_
  go_simp
  go_wp2
  go_ret
  exact ⟨by first | rfl | simp, HB6.out⟩
end Go.Proofs.YtdlpbpikhmciaaaGreatDoor
