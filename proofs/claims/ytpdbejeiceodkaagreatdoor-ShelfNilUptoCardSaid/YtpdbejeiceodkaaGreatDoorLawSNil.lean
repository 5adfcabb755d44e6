/- The walk of turnpikelaw17.ShelfNil: true; the opening law of a wish. Conditions: bytealg's MaxLen holds an int; octet.signs holds what the text lays. -/
import Derived.Test.YtpdbejeiceodkaaGreatDoorShW
import Derived.ProofKit
import Derived.OpenShut
import Derived.ShutString
import Derived.JoinedCond
import Derived.SizedLaws
import Derived.Laws.ResultCell
namespace Go.Proofs.YtpdbejeiceodkaaGreatDoor
open Go.ChangeShapes Go.WideShapes Go.ChangeAt Go.RowKit
set_option linter.unusedSimpArgs false
set_option linter.unusedVariables false
set_option maxRecDepth 1000000
section
variable {base : Nat} {H : Type} {enc : TypeId × Value → H} {W : World} {v : Value} {d : DataW H} {p : List MemPlace}
abbrev Wsh := ByteArray × ByteArray × ByteArray × Bool × Bool × Bool
def wshC (l : Wsh) : Array Value := #[.string l.1, .string l.2.1, .string l.2.2.1, .bool l.2.2.2.1, .bool l.2.2.2.2.1, .bool l.2.2.2.2.2]
theorem cbH : Tryz.prog.cellsOf 4 = 1 := by kernel_rfl
theorem cstH : Tryz.prog.cellsOf 9 = 1 := by kernel_rfl
theorem cwiH : Tryz.prog.cellsOf 27 = 6 := by kernel_rfl
/-- A wish, handed over. -/
def WishIn (w : World) (v : Value) (l : Wsh) : Prop := v = .agg (wshC l)
theorem open_wish (hval : Value.okWide Tryz.prog W .any base 27 v) (h : DataW.Trod enc Tryz.prog W 0 (fun _ => true) true 27 v d p) : ∃ l, WishIn W v l ∧ 0 ≤ Rows.uptoBulk d := by
  obtain ⟨cs, rfl, hsz⟩ := okWide_struct Tryz.underlying27 hval
  obtain ⟨n, h⟩ := h
  obtain ⟨xs, k', hk, hxy, _, hxl, hf⟩ := DataW.trod_struct Tryz.underlying27 h
  have hl : (Value.agg cs).cells.toList.length = 6 := by rw [← cwiH, ← hsz]; simp [Value.cells]
  obtain ⟨L, hL⟩ : ∃ L, (Value.agg cs).cells.toList = L := ⟨_, rfl⟩
  rw [hL] at hf hl
  match xs, hxl, L, hl, hL, hf with
  | [y0, y1, y2, y3, y4, y5], _, [v0, v1, v2, v3, v4, v5], _, hL, hf =>
    have g0 := hf 0 _ rfl
    have g1 := hf 1 _ rfl
    have g2 := hf 2 _ rfl
    have g3 := hf 3 _ rfl
    have g4 := hf 4 _ rfl
    have g5 := hf 5 _ rfl
    simp [cbH, cstH] at g0 g1 g2 g3 g4 g5
    obtain ⟨s0, e0, f0, _⟩ := DataW.trod_string Tryz.underlying9 g0
    obtain ⟨s1, e1, f1, _⟩ := DataW.trod_string Tryz.underlying9 g1
    obtain ⟨s2, e2, f2, _⟩ := DataW.trod_string Tryz.underlying9 g2
    obtain ⟨b3, e3, f3⟩ := DataW.trod_bool Tryz.underlying4 g3
    obtain ⟨b4, e4, f4⟩ := DataW.trod_bool Tryz.underlying4 g4
    obtain ⟨b5, e5, f5⟩ := DataW.trod_bool Tryz.underlying4 g5
    simp only [List.cons.injEq, and_true] at e0 e1 e2 e3 e4 e5
    subst e0 e1 e2 e3 e4 e5
    refine ⟨(s0, s1, s2, b3, b4, b5), ?_, Nat.zero_le _⟩
    have he' : cs.toList = [.string s0, .string s1, .string s2, .bool b3, .bool b4, .bool b5] := by simpa [Value.cells] using hL
    have hcs : cs = #[.string s0, .string s1, .string s2, .bool b3, .bool b4, .bool b5] := Array.toList_inj.1 he'
    rw [hcs]
    rfl
end
theorem results_fileT {fn : Func} {p u : Tmp} (h : fn.results = #[.cell p 46, .tmp u]) (tmps : Array Value) (w : World) (g : Nat) (cs : Array Value) (fr : Nat × Nat)
    (hp : tmps.getD p undef = .pointer (some ⟨g, 0, none⟩)) (hg : w.heap[g]? = some (.cells cs 46 fr)) (hs : cs.size = 6) :
    (results fn tmps).run Tryz.prog w = .ok (.tuple #[.agg cs, tmps.getD u undef]) w := by
  rw [results_cell_tmp h, hp]
  have := run_loadVar_row (P := Tryz.prog) w g 46 46 cs fr _ hg Tryz.underlying46 rfl (by rw [hs]; kernel_rfl)
  simp [asAddr, this, Result.andThen]
theorem lenN (w : World) : Calls Tryz.prog 21 #[.pointer none] w fun e w' => e = .returned (.int .i64 0) ∧ w' = w := by
  go_enter Tryz.func21, Tryz.ntmps21
  go_wp2
  go_ret
  exact ⟨rfl, by first | rfl | trivial⟩
theorem fileN_leaf {w W : World} {B b : Nat} (hb : Below B w W) (hB : BlkIs W b zFlA 46) (hl : B ≤ b) :
    let W' := (((((W.setCell ⟨b, 0, none⟩ (.string ⟨#[]⟩)).setCell ⟨b, 1, none⟩ (.string ⟨#[]⟩)).setCell ⟨b, 2, none⟩ (.string ⟨#[]⟩)).setCell ⟨b, 3, none⟩ (.string ⟨#[]⟩)).setCell ⟨b, 4, none⟩ (.string ⟨#[]⟩)).setCell ⟨b, 5, none⟩ (.int .i64 0)
    BlkIs W' b zFlA 46 ∧ Below B w W' := ⟨(((((hB.set 0 _).set 1 _).set 2 _).set 3 _).set 4 _).set 5 _, sixBelow hb hl _ _ _ _ _ _⟩
set_option maxHeartbeats 4000000 in
theorem fileN (i : Int) (w : World) : Calls Tryz.prog 29 #[.pointer none, .int .i64 i] w fun e w' => e = .returned (.tuple #[.agg zFlA, .bool false]) ∧ Below w.heap.size w w' := by
  obtain ⟨W1, hW1⟩ : ∃ W1, w.alloc (.cells zFlA 46) = W1 := ⟨_, rfl⟩
  obtain ⟨b, hb⟩ : ∃ b, w.heap.size = b := ⟨_, rfl⟩
  have hbl : Below w.heap.size w W1 := by rw [← hW1]; exact (Below.refl _ w).alloc (Nat.le_refl _) _
  have hB : BlkIs W1 b zFlA 46 := by rw [← hW1, ← hb]; exact blkIs_new _ _ _
  have hbl' : Below b w W1 := by rw [← hb]; exact hbl
  have HL := Lib.hid (fileN_leaf hbl' hB (Nat.le_refl _)); have HL2 := Lib.hid (fileN_leaf hbl hB (by omega))
  have HW1 := Lib.hid hW1
  have z0 := hB.cell 0 _ rfl
  have z1 := hB.cell 1 _ rfl
  have z2 := hB.cell 2 _ rfl
  have z3 := hB.cell 3 _ rfl
  have z4 := hB.cell 4 _ rfl
  have z5 := hB.cell 5 _ rfl
  have y0 := hB.free 0
  have y1 := hB.free 1
  have y2 := hB.free 2
  have y3 := hB.free 3
  have y4 := hB.free 4
  have y5 := hB.free 5
  clear hbl hbl' hB hW1
  by_cases hi : i < 0
  · go_enter Tryz.func29, Tryz.ntmps29
    go_upto_region 1 with fail
    rw [HW1.out]
    go_wp2
    refine bodyPost_ret (v := .tuple #[.agg zFlA, .bool false]) ?r rfl ⟨rfl, HL.out.2⟩
    case r => exact results_fileT (p := 4) (u := 5) rfl _ _ b zFlA (0, 0) rfl HL.out.1 rfl
  · have hi2 : 0 ≤ i := by omega
    go_enter Tryz.func29, Tryz.ntmps29
    go_upto_region 1 with fail
    rw [HW1.out]
    go_wp2_with fail
    refine (lenN W1).mono ?_
    rintro e w2 ⟨rfl, hw2⟩
    subst hw2
    go_wp2
    refine bodyPost_ret (v := .tuple #[.agg zFlA, .bool false]) ?r rfl ⟨rfl, HL2.out.2⟩
    case r => exact results_fileT (p := 4) (u := 5) rfl _ _ b zFlA (0, 0) rfl HL.out.1 rfl
theorem tagN (i : Int) (w : World) : Calls Tryz.prog 31 #[.pointer none, .int .i64 i] w fun e w' => e = .returned (.tuple #[.string ⟨#[]⟩, .bool false]) ∧ Below w.heap.size w w' := by
  go_enter Tryz.func31, Tryz.ntmps31
  go_wp2_with fail
  refine (fileN i w).mono ?_
  rintro e w1 ⟨rfl, hb1⟩
  have HB := Lib.hid (hb1.alloc hb1.size (.cells zFlA 46))
  clear hb1
  go_wp2
  go_ret2
  exact ⟨rfl, HB.out⟩
theorem entN (pth : ByteArray) (w : World) : Calls Tryz.prog 22 #[.pointer none, .string pth] w fun e w' => e = .returned (.tuple #[.slice none 0 0, .bool false]) ∧ w' = w := by
  go_enter Tryz.func22, Tryz.ntmps22
  go_wp2
  go_ret2
  exact ⟨rfl, by first | rfl | trivial⟩
theorem varN (pth : ByteArray) (w : World) : Calls Tryz.prog 25 #[.pointer none, .string pth] w fun e w' => e = .returned (.slice none 0 0) ∧ w' = w := by
  go_enter Tryz.func25, Tryz.ntmps25
  go_wp2
  go_ret
  exact ⟨rfl, by first | rfl | trivial⟩
set_option maxHeartbeats 4000000 in
theorem findN (pth : ByteArray) (l : Wsh) (w : World) : Calls Tryz.prog 18 #[.pointer none, .string pth, .agg (wshC l)] w fun e w' => e = .returned (.agg zFnd) ∧ Below w.heap.size w w' := by
  obtain ⟨W1, hW1⟩ : ∃ W1, (w.alloc (.cells (wshC l) 27)).alloc (.cells zFnd 36) = W1 := ⟨_, rfl⟩
  obtain ⟨b1, hb1⟩ : ∃ b, w.heap.size = b := ⟨_, rfl⟩
  obtain ⟨b, hb⟩ : ∃ b, b1 + 1 = b := ⟨_, rfl⟩
  have hbl : Below w.heap.size w W1 := by rw [← hW1]; exact ((Below.refl _ w).alloc (Nat.le_refl _) _).alloc (by simp) _
  have hB : BlkIs W1 b zFnd 36 := by rw [← hW1, ← hb, ← hb1]; have := blkIs_new (w.alloc (.cells (wshC l) 27)) zFnd 36; rwa [World.size_alloc] at this
  have HW1 := Lib.hid hW1; have HB := Lib.hid (And.intro hbl (And.intro hB (show w.heap.size ≤ b by omega)))
  have z0 := hB.cell 0 _ rfl
  have z1 := hB.cell 1 _ rfl
  have z2 := hB.cell 2 _ rfl
  have z3 := hB.cell 3 _ rfl
  have y0 := hB.free 0
  have y1 := hB.free 1
  have y2 := hB.free 2
  have y3 := hB.free 3
  clear hbl hB hW1
  have HF := Lib.hid (show BlkIs ((((W1.setCell ⟨b, 0, none⟩ (.int .i64 0)).setCell ⟨b, 1, none⟩ (.int .i64 0)).setCell ⟨b, 2, none⟩ (.string ⟨#[]⟩)).setCell ⟨b, 3, none⟩ (.slice none 0 0)) b zFnd 36 from (((HB.out.2.1.set 0 _).set 1 _).set 2 _).set 3 _)
  obtain ⟨A, hA⟩ : ∃ A, wshC l = A := ⟨_, rfl⟩
  rw [hA] at HW1
  have HAA := Lib.hid hA
  rw [hA]
  clear hA
  go_enter Tryz.func18, Tryz.ntmps18
  go_upto_region 1 with fail
  rw [HW1.out]
  go_wp2
  refine bodyPost_ret (v := .agg zFnd) ?r rfl ⟨rfl, ?q⟩
  case r => exact results_cell_row rfl _ _ b 36 zFnd (0, 0) _ rfl HF.out Tryz.underlying36 rfl (by kernel_rfl)
  case q => exact (((HB.out.1.setCell (p := ⟨b, 0, none⟩) HB.out.2.2 _).setCell (p := ⟨b, 1, none⟩) HB.out.2.2 _).setCell (p := ⟨b, 2, none⟩) HB.out.2.2 _).setCell (p := ⟨b, 3, none⟩) HB.out.2.2 _
theorem txtsN (w : World) : Calls Tryz.prog 27 #[.slice none 0 0, .slice none 0 0] w fun e w' => e = .returned (.bool true) ∧ w' = w := by
  go_enter Tryz.func27, Tryz.ntmps27
  go_wp2
  refine wp_loop_rounds 1 ?_
  rw [rounds_succ]
  go_wp2
  go_ret
  exact ⟨rfl, by first | rfl | trivial⟩
set_option maxHeartbeats 4000000 in
theorem fndN (w : World) : Calls Tryz.prog 17 #[.agg zFnd, .agg zFnd] w fun e w' => e = .returned (.bool true) ∧ Below w.heap.size w w' := by
  obtain ⟨W1, hW1⟩ : ∃ W1, (w.alloc (.cells zFnd 36)).alloc (.cells zFnd 38) = W1 := ⟨_, rfl⟩
  obtain ⟨b1, hb1⟩ : ∃ b, w.heap.size = b := ⟨_, rfl⟩
  obtain ⟨b2, hb2⟩ : ∃ b, b1 + 1 = b := ⟨_, rfl⟩
  have hbl : Below w.heap.size w W1 := by rw [← hW1]; exact ((Below.refl _ w).alloc (Nat.le_refl _) _).alloc (by simp) _
  have hA : BlkIs W1 b1 zFnd 36 := by rw [← hW1, ← hb1]; exact (blkIs_new w _ _).alloc _
  have hB : BlkIs W1 b2 zFnd 38 := by rw [← hW1, ← hb2, ← hb1]; have := blkIs_new (w.alloc (.cells zFnd 36)) zFnd 38; rwa [World.size_alloc] at this
  have HW1 := Lib.hid hW1; have HB := Lib.hid hbl
  have a0 := hA.cell 0 _ rfl
  have a1 := hA.cell 1 _ rfl
  have a2 := hA.cell 2 _ rfl
  have a3 := hA.cell 3 _ rfl
  have z0 := hB.cell 0 _ rfl
  have z1 := hB.cell 1 _ rfl
  have z2 := hB.cell 2 _ rfl
  have z3 := hB.cell 3 _ rfl
  clear hbl hA hB hW1
  go_enter Tryz.func17, Tryz.ntmps17
  go_upto_region 1 with fail
  rw [HW1.out]
  go_wp2_with fail
  refine (txtsN W1).mono ?_
  rintro e w2 ⟨rfl, hw2⟩
  subst hw2
  go_wp2
  go_ret
  exact ⟨rfl, HB.out⟩
set_option maxHeartbeats 8000000 in
theorem shelfNil_any (pth : ByteArray) (i : Int) (l : Wsh) (mm : Int) (w : World) (hx : w.cell? ⟨0, 0, none⟩ = some (.int .i64 mm)) (hg : SgAt w) :
    Calls Tryz.prog 10 #[.string pth, .int .i64 i, .agg (wshC l)] w fun e w' => e = .returned (.bool true) ∧ Below w.heap.size w w' := by
  obtain ⟨W1, hW1⟩ : ∃ W1, w.alloc (.cells (wshC l) 27) = W1 := ⟨_, rfl⟩
  obtain ⟨b1, hb1⟩ : ∃ b, w.heap.size = b := ⟨_, rfl⟩
  have hbl : Below w.heap.size w W1 := by rw [← hW1]; exact (Below.refl _ w).alloc (Nat.le_refl _) _
  have hA : BlkIs W1 b1 (wshC l) 27 := by rw [← hW1, ← hb1]; exact blkIs_new _ _ _
  have HW1 := Lib.hid hW1; have HB1 := Lib.hid (And.intro hbl hA); have HX := Lib.hid (And.intro hx hg)
  have HFN := Lib.hid (fun W => findN pth l W)
  clear hbl hA hW1 hx hg
  obtain ⟨⟨s0, s1, s2, p3, p4, p5⟩, hle⟩ : ∃ l', l = l' := ⟨l, rfl⟩
  subst hle
  go_enter Tryz.func10, Tryz.ntmps10
  go_upto_region 1 with fail
  have HWX := Lib.hid (show w.alloc (.cells #[.string s0, .string s1, .string s2, .bool p3, .bool p4, .bool p5] 27) = W1 from HW1.out)
  try rw [HWX.out]
  try rw [HW1.out]
  go_wp2_with fail
  refine (fileN i W1).mono ?_
  rintro e w2 ⟨rfl, hb2⟩
  obtain ⟨W3, hW3⟩ : ∃ W3, w2.alloc (.cells zFlA 46) = W3 := ⟨_, rfl⟩
  obtain ⟨b2, hbf⟩ : ∃ b, w2.heap.size = b := ⟨_, rfl⟩
  have hb23 : Below w2.heap.size w2 W3 := by rw [← hW3]; exact (Below.refl _ w2).alloc (Nat.le_refl _) _
  have hb13 : Below W1.heap.size W1 W3 := hb2.trans (hb23.mono hb2.size)
  have HB3 := Lib.hid (And.intro (HB1.out.1.trans (hb13.mono HB1.out.1.size)) (And.intro (HB1.out.2.later hb13) (show BlkIs W3 b2 zFlA 46 by rw [← hW3, ← hbf]; exact blkIs_new _ _ _)))
  have HW3 := Lib.hid hW3
  clear hb2 hb23 hb13 hW3
  go_upto_region 3 with fail
  rw [HW3.out]
  go_wp2_with fail
  refine (tagN i W3).mono ?_
  rintro e w4 ⟨rfl, hb4⟩
  have HB4 := Lib.hid (And.intro (HB3.out.1.trans (hb4.mono HB3.out.1.size)) (And.intro (HB3.out.2.1.later hb4) (HB3.out.2.2.later hb4)))
  clear hb4
  go_wp2_with fail
  refine (entN pth w4).mono ?_
  rintro e w5 ⟨rfl, hw5⟩
  subst hw5
  go_wp2_with fail
  refine (awake17_any mm w5 (mx_later (B := 0) HX.out.1 HB4.out.1) (HX.out.2.below HB4.out.1)).mono ?_
  rintro e w6 ⟨rfl, hb6⟩
  have HB6 := Lib.hid (And.intro (HB4.out.1.trans (hb6.mono HB4.out.1.size)) (And.intro (HB4.out.2.1.later hb6) (HB4.out.2.2.later hb6)))
  clear hb6
  go_wp2_with fail
  refine (lenN w6).mono ?_
  rintro e w7 ⟨rfl, hw7⟩
  subst hw7
  have z0 := HB6.out.2.2.cell 0 _ rfl
  have z1 := HB6.out.2.2.cell 1 _ rfl
  have z2 := HB6.out.2.2.cell 2 _ rfl
  have z3 := HB6.out.2.2.cell 3 _ rfl
  have z4 := HB6.out.2.2.cell 4 _ rfl
  have z5 := HB6.out.2.2.cell 5 _ rfl
  go_wp2_with fail
  refine (varN pth w7).mono ?_
  rintro e w8 ⟨rfl, hw8⟩
  subst hw8
  have a0 : w8.cell? ⟨b1, 0, none⟩ = some (.string s0) := HB6.out.2.1.cell 0 _ rfl
  have a1 : w8.cell? ⟨b1, 1, none⟩ = some (.string s1) := HB6.out.2.1.cell 1 _ rfl
  have a2 : w8.cell? ⟨b1, 2, none⟩ = some (.string s2) := HB6.out.2.1.cell 2 _ rfl
  have a3 : w8.cell? ⟨b1, 3, none⟩ = some (.bool p3) := HB6.out.2.1.cell 3 _ rfl
  have a4 : w8.cell? ⟨b1, 4, none⟩ = some (.bool p4) := HB6.out.2.1.cell 4 _ rfl
  have a5 : w8.cell? ⟨b1, 5, none⟩ = some (.bool p5) := HB6.out.2.1.cell 5 _ rfl
  go_wp2_with fail
  refine (HFN.out w8).mono ?_
  rintro e w9 ⟨rfl, hb9⟩
  have HB9 := Lib.hid (HB6.out.1.trans (hb9.mono HB6.out.1.size))
  clear hb9 z0 z1 z2 z3 z4 z5 a0 a1 a2 a3 a4 a5
  go_wp2_with fail
  refine (fndN w9).mono ?_
  rintro e w10 ⟨rfl, hb10⟩
  have HB10 := Lib.hid (HB9.out.trans (hb10.mono HB9.out.size))
  clear hb10
  go_wp2
  go_ret
  exact ⟨rfl, HB10.out⟩
theorem shelfNil_row (pth : ByteArray) (i : Int) (v2 : Value) (l : Wsh) (W : World) (hL : laidMetH Tryz.prog Rows.shelfNilUptoRow.laid W) (hsh : W.ShapedOpen Tryz.prog) (hs : (0 : Nat) ≤ 1) (h2 : WishIn W v2 l) :
    Calls Tryz.prog 10 #[.string pth, .int .i64 i, v2] W fun e W' => e = .returned (.bool true) ∧ Below W.heap.size W W' := by
  obtain ⟨m, hm⟩ := Tryz.laysM145.s1_3 W hsh
  unfold WishIn at h2
  subst h2
  exact shelfNil_any pth i l m W hm (sg_of_laid (l := Rows.shelfNilUptoRow.laid) (by simp [Rows.shelfNilUptoRow]) hL)
end Go.Proofs.YtpdbejeiceodkaaGreatDoor
