/- The opening law of a handler; the row of HandleChecks. Conditions: octet.signs holds what the text lays. -/
import Derived.Test.YtdlpbpikhmciaaaGreatDoorLawHCk
import Derived.Test.YtdlpbpikhmciaaaGreatDoorLaidSg
import Derived.ProofKit
import Derived.OpenShut
import Derived.ShutString
import Derived.JoinedCond
import Derived.SizedLaws
import Derived.LaidHandle
import Derived.LaidSub
namespace Go.Proofs.YtdlpbpikhmciaaaGreatDoor
open Go.ChangeShapes Go.WideShapes Go.ChangeAt Go.RowKit
set_option linter.unusedSimpArgs false
set_option linter.unusedVariables false
set_option maxRecDepth 1000000
section
variable {base : Nat} {H : Type} {enc : TypeId × Value → H} {W : World} {v : Value} {d : DataW H} {p : List MemPlace}
abbrev Hdl := Int × ByteArray × ByteArray × ByteArray × Int × Int
/-- A handler, handed over. -/
def HdlIn (w : World) (v : Value) (l : Hdl) : Prop := v = .agg (hdC l.1 l.2.1 l.2.2.1 l.2.2.2.1 l.2.2.2.2.1 l.2.2.2.2.2)
def hdlLen (l : Hdl) : Nat := l.2.1.size + l.2.2.1.size + l.2.2.2.1.size
theorem ciH : Tryz.prog.cellsOf 3 = 1 := by kernel_rfl
theorem csH : Tryz.prog.cellsOf 9 = 1 := by kernel_rfl
theorem chH : Tryz.prog.cellsOf 23 = 6 := by kernel_rfl
theorem open_handler (hval : Value.okWide Tryz.prog W .any base 23 v) (h : DataW.Trod enc Tryz.prog W 0 (fun _ => true) true 23 v d p) : ∃ l, HdlIn W v l ∧ hdlLen l ≤ Rows.uptoBulk d := by
  obtain ⟨cs, rfl, hsz⟩ := okWide_struct Tryz.underlying23 hval
  obtain ⟨n, h⟩ := h
  obtain ⟨xs, k', hk, hxy, _, hxl, hf⟩ := DataW.trod_struct Tryz.underlying23 h
  have hl : (Value.agg cs).cells.toList.length = 6 := by rw [← chH, ← hsz]; simp [Value.cells]
  obtain ⟨L, hL⟩ : ∃ L, (Value.agg cs).cells.toList = L := ⟨_, rfl⟩
  rw [hL] at hf hl
  match xs, hxl, L, hl, hL, hf with
  | [y0, y1, y2, y3, y4, y5], _, [v0, v1, v2, v3, v4, v5], _, hL, hf =>
    have g0 := hf 0 _ rfl
    have g1 := hf 1 _ rfl
    have g2 := hf 2 _ rfl
    have g3 := hf 3 _ rfl
    have g4 := hf 4 _ rfl
    have g5 := hf 5 _ rfl
    simp [ciH, csH] at g0 g1 g2 g3 g4 g5
    obtain ⟨i0, e0, f0, _⟩ := DataW.trod_int Tryz.underlying3 g0
    obtain ⟨s1, e1, f1, _⟩ := DataW.trod_string Tryz.underlying9 g1
    obtain ⟨s2, e2, f2, _⟩ := DataW.trod_string Tryz.underlying9 g2
    obtain ⟨s3, e3, f3, _⟩ := DataW.trod_string Tryz.underlying9 g3
    obtain ⟨i4, e4, f4, _⟩ := DataW.trod_int Tryz.underlying3 g4
    obtain ⟨i5, e5, f5, _⟩ := DataW.trod_int Tryz.underlying3 g5
    simp only [List.cons.injEq, and_true] at e0 e1 e2 e3 e4 e5
    subst e0 e1 e2 e3 e4 e5 f0 f1 f2 f3 f4 f5
    refine ⟨(i0, s1, s2, s3, i4, i5), ?_, ?_⟩
    · have he' : cs.toList = [.int .i64 i0, .string s1, .string s2, .string s3, .int .i64 i4, .int .i64 i5] := by simpa [Value.cells] using hL
      have hcs : cs = #[.int .i64 i0, .string s1, .string s2, .string s3, .int .i64 i4, .int .i64 i5] := Array.toList_inj.1 he'
      rw [hcs]
      rfl
    · simp only [Prod.mk.injEq] at hxy
      rw [hxy.1]
      simp only [List.map_cons, List.map_nil, Rows.uptoBulk, Rows.uptoBulkAll, hdlLen, size_list]
      omega
end
theorem handleChecks_row (v : Value) (l : Hdl) (W : World) (hL : laidMetH Tryz.prog Rows.handleChecksUptoRow.laid W) (hsh : W.ShapedOpen Tryz.prog) (hs : hdlLen l ≤ 1048576) (h : HdlIn W v l) :
    Calls Tryz.prog 3 #[v] W fun e W' => e = .returned (.bool true) ∧ Below W.heap.size W W' := by
  unfold HdlIn at h
  subst h
  obtain ⟨k, n, t, m, s, c⟩ := l
  unfold hdlLen at hs
  simp only at hs
  exact handleChecks_any k s c n t m W (by omega) (by omega) (by omega) (sg_of_laid (l := Rows.handleChecksUptoRow.laid.filter fun x => x.2.handleName?.isNone) (List.mem_filter.2 ⟨by simp [Rows.handleChecksUptoRow], rfl⟩) (laidMetH_iff.1 hL).1)
end Go.Proofs.YtdlpbpikhmciaaaGreatDoor
