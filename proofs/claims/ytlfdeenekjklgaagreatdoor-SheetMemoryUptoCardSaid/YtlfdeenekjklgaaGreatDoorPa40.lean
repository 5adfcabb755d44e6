/- The row of SheetMemory. Conditions: what is read is small. -/
import Derived.Test.YtlfdeenekjklgaaGreatDoorPk38
import Derived.Test.YtlfdeenekjklgaaGreatDoorPa39
import Derived.LaidHandle
import Derived.LaidSub
namespace Go.Proofs.YtlfdeenekjklgaaGreatDoor
open Go.ChangeShapes Go.WideShapes Go.ChangeAt Go.RowKit
set_option linter.unusedSimpArgs false
set_option linter.unusedVariables false
set_option maxRecDepth 1000000
/-- What is asked. -/
def AskIn (w : World) (v : Value) (f : List UInt8 × List UInt8 × List UInt8 × List UInt8) : Prop := v = .agg #[.string ⟨f.1.toArray⟩, .string ⟨f.2.1.toArray⟩, .string ⟨f.2.2.1.toArray⟩, .string ⟨f.2.2.2.toArray⟩]
def askLen (f : List UInt8 × List UInt8 × List UInt8 × List UInt8) : Nat := f.1.length + f.2.1.length + f.2.2.1.length + f.2.2.2.length
section
variable {base : Nat} {H : Type} {enc : TypeId × Value → H} {W : World} {v : Value} {d : DataW H} {p : List MemPlace}
theorem csA : Tryz.prog.cellsOf 9 = 1 := by kernel_rfl
theorem cfA : Tryz.prog.cellsOf 36 = 4 := by kernel_rfl
theorem open_sasked (hval : Value.okWide Tryz.prog W .any base 36 v) (h : DataW.Trod enc Tryz.prog W 0 (fun _ => true) true 36 v d p) : ∃ f, AskIn W v f ∧ askLen f ≤ Rows.uptoBulk d := by
  obtain ⟨cs, rfl, hsz⟩ := okWide_struct Tryz.underlying36 hval
  obtain ⟨n, h⟩ := h
  obtain ⟨xs, k', hk, hxy, _, hxl, hf⟩ := DataW.trod_struct Tryz.underlying36 h
  have hl : (Value.agg cs).cells.toList.length = 4 := by rw [← cfA, ← hsz]; simp [Value.cells]
  obtain ⟨L, hL⟩ : ∃ L, (Value.agg cs).cells.toList = L := ⟨_, rfl⟩
  rw [hL] at hf hl
  match xs, hxl, L, hl, hL, hf with
  | [y0, y1, y2, y3], _, [v0, v1, v2, v3], _, hL, hf =>
    have g0 := hf 0 _ rfl
    have g1 := hf 1 _ rfl
    have g2 := hf 2 _ rfl
    have g3 := hf 3 _ rfl
    simp [csA] at g0 g1 g2 g3
    obtain ⟨s0, e0, f0, _⟩ := DataW.trod_string Tryz.underlying9 g0
    obtain ⟨s1, e1, f1, _⟩ := DataW.trod_string Tryz.underlying9 g1
    obtain ⟨s2, e2, f2, _⟩ := DataW.trod_string Tryz.underlying9 g2
    obtain ⟨s3, e3, f3, _⟩ := DataW.trod_string Tryz.underlying9 g3
    simp only [List.cons.injEq, and_true] at e0 e1 e2 e3
    subst e0 e1 e2 e3 f0 f1 f2 f3
    simp only [Prod.mk.injEq] at hxy
    have hd : d = .agg [.lit (.string s0.data.toList), .lit (.string s1.data.toList), .lit (.string s2.data.toList), .lit (.string s3.data.toList)] := by simpa using hxy.1
    refine ⟨⟨s0.data.toList, s1.data.toList, s2.data.toList, s3.data.toList⟩, ?_, ?_⟩
    · have he' : cs.toList = [.string s0, .string s1, .string s2, .string s3] := by simpa [Value.cells] using hL
      have hcs : cs = #[.string s0, .string s1, .string s2, .string s3] := Array.toList_inj.1 he'
      rw [hcs]
      rfl
    · rw [hd]
      simp only [askLen, Rows.uptoBulk, Rows.uptoBulkAll]
      omega
end
theorem sheetMemory_row (v : Value) (f : List UInt8 × List UInt8 × List UInt8 × List UInt8) (W : World) (hL : laidMetH Tryz.prog Rows.sheetMemoryUptoRow.laid W) (hsh : W.ShapedOpen Tryz.prog) (hs : askLen f ≤ 1048576) (h : AskIn W v f) :
    Calls Tryz.prog 5 #[v] W fun e W' => e = .returned (.bool true) ∧ Below W.heap.size W W' := by
  obtain ⟨m, hm⟩ := Tryz.laysM144.s1_3 W hsh
  have hl : laidMet Tryz.prog (Rows.sheetMemoryUptoRow.laid.filter fun x => x.2.handleName?.isNone) W := hL.1
  have hh : handlesMet Tryz.prog _ W := hL.2
  unfold AskIn at h
  subst h
  unfold askLen at hs
  exact sheetMemory_any f.1 f.2.1 f.2.2.1 f.2.2.2 m W (by omega) (by omega) (by omega) (by omega) hm (sg_of_laid (mem_laid 1 (by kernel_rfl)) hl) (err_of_laid (mem_laid 0 (by kernel_rfl)) hh)
end Go.Proofs.YtlfdeenekjklgaaGreatDoor
