/- LaidSg, LaidPow, LawSHUp: texts of the seat, one behind the other (a claim holds at most sixty). Conditions: each theorem names its own. -/
import Derived.Test.YtdlpbpikhmciaaaGreatDoorRows
import Derived.Test.YtdlpbpikhmciaaaGreatDoorPk03
import Derived.Lib.LaidTab
import Derived.Test.YtdlpbpikhmciaaaGreatDoorPk13
import Derived.Test.YtdlpbpikhmciaaaGreatDoorPa31
import Derived.LaidHandle
import Derived.LaidSub
namespace Go.Proofs.YtdlpbpikhmciaaaGreatDoor
open Go.RowKit
set_option linter.unusedSimpArgs false
set_option linter.unusedVariables false
theorem laid_at {P : Program} {w : World} : ∀ (l : List (String × DataW Unit)) (ps : List MemPlace), DataW.LaidVars P w l ps → ∀ n d, (n, d) ∈ l → ∃ g t cs fuel p, P.globalNamed n = some g ∧ (P.globals[g]?).map (·.type) = some t ∧ w.var? P n = some cs ∧ DataW.trod (fun _ => ()) P w 0 (fun _ => true) false fuel t cs.toList = some (d, p)
  | [], _, _, n, d, h => by simp at h
  | (n0, d0) :: r, ps, h, n, d, hm => by
    obtain ⟨g, t, cs, fuel, p, q, h1, h2, h3, h4, h5, _⟩ := h
    rcases List.mem_cons.1 hm with e | hm
    · injection e with e1 e2
      subst e1; subst e2
      exact ⟨g, t, cs, fuel, p, h1, h2, h3, h4⟩
    · exact laid_at r q h5 n d hm
theorem tab_of_mem {P : Program} {W : World} {name : String} {k : IntKind} {zs : List Int} {l : List (String × DataW Unit)} {g : Nat} {t e : TypeId} {n : Nat}
    (hg : P.globalNamed name = some g) (hty : (P.globals[g]?).map (·.type) = some t) (ht : P.underlying t = some (.array n e)) (he : P.underlying e = some (.int k)) (hce : P.cellsOf e = 1) (hct : P.cellsOf t = n)
    (hm : (name, Lib.tabData k zs) ∈ l) (h : laidMet P l W) : Lib.TabIs P W name k zs := by
  obtain ⟨ps, hl, _⟩ := h
  obtain ⟨g', t', cs, fuel, p, hg', ht', hvar, hd⟩ := laid_at l ps hl name _ hm
  obtain rfl := Option.some.inj (hg.symm.trans hg')
  obtain rfl := Option.some.inj (hty.symm.trans ht')
  unfold Lib.TabIs
  rw [hvar, ← Lib.cells_of_tab ht he hce hct hd]
theorem gSigns : Tryz.prog.globalNamed "turnpike/octet.signs" = some 0 := by kernel_rfl
theorem gSignsType : (Tryz.prog.globals[0]?).map (·.type) = some 196 := by kernel_rfl
theorem sg_of_laid {W : World} {l : List (String × DataW Unit)} (hm : ("turnpike/octet.signs", (Rows.laid_turnpike_octet_signs : DataW Unit)) ∈ l) (h : laidMet Tryz.prog l W) : SgAt W := by
  have ht : Lib.TabIs Tryz.prog W "turnpike/octet.signs" .u32 [0, 67071226, 3355443198, 1476395007] := tab_of_mem gSigns gSignsType Tryz.underlying196 Tryz.underlying195 (by kernel_rfl) (by kernel_rfl) hm h
  exact ⟨ht.cell gSigns 0 (by decide), ht.cell gSigns 1 (by decide), ht.cell gSigns 2 (by decide), ht.cell gSigns 3 (by decide)⟩
end Go.Proofs.YtdlpbpikhmciaaaGreatDoor
namespace Go.Proofs.YtdlpbpikhmciaaaGreatDoor
open Go.RowKit
set_option linter.unusedSimpArgs false
set_option linter.unusedVariables false
theorem gPowType : (Tryz.prog.globals[1]?).map (·.type) = some 242 := by kernel_rfl
theorem pow_data : (Rows.laid_internal_strconv_uint64pow10 : DataW Unit) = Lib.tabData .u64 Lib.pow10Tab := rfl
theorem pow_of_laid {W : World} {l : List (String × DataW Unit)} (hm : ("internal/strconv.uint64pow10", (Rows.laid_internal_strconv_uint64pow10 : DataW Unit)) ∈ l) (h : laidMet Tryz.prog l W) : PowAt W :=
  tab_of_mem gPow gPowType Tryz.underlying242 Tryz.underlying204 (by kernel_rfl) (by kernel_rfl) (by rw [← pow_data]; exact hm) h
end Go.Proofs.YtdlpbpikhmciaaaGreatDoor
namespace Go.Proofs.YtdlpbpikhmciaaaGreatDoor
open Go.RowKit
set_option linter.unusedVariables false
theorem int_wf {n : Int} (h : (Lit.int .i64 n).wf = true) : -9223372036854775808 ≤ n ∧ n ≤ 9223372036854775807 := by
  simp only [Lit.wf, Bool.and_eq_true, decide_eq_true_eq] at h
  have h1 : IntKind.i64.min = -9223372036854775808 := by decide
  have h2 : IntKind.i64.max = 9223372036854775807 := by decide
  omega
theorem handleUpgrades_row (s : ByteArray) (n : Int) (W : World) (hL : laidMetH Tryz.prog Rows.handleUpgradesUptoRow.laid W) (hsh : W.ShapedOpen Tryz.prog) (hs : s.size ≤ 1048576) (hw : (Lit.int .i64 n).wf = true) :
    Calls Tryz.prog 7 #[.string s, .int .i64 n] W fun e W' => e = .returned (.bool true) ∧ Below W.heap.size W W' := by
  have hl : s.data.toList.length ≤ 1048576 := by rw [size_list]; exact hs
  have := handleUpgrades_any s.data.toList n W hl (int_wf hw).1 (int_wf hw).2 (sg_of_laid (l := Rows.handleUpgradesUptoRow.laid.filter fun x => x.2.handleName?.isNone) (List.mem_filter.2 ⟨by simp [Rows.handleUpgradesUptoRow], rfl⟩) (laidMetH_iff.1 hL).1) (pow_of_laid (l := Rows.handleUpgradesUptoRow.laid.filter fun x => x.2.handleName?.isNone) (List.mem_filter.2 ⟨by simp [Rows.handleUpgradesUptoRow], rfl⟩) (laidMetH_iff.1 hL).1)
  exact this
end Go.Proofs.YtdlpbpikhmciaaaGreatDoor
