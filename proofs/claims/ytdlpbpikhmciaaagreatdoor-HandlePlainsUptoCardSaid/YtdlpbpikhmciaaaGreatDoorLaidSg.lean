/- What the listed variables hold: octet.signs. No conditions. -/
import Derived.Test.YtdlpbpikhmciaaaGreatDoorRows
import Derived.Test.YtdlpbpikhmciaaaGreatDoorOct1
import Derived.Lib.LaidTab
namespace Go.Proofs.YtdlpbpikhmciaaaGreatDoor
open Go.RowKit
set_option linter.unusedSimpArgs false
set_option linter.unusedVariables false
theorem laid_at {P : Program} {w : World} : ∀ (l : List (String × DataW Unit)) (ps : List MemPlace), DataW.LaidVars P w l ps → ∀ n d, (n, d) ∈ l → ∃ g t cs fuel p, P.globalNamed n = some g ∧ (P.globals[g]?).map (·.type) = some t ∧ w.var? P n = some cs ∧ DataW.trod (fun _ => ()) P w 0 (fun _ => true) false fuel t cs.toList = some (d, p)
  | [], _, _, n, d, h => by simp at h
  | (n0, d0) :: r, ps, h, n, d, hm => by
    obtain ⟨g, t, cs, fuel, p, q, h1, h2, h3, h4, h5, _⟩ := h
    rcases List.mem_cons.1 hm with e | hm
    · injection e with e1 e2
      subst e1; subst e2
      exact ⟨g, t, cs, fuel, p, h1, h2, h3, h4⟩
    · exact laid_at r q h5 n d hm
theorem tab_of_mem {P : Program} {W : World} {name : String} {k : IntKind} {zs : List Int} {l : List (String × DataW Unit)} {g : Nat} {t e : TypeId} {n : Nat}
    (hg : P.globalNamed name = some g) (hty : (P.globals[g]?).map (·.type) = some t) (ht : P.underlying t = some (.array n e)) (he : P.underlying e = some (.int k)) (hce : P.cellsOf e = 1) (hct : P.cellsOf t = n)
    (hm : (name, Lib.tabData k zs) ∈ l) (h : laidMet P l W) : Lib.TabIs P W name k zs := by
  obtain ⟨ps, hl, _⟩ := h
  obtain ⟨g', t', cs, fuel, p, hg', ht', hvar, hd⟩ := laid_at l ps hl name _ hm
  obtain rfl := Option.some.inj (hg.symm.trans hg')
  obtain rfl := Option.some.inj (hty.symm.trans ht')
  unfold Lib.TabIs
  rw [hvar, ← Lib.cells_of_tab ht he hce hct hd]
theorem gSigns : Tryz.prog.globalNamed "turnpike/octet.signs" = some 0 := by kernel_rfl
theorem gSignsType : (Tryz.prog.globals[0]?).map (·.type) = some 196 := by kernel_rfl
theorem sg_of_laid {W : World} {l : List (String × DataW Unit)} (hm : ("turnpike/octet.signs", (Rows.laid_turnpike_octet_signs : DataW Unit)) ∈ l) (h : laidMet Tryz.prog l W) : SgAt W := by
  have ht : Lib.TabIs Tryz.prog W "turnpike/octet.signs" .u32 [0, 67071226, 3355443198, 1476395007] := tab_of_mem gSigns gSignsType Tryz.underlying196 Tryz.underlying195 (by kernel_rfl) (by kernel_rfl) hm h
  exact ⟨ht.cell gSigns 0 (by decide), ht.cell gSigns 1 (by decide), ht.cell gSigns 2 (by decide), ht.cell gSigns 3 (by decide)⟩
end Go.Proofs.YtdlpbpikhmciaaaGreatDoor
