/- LaidSg, LaidPow, LaidDays, LawSHCo: texts of the seat, one behind the other (a claim holds at most sixty). Conditions: each theorem names its own. -/
import Derived.Test.YtdlpbpikhmciaaaGreatDoorRows
import Derived.Test.YtdlpbpikhmciaaaGreatDoorPk03
import Derived.Lib.LaidTab
import Derived.Test.YtdlpbpikhmciaaaGreatDoorPk09
import Derived.Test.YtdlpbpikhmciaaaGreatDoorPa10
import Derived.ChangeArms
import Derived.Test.YtdlpbpikhmciaaaGreatDoorPa22
import Derived.LaidHandle
import Derived.LaidSub
namespace Go.Proofs.YtdlpbpikhmciaaaGreatDoor
open Go.RowKit
set_option linter.unusedSimpArgs false
set_option linter.unusedVariables false
theorem laid_at {P : Program} {w : World} : ∀ (l : List (String × DataW Unit)) (ps : List MemPlace), DataW.LaidVars P w l ps → ∀ n d, (n, d) ∈ l → ∃ g t cs fuel p, P.globalNamed n = some g ∧ (P.globals[g]?).map (·.type) = some t ∧ w.var? P n = some cs ∧ DataW.trod (fun _ => ()) P w 0 (fun _ => true) false fuel t cs.toList = some (d, p)
  | [], _, _, n, d, h => by simp at h
  | (n0, d0) :: r, ps, h, n, d, hm => by
    obtain ⟨g, t, cs, fuel, p, q, h1, h2, h3, h4, h5, _⟩ := h
    rcases List.mem_cons.1 hm with e | hm
    · injection e with e1 e2
      subst e1; subst e2
      exact ⟨g, t, cs, fuel, p, h1, h2, h3, h4⟩
    · exact laid_at r q h5 n d hm
theorem tab_of_mem {P : Program} {W : World} {name : String} {k : IntKind} {zs : List Int} {l : List (String × DataW Unit)} {g : Nat} {t e : TypeId} {n : Nat}
    (hg : P.globalNamed name = some g) (hty : (P.globals[g]?).map (·.type) = some t) (ht : P.underlying t = some (.array n e)) (he : P.underlying e = some (.int k)) (hce : P.cellsOf e = 1) (hct : P.cellsOf t = n)
    (hm : (name, Lib.tabData k zs) ∈ l) (h : laidMet P l W) : Lib.TabIs P W name k zs := by
  obtain ⟨ps, hl, _⟩ := h
  obtain ⟨g', t', cs, fuel, p, hg', ht', hvar, hd⟩ := laid_at l ps hl name _ hm
  obtain rfl := Option.some.inj (hg.symm.trans hg')
  obtain rfl := Option.some.inj (hty.symm.trans ht')
  unfold Lib.TabIs
  rw [hvar, ← Lib.cells_of_tab ht he hce hct hd]
theorem gSigns : Tryz.prog.globalNamed "turnpike/octet.signs" = some 0 := by kernel_rfl
theorem gSignsType : (Tryz.prog.globals[0]?).map (·.type) = some 196 := by kernel_rfl
theorem sg_of_laid {W : World} {l : List (String × DataW Unit)} (hm : ("turnpike/octet.signs", (Rows.laid_turnpike_octet_signs : DataW Unit)) ∈ l) (h : laidMet Tryz.prog l W) : SgAt W := by
  have ht : Lib.TabIs Tryz.prog W "turnpike/octet.signs" .u32 [0, 67071226, 3355443198, 1476395007] := tab_of_mem gSigns gSignsType Tryz.underlying196 Tryz.underlying195 (by kernel_rfl) (by kernel_rfl) hm h
  exact ⟨ht.cell gSigns 0 (by decide), ht.cell gSigns 1 (by decide), ht.cell gSigns 2 (by decide), ht.cell gSigns 3 (by decide)⟩
end Go.Proofs.YtdlpbpikhmciaaaGreatDoor
namespace Go.Proofs.YtdlpbpikhmciaaaGreatDoor
open Go.RowKit
set_option linter.unusedSimpArgs false
set_option linter.unusedVariables false
theorem gPowType : (Tryz.prog.globals[1]?).map (·.type) = some 242 := by kernel_rfl
theorem pow_data : (Rows.laid_internal_strconv_uint64pow10 : DataW Unit) = Lib.tabData .u64 Lib.pow10Tab := rfl
theorem pow_of_laid {W : World} {l : List (String × DataW Unit)} (hm : ("internal/strconv.uint64pow10", (Rows.laid_internal_strconv_uint64pow10 : DataW Unit)) ∈ l) (h : laidMet Tryz.prog l W) : PowAt W :=
  tab_of_mem gPow gPowType Tryz.underlying242 Tryz.underlying204 (by kernel_rfl) (by kernel_rfl) (by rw [← pow_data]; exact hm) h
end Go.Proofs.YtdlpbpikhmciaaaGreatDoor
namespace Go.Proofs.YtdlpbpikhmciaaaGreatDoor
open Go.RowKit
set_option linter.unusedSimpArgs false
set_option linter.unusedVariables false
theorem cells_of_strs {H : Type} {enc : TypeId × Value → H} {P : Program} {w : World} {base : Nat} {sp : Nat → Bool} {held : Bool} {fuel : Nat} {t e : TypeId} {n : Nat} {cs : List Value} {zs : List (List UInt8)} {p : List MemPlace}
    (ht : P.underlying t = some (.array n e)) (he : P.underlying e = some .string) (hce : P.cellsOf e = 1) (hct : P.cellsOf t = n)
    (h : DataW.trod enc P w base sp held fuel t cs = some (.agg (zs.map fun z => .lit (.string z)), p)) : cs = zs.map fun z => Value.string ⟨z.toArray⟩ := by
  cases fuel with
  | zero => simp [DataW.trod] at h
  | succ fuel =>
    simp only [DataW.trod, ht, hce, hct, Nat.mul_one] at h
    split at h
    · rename_i hl
      obtain ⟨xs, hm, hx⟩ := Option.map_eq_some_iff.1 h
      have hxs : xs.map (·.1) = zs.map fun z => (DataW.lit (.string z) : DataW H) := by
        have := congrArg Prod.fst hx
        simpa using this
      have hxl : xs.length = n := by simpa using Lib.mapM_length hm
      have hzl : zs.length = n := by
        have := congrArg List.length hxs
        simp at this
        omega
      apply List.ext_getElem?
      intro i
      by_cases hi : i < n
      · obtain ⟨b, hb, hf⟩ := Lib.mapM_at hm i i (by simp [hi])
        obtain ⟨z, hc, rfl, _⟩ := DataW.trod_string he hf
        have h1 : cs[i]? = some (.string z) := by
          have := congrArg (·[0]?) hc
          simpa [List.getElem?_take, List.getElem?_drop] using this
        have h2 : (xs.map (·.1))[i]? = some (DataW.lit (.string z.data.toList) : DataW H) := by simp [hb]
        rw [hxs] at h2
        simp only [List.getElem?_map, Option.map_eq_some_iff, DataW.lit.injEq, Lit.string.injEq] at h2
        obtain ⟨z', hz', rfl⟩ := h2
        simp [h1, hz']
      · rw [List.getElem?_eq_none (by omega), List.getElem?_eq_none (by simp; omega)]
    · cases h
theorem strs_of_mem {P : Program} {W : World} {name : String} {zs : List (List UInt8)} {l : List (String × DataW Unit)} {g : Nat} {t e : TypeId} {n : Nat}
    (hg : P.globalNamed name = some g) (hty : (P.globals[g]?).map (·.type) = some t) (ht : P.underlying t = some (.array n e)) (he : P.underlying e = some .string) (hce : P.cellsOf e = 1) (hct : P.cellsOf t = n)
    (hm : (name, .agg (zs.map fun z => .lit (.string z))) ∈ l) (h : laidMet P l W) (i : Nat) (z : List UInt8) (hi : zs[i]? = some z) : W.cell? ⟨g, i, none⟩ = some (.string ⟨z.toArray⟩) := by
  obtain ⟨ps, hl, _⟩ := h
  obtain ⟨g', t', cs, fuel, p, hg', ht', hvar, hd⟩ := laid_at l ps hl name _ hm
  obtain rfl := Option.some.inj (hg.symm.trans hg')
  obtain rfl := Option.some.inj (hty.symm.trans ht')
  have hc := cells_of_strs ht he hce hct hd
  have hcs : cs = (zs.map fun z => Value.string ⟨z.toArray⟩).toArray := by rw [← hc]
  rw [hcs] at hvar
  have := World.var?_cell hg hvar i
  rw [this]
  simp [hi]
theorem gDays : Tryz.prog.globalNamed "turnpike/stamp.weekdays" = some 2 := by kernel_rfl
theorem gDaysType : (Tryz.prog.globals[2]?).map (·.type) = some 260 := by kernel_rfl
theorem gMonths : Tryz.prog.globalNamed "turnpike/stamp.months" = some 3 := by kernel_rfl
theorem gMonthsType : (Tryz.prog.globals[3]?).map (·.type) = some 261 := by kernel_rfl
theorem days_of_laid {W : World} {l : List (String × DataW Unit)} (hm : ("turnpike/stamp.weekdays", (Rows.laid_turnpike_stamp_weekdays : DataW Unit)) ∈ l) (hm2 : ("turnpike/stamp.months", (Rows.laid_turnpike_stamp_months : DataW Unit)) ∈ l) (h : laidMet Tryz.prog l W) : DaysAt W :=
  ⟨strs_of_mem (zs := [[77, 111, 110, 100, 97, 121], [84, 117, 101, 115, 100, 97, 121], [87, 101, 100, 110, 101, 115, 100, 97, 121], [84, 104, 117, 114, 115, 100, 97, 121], [70, 114, 105, 100, 97, 121], [83, 97, 116, 117, 114, 100, 97, 121], [83, 117, 110, 100, 97, 121]]) gDays gDaysType Tryz.underlying260 Tryz.underlying9 (by kernel_rfl) (by kernel_rfl) hm h 3 _ rfl,
   strs_of_mem (zs := [[74, 97, 110], [70, 101, 98], [77, 97, 114], [65, 112, 114], [77, 97, 121], [74, 117, 110], [74, 117, 108], [65, 117, 103], [83, 101, 112], [79, 99, 116], [78, 111, 118], [68, 101, 99]]) gMonths gMonthsType Tryz.underlying261 Tryz.underlying9 (by kernel_rfl) (by kernel_rfl) hm2 h 0 _ rfl⟩
end Go.Proofs.YtdlpbpikhmciaaaGreatDoor
namespace Go.Proofs.YtdlpbpikhmciaaaGreatDoor
open Go.RowKit
set_option linter.unusedVariables false
theorem ck_wf {n : Int} (h : (Lit.int .i64 n).wf = true) : -9223372036854775808 ≤ n ∧ n ≤ 9223372036854775807 := by
  simp only [Lit.wf, Bool.and_eq_true, decide_eq_true_eq] at h
  have h1 : IntKind.i64.min = -9223372036854775808 := by decide
  have h2 : IntKind.i64.max = 9223372036854775807 := by decide
  omega
theorem handleCounts_row (s : ByteArray) (f n : Int) (W : World) (hL : laidMetH Tryz.prog Rows.handleCountsUptoRow.laid W) (hsh : W.ShapedOpen Tryz.prog) (hs : s.size ≤ 1048576) (hf : (Lit.int .i64 f).wf = true) (hw : (Lit.int .i64 n).wf = true) :
    Calls Tryz.prog 6 #[.string s, .int .i64 f, .int .i64 n] W fun e W' => e = .returned (.bool true) ∧ Below W.heap.size W W' := by
  obtain ⟨mm, hm⟩ := Tryz.laysM145.s1_3 W hsh
  have hl := (laidMetH_iff.1 hL).1
  have hg := sg_of_laid (l := Rows.handleCountsUptoRow.laid.filter fun x => x.2.handleName?.isNone) (List.mem_filter.2 ⟨by simp [Rows.handleCountsUptoRow], rfl⟩) hl
  have hP := pow_of_laid (l := Rows.handleCountsUptoRow.laid.filter fun x => x.2.handleName?.isNone) (List.mem_filter.2 ⟨by simp [Rows.handleCountsUptoRow], rfl⟩) hl
  have hD := days_of_laid (l := Rows.handleCountsUptoRow.laid.filter fun x => x.2.handleName?.isNone) (List.mem_filter.2 ⟨by simp [Rows.handleCountsUptoRow], rfl⟩) (List.mem_filter.2 ⟨by simp [Rows.handleCountsUptoRow], rfl⟩) hl
  by_cases ht : isTok s.data.toList = true
  · by_cases h4 : 4000 < s.size
    · exact handleCounts_no s f n W hs (.inr ⟨ht, .inl h4⟩)
    · by_cases h0 : f < 0
      · exact handleCounts_no s f n W hs (.inr ⟨ht, .inr ⟨by omega, .inl h0⟩⟩)
      · by_cases h9 : 999999999 < f
        · exact handleCounts_no s f n W hs (.inr ⟨ht, .inr ⟨by omega, .inr ⟨by omega, h9⟩⟩⟩)
        · obtain ⟨F, rfl⟩ : ∃ F : Nat, f = (F : Int) := ⟨f.toNat, by omega⟩
          exact handleCounts_yes s.data.toList F n mm W ht (by rw [size_list]; omega) (by omega) (ck_wf hw).1 (ck_wf hw).2 hm hg hP hD
  · exact handleCounts_no s f n W hs (.inl (by simpa using ht))
end Go.Proofs.YtdlpbpikhmciaaaGreatDoor
