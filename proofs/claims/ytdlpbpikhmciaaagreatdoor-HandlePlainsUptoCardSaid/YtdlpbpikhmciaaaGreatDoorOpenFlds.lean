/- A reading of a list of fields, opened: the cells, and that its bulk bounds the texts. No conditions. -/
import Derived.Test.YtdlpbpikhmciaaaGreatDoorRows
import Derived.Test.YtdlpbpikhmciaaaGreatDoorHdL
import Derived.Deep.Slices
import Derived.ChangeArms
import Derived.OpenShut
namespace Go.Proofs.YtdlpbpikhmciaaaGreatDoor
open Go.ChangeShapes Go.WideShapes Go.ChangeAt Go.RowKit
set_option linter.unusedSimpArgs false
set_option linter.unusedVariables false
set_option maxRecDepth 100000
theorem bulkAll_append {H : Type} (a b : List (DataW H)) : Rows.uptoBulkAll (a ++ b) = Rows.uptoBulkAll a + Rows.uptoBulkAll b := by
  induction a with
  | nil => simp [Rows.uptoBulkAll]
  | cons d r ih => simp only [List.cons_append, Rows.uptoBulkAll, ih]; omega
theorem totF_append (a b : List Fld) : totF (a ++ b) = totF a + totF b := by
  induction a with
  | nil => simp [totF]
  | cons p r ih => show p.1.length + p.2.length + totF (r ++ b) = p.1.length + p.2.length + totF r + totF b; rw [ih]; omega
theorem bulk_fld {H : Type} (D : Nat → DataW H) (n : Nat) (f : Nat → Fld) (h : ∀ i, i < n → D i = .agg [.lit (.string (f i).1), .lit (.string (f i).2)]) :
    totF ((List.range n).map f) + n ≤ Rows.uptoBulkAll ((List.range n).map D) := by
  induction n with
  | zero => simp [totF]
  | succ n ih =>
    have := ih (fun i hi => h i (by omega))
    rw [List.range_succ, List.map_append, List.map_append, totF_append, bulkAll_append]
    have hn := h n (by omega)
    simp only [List.map_cons, List.map_nil, totF, hn, Rows.uptoBulkAll, Rows.uptoBulk]
    omega
theorem add1 (b o j : Nat) : (⟨b, o, none⟩ : Addr).add j = ⟨b, o + j, none⟩ := by unfold Addr.add; split <;> simp_all
theorem add3 (b o j k : Nat) : ((⟨b, o, none⟩ : Addr).add j).add k = ⟨b, o + j + k, none⟩ := by rw [add1, add1]
theorem cell_lt {w : World} {a : Addr} {v : Value} (h : w.cell? a = some v) : a.block < w.heap.size := World.block_lt_of_cell? _ _ h
theorem open_flds {base : Nat} {H : Type} {enc : TypeId × Value → H} {W : World} {v : Value} {d : DataW H} {p : List MemPlace} (hval : Value.okWide Tryz.prog W .any base 41 v) (h : DataW.Trod enc Tryz.prog W 0 (fun _ => true) true 41 v d p) :
    ∃ L, FldsIn W v L ∧ totF L + L.length ≤ Rows.uptoBulk d := by
  obtain ⟨so, sl, sc, rfl⟩ := okWide_slice Tryz.underlying41 hval
  obtain ⟨n, h⟩ := h
  rcases Go.Deep.open_slice Tryz.underlying41 h with ⟨hc, hx⟩ | ⟨a, len, cap, m, k, D, Pl, hc, _, hl, hm, hmm, hx, hall⟩
  · have hc' : Value.slice so sl sc = .slice none 0 0 := by simpa [Value.cells] using hc
    exact ⟨[], ⟨none, 0, hc', fun i p hp => by simp at hp⟩, Nat.zero_le _⟩
  · have hc' : Value.slice so sl sc = .slice (some a) len cap := by simpa [Value.cells] using hc
    simp only [if_true] at hmm
    subst hmm
    simp only [Prod.mk.injEq] at hx
    have hce : Tryz.prog.cellsOf 43 = 2 := by kernel_rfl
    have each : ∀ i, i < m → ∃ q : Fld, W.cell? (a.add (i * 2)) = some (.string ⟨q.1.toArray⟩) ∧ W.cell? ((a.add (i * 2)).add 1) = some (.string ⟨q.2.toArray⟩) ∧ D i = .agg [.lit (.string q.1), .lit (.string q.2)] := by
      intro i hi
      obtain ⟨cs', h1, h2⟩ := hall i hi
      rw [hce] at h1
      obtain ⟨_, hlen, hcell⟩ := World.cells?_some h1
      obtain ⟨xs, k', hk, hxy, _, hxl, hf⟩ := DataW.trod_struct Tryz.underlying43 h2
      match xs, hxl, cs', hlen with
      | [y0, y1], _, [v0, v1], _ =>
        have g0 := hf 0 _ rfl
        have g1 := hf 1 _ rfl
        have cs : Tryz.prog.cellsOf 9 = 1 := by kernel_rfl
        simp [cs] at g0 g1
        obtain ⟨s0, e0, f0, _⟩ := DataW.trod_string Tryz.underlying9 g0
        obtain ⟨s1, e1, f1, _⟩ := DataW.trod_string Tryz.underlying9 g1
        simp only [List.cons.injEq, and_true] at e0 e1
        subst e0 e1 f0 f1
        have c0 := hcell 0 (by omega)
        have c1 := hcell 1 (by omega)
        simp only [Prod.mk.injEq] at hxy
        refine ⟨(s0.data.toList, s1.data.toList), ?_, by rw [str_eq]; simpa using c1, by simpa using hxy.1⟩
        have : (a.add (i * 2)).add 0 = a.add (i * 2) := by simp [Addr.add]
        rw [this] at c0
        rw [str_eq]
        simpa using c0
    obtain ⟨q, hq⟩ := Go.Deep.choose_lt each
    refine ⟨(List.range len).map q, ⟨some a, _, by simpa using hc', fun i p hp => ?_⟩, ?_⟩
    · have hi : i < len := by
        have := (List.getElem?_eq_some_iff.1 hp).1
        simpa using this
      have hpi : q i = p := by simpa [hi] using hp
      obtain ⟨c0, c1, _⟩ := hq i (by omega)
      obtain ⟨b, o, spot⟩ := a
      have hspot : spot = none := by simpa [Addr.add] using World.cell?_spot (hq 0 (by omega)).1
      subst hspot
      rw [add3] at c1
      rw [add1] at c0
      refine ⟨b, o, rfl, ?_, ?_, ?_⟩
      · have := cell_lt c0
        exact this
      · rw [← hpi]; exact c0
      · rw [← hpi]; exact c1
    · rw [hx.1]
      simp only [Rows.uptoBulk, List.length_map, List.length_range]
      have := bulk_fld D len q (fun i hi => (hq i (by omega)).2.2)
      omega
end Go.Proofs.YtdlpbpikhmciaaaGreatDoor
