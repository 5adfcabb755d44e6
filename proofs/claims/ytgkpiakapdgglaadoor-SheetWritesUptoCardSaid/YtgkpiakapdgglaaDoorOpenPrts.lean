/- A reading of a list of parts, opened: the cells, and that its bulk bounds the texts. No conditions. -/
import Derived.Test.YtgkpiakapdgglaaDoorRows
import Derived.Test.YtgkpiakapdgglaaDoorPrtM
import Derived.Deep.Slices
import Derived.ChangeArms
import Derived.OpenShut
namespace Go.Proofs.YtgkpiakapdgglaaDoor
open Go.ChangeShapes Go.WideShapes Go.ChangeAt Go.RowKit
set_option linter.unusedSimpArgs false
set_option linter.unusedVariables false
set_option maxRecDepth 100000
theorem bulkAll_app {H : Type} (a b : List (DataW H)) : Rows.uptoBulkAll (a ++ b) = Rows.uptoBulkAll a + Rows.uptoBulkAll b := by
  induction a with
  | nil => simp [Rows.uptoBulkAll]
  | cons d r ih => simp only [List.cons_append, Rows.uptoBulkAll, ih]; omega
theorem bulk_prt {H : Type} (D : Nat → DataW H) (n : Nat) (f : Nat → Prt) (h : ∀ i, i < n → D i = .agg [.lit (.string (f i).name), .lit (.string (f i).file), .lit (.string (f i).media), .lit (.string (f i).body), .lit (.bool (f i).has)]) :
    totQ ((List.range n).map f) + n ≤ Rows.uptoBulkAll ((List.range n).map D) := by
  induction n with
  | zero => simp [totQ]
  | succ n ih =>
    have := ih (fun i hi => h i (by omega))
    rw [List.range_succ, List.map_append, List.map_append, totQ_append, bulkAll_app]
    have hn := h n (by omega)
    simp only [List.map_cons, List.map_nil, totQ, prtLen, hn, Rows.uptoBulkAll, Rows.uptoBulk]
    omega
theorem addq (b o j : Nat) : (⟨b, o, none⟩ : Addr).add j = ⟨b, o + j, none⟩ := by unfold Addr.add; split <;> simp_all
theorem addqq (b o j k : Nat) : ((⟨b, o, none⟩ : Addr).add j).add k = ⟨b, o + j + k, none⟩ := by rw [addq, addq]
theorem cell_ltq {w : World} {a : Addr} {v : Value} (h : w.cell? a = some v) : a.block < w.heap.size := World.block_lt_of_cell? _ _ h
theorem str_eqq (s : ByteArray) : (⟨s.data.toList.toArray⟩ : ByteArray) = s := by simp
instance : Inhabited Prt := ⟨⟨[], [], [], [], false⟩⟩
theorem open_parts {base : Nat} {H : Type} {enc : TypeId × Value → H} {W : World} {v : Value} {d : DataW H} {p : List MemPlace} (hval : Value.okWide Tryd.prog W .any base 38 v) (h : DataW.Trod enc Tryd.prog W 0 (fun _ => true) true 38 v d p) :
    ∃ L, PrtsIn W v L ∧ totQ L + L.length ≤ Rows.uptoBulk d := by
  obtain ⟨so, sl, sc, rfl⟩ := okWide_slice Tryd.underlying38 hval
  obtain ⟨n, h⟩ := h
  rcases Go.Deep.open_slice Tryd.underlying38 h with ⟨hc, hx⟩ | ⟨a, len, cap, m, k, D, Pl, hc, _, hl, hm, hmm, hx, hall⟩
  · have hc' : Value.slice so sl sc = .slice none 0 0 := by simpa [Value.cells] using hc
    exact ⟨[], ⟨none, 0, hc', fun i p hp => by simp at hp⟩, Nat.zero_le _⟩
  · have hc' : Value.slice so sl sc = .slice (some a) len cap := by simpa [Value.cells] using hc
    simp only [if_true] at hmm
    subst hmm
    simp only [Prod.mk.injEq] at hx
    have hce : Tryd.prog.cellsOf 73 = 5 := by kernel_rfl
    have each : ∀ i, i < m → ∃ q : Prt, W.cell? (a.add (i * 5)) = some (.string ⟨q.name.toArray⟩) ∧ W.cell? ((a.add (i * 5)).add 1) = some (.string ⟨q.file.toArray⟩) ∧ W.cell? ((a.add (i * 5)).add 2) = some (.string ⟨q.media.toArray⟩) ∧ W.cell? ((a.add (i * 5)).add 3) = some (.string ⟨q.body.toArray⟩) ∧ W.cell? ((a.add (i * 5)).add 4) = some (.bool q.has) ∧ D i = .agg [.lit (.string q.name), .lit (.string q.file), .lit (.string q.media), .lit (.string q.body), .lit (.bool q.has)] := by
      intro i hi
      obtain ⟨cs', h1, h2⟩ := hall i hi
      rw [hce] at h1
      obtain ⟨_, hlen, hcell⟩ := World.cells?_some h1
      obtain ⟨xs, k', hk, hxy, _, hxl, hf⟩ := DataW.trod_struct Tryd.underlying73 h2
      match xs, hxl, cs', hlen with
      | [y0, y1, y2, y3, y4], _, [v0, v1, v2, v3, v4], _ =>
        have g0 := hf 0 _ rfl
        have g1 := hf 1 _ rfl
        have g2 := hf 2 _ rfl
        have g3 := hf 3 _ rfl
        have g4 := hf 4 _ rfl
        have cb : Tryd.prog.cellsOf 4 = 1 := by kernel_rfl
        have cs : Tryd.prog.cellsOf 9 = 1 := by kernel_rfl
        simp [cb, cs] at g0 g1 g2 g3 g4
        obtain ⟨s0, e0, f0, _⟩ := DataW.trod_string Tryd.underlying9 g0
        obtain ⟨s1, e1, f1, _⟩ := DataW.trod_string Tryd.underlying9 g1
        obtain ⟨s2, e2, f2, _⟩ := DataW.trod_string Tryd.underlying9 g2
        obtain ⟨s3, e3, f3, _⟩ := DataW.trod_string Tryd.underlying9 g3
        obtain ⟨b4, e4, f4⟩ := DataW.trod_bool Tryd.underlying4 g4
        simp only [List.cons.injEq, and_true] at e0 e1 e2 e3 e4
        subst e0 e1 e2 e3 e4 f0 f1 f2 f3 f4
        have c0 := hcell 0 (by omega)
        have c1 := hcell 1 (by omega)
        have c2 := hcell 2 (by omega)
        have c3 := hcell 3 (by omega)
        have c4 := hcell 4 (by omega)
        simp only [Prod.mk.injEq] at hxy
        refine ⟨⟨s0.data.toList, s1.data.toList, s2.data.toList, s3.data.toList, b4⟩, ?_, by rw [str_eqq]; simpa using c1, by rw [str_eqq]; simpa using c2, by rw [str_eqq]; simpa using c3, by simpa using c4, by simpa using hxy.1⟩
        have : (a.add (i * 5)).add 0 = a.add (i * 5) := by simp [Addr.add]
        rw [this] at c0
        rw [str_eqq]
        simpa using c0
    obtain ⟨q, hq⟩ := Go.Deep.choose_lt each
    refine ⟨(List.range len).map q, ⟨some a, _, by simpa using hc', fun i p hp => ?_⟩, ?_⟩
    · have hi : i < len := by
        have := (List.getElem?_eq_some_iff.1 hp).1
        simpa using this
      have hpi : q i = p := by simpa [hi] using hp
      obtain ⟨c0, c1, c2, c3, c4, _⟩ := hq i (by omega)
      obtain ⟨b, o, spot⟩ := a
      have hspot : spot = none := by simpa [Addr.add] using World.cell?_spot (hq 0 (by omega)).1
      subst hspot
      rw [addqq] at c1 c2 c3 c4
      rw [addq] at c0
      refine ⟨b, o, rfl, ?_, ?_, ?_, ?_, ?_, ?_⟩
      · rw [← hpi]; exact c0
      · rw [← hpi]; exact c1
      · rw [← hpi]; exact c2
      · rw [← hpi]; exact c3
      · rw [← hpi]; exact c4
      · have := cell_ltq c0
        exact this
    · rw [hx.1]
      simp only [Rows.uptoBulk, List.length_map, List.length_range]
      have := bulk_prt D len q (fun i hi => (hq i (by omega)).2.2.2.2.2)
      omega
end Go.Proofs.YtgkpiakapdgglaaDoor
