/- OpenFils, LaidPow, LawSTnR: texts of the seat, one behind the other (a claim holds at most sixty). Conditions: each theorem names its own. -/
import Derived.Test.YtpdbejeiceodkaaGreatDoorRows
import Derived.Test.YtpdbejeiceodkaaGreatDoorPk20
import Derived.Deep.Slices
import Derived.ChangeArms
import Derived.OpenShut
import Derived.Test.YtpdbejeiceodkaaGreatDoorPk37
import Derived.Test.YtpdbejeiceodkaaGreatDoorPk18
import Derived.Test.YtpdbejeiceodkaaGreatDoorPk39
import Derived.LaidHandle
import Derived.LaidSub
namespace Go.Proofs.YtpdbejeiceodkaaGreatDoor
open Go.ChangeShapes Go.WideShapes Go.ChangeAt Go.RowKit
set_option linter.unusedSimpArgs false
set_option linter.unusedVariables false
set_option maxRecDepth 100000
theorem bulkAll_append {H : Type} (a b : List (DataW H)) : Rows.uptoBulkAll (a ++ b) = Rows.uptoBulkAll a + Rows.uptoBulkAll b := by
  induction a with
  | nil => simp [Rows.uptoBulkAll]
  | cons d r ih => simp only [List.cons_append, Rows.uptoBulkAll, ih]; omega
instance : Inhabited Fil := ⟨⟨[], [], [], [], [], 0⟩⟩
def filD {H : Type} (f : Fil) : List (DataW H) := [.lit (.string f.p), .lit (.string f.m), .lit (.string f.c), .lit (.string f.l), .lit (.string f.b), .lit (.int .i64 f.t)]
theorem totG_append' (a b : List Fil) : totG (a ++ b) = totG a + totG b := by
  induction a with
  | nil => simp [totG]
  | cons p r ih => show filLen p + totG (r ++ b) = filLen p + totG r + totG b; rw [ih]; omega
theorem bulk_fil {H : Type} (D : Nat → DataW H) (n : Nat) (f : Nat → Fil) (h : ∀ i, i < n → D i = .agg (filD (f i))) :
    totG ((List.range n).map f) + n ≤ Rows.uptoBulkAll ((List.range n).map D) := by
  induction n with
  | zero => simp [totG]
  | succ n ih =>
    have := ih (fun i hi => h i (by omega))
    rw [List.range_succ, List.map_append, List.map_append, totG_append', bulkAll_append]
    have hn := h n (by omega)
    simp only [List.map_cons, List.map_nil, totG, hn, filD, filLen, Rows.uptoBulkAll, Rows.uptoBulk]
    omega
theorem add1 (b o j : Nat) : (⟨b, o, none⟩ : Addr).add j = ⟨b, o + j, none⟩ := by unfold Addr.add; split <;> simp_all
theorem add3 (b o j k : Nat) : ((⟨b, o, none⟩ : Addr).add j).add k = ⟨b, o + j + k, none⟩ := by rw [add1, add1]
theorem cell_lt {w : World} {a : Addr} {v : Value} (h : w.cell? a = some v) : a.block < w.heap.size := World.block_lt_of_cell? _ _ h
theorem open_fils {base : Nat} {H : Type} {enc : TypeId × Value → H} {W : World} {v : Value} {d : DataW H} {p : List MemPlace} (hval : Value.okWide Tryz.prog W .any base 25 v) (h : DataW.Trod enc Tryz.prog W 0 (fun _ => true) true 25 v d p) :
    ∃ L, FilsIn W v L ∧ totG L + L.length ≤ Rows.uptoBulk d := by
  obtain ⟨so, sl, sc, rfl⟩ := okWide_slice Tryz.underlying25 hval
  obtain ⟨n, h⟩ := h
  rcases Go.Deep.open_slice Tryz.underlying25 h with ⟨hc, hx⟩ | ⟨a, len, cap, m, k, D, Pl, hc, _, hl, hm, hmm, hx, hall⟩
  · have hc' : Value.slice so sl sc = .slice none 0 0 := by simpa [Value.cells] using hc
    exact ⟨[], ⟨none, 0, hc', fun i p hp => by simp at hp⟩, Nat.zero_le _⟩
  · have hc' : Value.slice so sl sc = .slice (some a) len cap := by simpa [Value.cells] using hc
    simp only [if_true] at hmm
    subst hmm
    simp only [Prod.mk.injEq] at hx
    have hce : Tryz.prog.cellsOf 46 = 6 := by kernel_rfl
    have each : ∀ i, i < m → ∃ q : Fil, (W.cell? (a.add (i * 6)) = some (.string ⟨q.p.toArray⟩) ∧ W.cell? ((a.add (i * 6)).add 1) = some (.string ⟨q.m.toArray⟩) ∧ W.cell? ((a.add (i * 6)).add 2) = some (.string ⟨q.c.toArray⟩) ∧ W.cell? ((a.add (i * 6)).add 3) = some (.string ⟨q.l.toArray⟩) ∧ W.cell? ((a.add (i * 6)).add 4) = some (.string ⟨q.b.toArray⟩) ∧ W.cell? ((a.add (i * 6)).add 5) = some (.int .i64 q.t)) ∧ D i = .agg (filD q) := by
      intro i hi
      obtain ⟨cs', h1, h2⟩ := hall i hi
      rw [hce] at h1
      obtain ⟨_, hlen, hcell⟩ := World.cells?_some h1
      obtain ⟨xs, k', hk, hxy, _, hxl, hf⟩ := DataW.trod_struct Tryz.underlying46 h2
      match xs, hxl, cs', hlen with
      | [y0, y1, y2, y3, y4, y5], _, [v0, v1, v2, v3, v4, v5], _ =>
        have g0 := hf 0 _ rfl
        have g1 := hf 1 _ rfl
        have g2 := hf 2 _ rfl
        have g3 := hf 3 _ rfl
        have g4 := hf 4 _ rfl
        have g5 := hf 5 _ rfl
        have cb : Tryz.prog.cellsOf 3 = 1 := by kernel_rfl
        have cs : Tryz.prog.cellsOf 9 = 1 := by kernel_rfl
        simp [cb, cs] at g0 g1 g2 g3 g4 g5
        obtain ⟨s0, e0, f0, _⟩ := DataW.trod_string Tryz.underlying9 g0
        obtain ⟨s1, e1, f1, _⟩ := DataW.trod_string Tryz.underlying9 g1
        obtain ⟨s2, e2, f2, _⟩ := DataW.trod_string Tryz.underlying9 g2
        obtain ⟨s3, e3, f3, _⟩ := DataW.trod_string Tryz.underlying9 g3
        obtain ⟨s4, e4, f4, _⟩ := DataW.trod_string Tryz.underlying9 g4
        obtain ⟨n5, e5, f5, _⟩ := DataW.trod_int Tryz.underlying3 g5
        simp only [List.cons.injEq, and_true] at e0 e1 e2 e3 e4 e5
        subst e0 e1 e2 e3 e4 e5 f0 f1 f2 f3 f4 f5
        have c0 := hcell 0 (by omega)
        have c1 := hcell 1 (by omega)
        have c2 := hcell 2 (by omega)
        have c3 := hcell 3 (by omega)
        have c4 := hcell 4 (by omega)
        have c5 := hcell 5 (by omega)
        simp only [Prod.mk.injEq] at hxy
        have : (a.add (i * 6)).add 0 = a.add (i * 6) := by simp [Addr.add]
        rw [this] at c0
        refine ⟨⟨s0.data.toList, s1.data.toList, s2.data.toList, s3.data.toList, s4.data.toList, n5⟩, ⟨by rw [str_eq]; simpa using c0, by rw [str_eq]; simpa using c1, by rw [str_eq]; simpa using c2, by rw [str_eq]; simpa using c3, by rw [str_eq]; simpa using c4, by simpa using c5⟩, by simpa [filD] using hxy.1⟩
    obtain ⟨q, hq⟩ := Go.Deep.choose_lt each
    refine ⟨(List.range len).map q, ⟨some a, _, by simpa using hc', fun i p hp => ?_⟩, ?_⟩
    · have hi : i < len := by
        have := (List.getElem?_eq_some_iff.1 hp).1
        simpa using this
      have hpi : q i = p := by simpa [hi] using hp
      obtain ⟨⟨c0, c1, c2, c3, c4, c5⟩, _⟩ := hq i (by omega)
      obtain ⟨b, o, spot⟩ := a
      have hspot : spot = none := by simpa [Addr.add] using World.cell?_spot (hq 0 (by omega)).1.1
      subst hspot
      rw [add3] at c1 c2 c3 c4 c5
      rw [add1] at c0
      rw [← hpi]
      exact ⟨b, o, rfl, c0, c1, c2, c3, c4, c5, cell_lt c0⟩
    · rw [hx.1]
      simp only [Rows.uptoBulk, List.length_map, List.length_range]
      have := bulk_fil D len q (fun i hi => (hq i (by omega)).2)
      omega
end Go.Proofs.YtpdbejeiceodkaaGreatDoor
namespace Go.Proofs.YtpdbejeiceodkaaGreatDoor
open Go.RowKit
set_option linter.unusedSimpArgs false
set_option linter.unusedVariables false
theorem gPowType : (Tryz.prog.globals[2]?).map (·.type) = some 275 := by kernel_rfl
theorem pow_data : (Rows.laid_internal_strconv_uint64pow10 : DataW Unit) = Lib.tabData .u64 Lib.pow10Tab := rfl
theorem pow_of_laid {W : World} {l : List (String × DataW Unit)} (hm : ("internal/strconv.uint64pow10", (Rows.laid_internal_strconv_uint64pow10 : DataW Unit)) ∈ l) (h : laidMet Tryz.prog l W) : PowAt W :=
  tab_of_mem gPow gPowType Tryz.underlying275 Tryz.underlying115 (by kernel_rfl) (by kernel_rfl) (by rw [← pow_data]; exact hm) h
end Go.Proofs.YtpdbejeiceodkaaGreatDoor
namespace Go.Proofs.YtpdbejeiceodkaaGreatDoor
open Go.ChangeShapes Go.WideShapes Go.ChangeAt Go.RowKit
set_option linter.unusedSimpArgs false
set_option linter.unusedVariables false
set_option maxRecDepth 1000000
section
variable {base : Nat} {H : Type} {enc : TypeId × Value → H} {W : World} {v : Value} {d : DataW H} {p : List MemPlace}
theorem ciF : Tryz.prog.cellsOf 3 = 1 := by kernel_rfl
theorem csF : Tryz.prog.cellsOf 9 = 1 := by kernel_rfl
theorem cfF : Tryz.prog.cellsOf 46 = 6 := by kernel_rfl
/-- A file, handed over. -/
def FileIn (w : World) (v : Value) (f : Fil) : Prop := v = .agg (fC f.p f.m f.c f.l f.b f.t)
theorem open_file (hval : Value.okWide Tryz.prog W .any base 46 v) (h : DataW.Trod enc Tryz.prog W 0 (fun _ => true) true 46 v d p) : ∃ f, FileIn W v f ∧ filLen f ≤ Rows.uptoBulk d := by
  obtain ⟨cs, rfl, hsz⟩ := okWide_struct Tryz.underlying46 hval
  obtain ⟨n, h⟩ := h
  obtain ⟨xs, k', hk, hxy, _, hxl, hf⟩ := DataW.trod_struct Tryz.underlying46 h
  have hl : (Value.agg cs).cells.toList.length = 6 := by rw [← cfF, ← hsz]; simp [Value.cells]
  obtain ⟨L, hL⟩ : ∃ L, (Value.agg cs).cells.toList = L := ⟨_, rfl⟩
  rw [hL] at hf hl
  match xs, hxl, L, hl, hL, hf with
  | [y0, y1, y2, y3, y4, y5], _, [v0, v1, v2, v3, v4, v5], _, hL, hf =>
    have g0 := hf 0 _ rfl
    have g1 := hf 1 _ rfl
    have g2 := hf 2 _ rfl
    have g3 := hf 3 _ rfl
    have g4 := hf 4 _ rfl
    have g5 := hf 5 _ rfl
    simp [ciF, csF] at g0 g1 g2 g3 g4 g5
    obtain ⟨s0, e0, f0, _⟩ := DataW.trod_string Tryz.underlying9 g0
    obtain ⟨s1, e1, f1, _⟩ := DataW.trod_string Tryz.underlying9 g1
    obtain ⟨s2, e2, f2, _⟩ := DataW.trod_string Tryz.underlying9 g2
    obtain ⟨s3, e3, f3, _⟩ := DataW.trod_string Tryz.underlying9 g3
    obtain ⟨s4, e4, f4, _⟩ := DataW.trod_string Tryz.underlying9 g4
    obtain ⟨n5, e5, f5, _⟩ := DataW.trod_int Tryz.underlying3 g5
    simp only [List.cons.injEq, and_true] at e0 e1 e2 e3 e4 e5
    subst e0 e1 e2 e3 e4 e5 f0 f1 f2 f3 f4 f5
    simp only [Prod.mk.injEq] at hxy
    have hd : d = .agg (filD ⟨s0.data.toList, s1.data.toList, s2.data.toList, s3.data.toList, s4.data.toList, n5⟩) := by simpa [filD] using hxy.1
    refine ⟨⟨s0.data.toList, s1.data.toList, s2.data.toList, s3.data.toList, s4.data.toList, n5⟩, ?_, ?_⟩
    · have he' : cs.toList = [.string s0, .string s1, .string s2, .string s3, .string s4, .int .i64 n5] := by simpa [Value.cells] using hL
      have hcs : cs = #[.string s0, .string s1, .string s2, .string s3, .string s4, .int .i64 n5] := Array.toList_inj.1 he'
      rw [hcs]
      rfl
    · rw [hd]
      simp only [filD, filLen, Rows.uptoBulk, Rows.uptoBulkAll]
      omega
end
theorem shelfTurns_row (v : Value) (f : Fil) (i b : Int) (W : World) (hL : laidMetH Tryz.prog Rows.shelfTurnsUptoRow.laid W) (hsh : W.ShapedOpen Tryz.prog) (hs : filLen f ≤ 1048576) (h : FileIn W v f) (hw : (Lit.int .u8 b).wf = true) :
    Calls Tryz.prog 11 #[v, .int .i64 i, .int .u8 b] W fun e W' => e = .returned (.bool true) ∧ Below W.heap.size W W' := by
  obtain ⟨m, hm⟩ := Tryz.laysM145.s1_3 W hsh
  have hb2 : 0 ≤ b ∧ b ≤ 255 := by simpa [Lit.wf, IntKind.min, IntKind.max, IntKind.signed, IntKind.bits] using hw
  obtain ⟨c, rfl⟩ : ∃ c : UInt8, b = (c.toNat : Int) := ⟨UInt8.ofNat b.toNat, by
    have : (UInt8.ofNat b.toNat).toNat = b.toNat % 256 := rfl
    rw [this]; omega⟩
  unfold FileIn at h
  subst h
  exact shelfTurns_any f i c m W (by omega) hm (sg_of_laid (l := Rows.shelfTurnsUptoRow.laid) (by simp [Rows.shelfTurnsUptoRow]) hL) (pow_of_laid (l := Rows.shelfTurnsUptoRow.laid) (by simp [Rows.shelfTurnsUptoRow]) hL)
end Go.Proofs.YtpdbejeiceodkaaGreatDoor
