/- Readings of media types, and of lists of them, of ranges, of words and of texts, opened: the cells, and that the bulk bounds the texts. No conditions. -/
import Derived.Test.YthnniiakmjonjaaDoorRows
import Derived.Test.YthnniiakmjonjaaDoorMedM
import Derived.Deep.Slices
import Derived.ChangeArms
import Derived.OpenShut
namespace Go.Proofs.YthnniiakmjonjaaDoor
open Go.ChangeShapes Go.WideShapes Go.ChangeAt Go.RowKit
set_option linter.unusedSimpArgs false
set_option linter.unusedVariables false
set_option maxRecDepth 100000
theorem bulkAll_app {H : Type} (a b : List (DataW H)) : Rows.uptoBulkAll (a ++ b) = Rows.uptoBulkAll a + Rows.uptoBulkAll b := by
  induction a with
  | nil => simp [Rows.uptoBulkAll]
  | cons d r ih => simp only [List.cons_append, Rows.uptoBulkAll, ih]; omega
theorem bulk_row {α H : Type} (len : α → Nat) (D : Nat → DataW H) (n : Nat) (f : Nat → α) (h : ∀ i, i < n → len (f i) + 1 ≤ Rows.uptoBulk (D i)) :
    totF len ((List.range n).map f) + n ≤ Rows.uptoBulkAll ((List.range n).map D) := by
  induction n with
  | zero => simp [totF]
  | succ n ih =>
    have := ih (fun i hi => h i (by omega))
    rw [List.range_succ, List.map_append, List.map_append, totF_append, bulkAll_app]
    have hn := h n (by omega)
    simp only [List.map_cons, List.map_nil, totF, Rows.uptoBulkAll]
    omega
theorem addk (b o j : Nat) : (⟨b, o, none⟩ : Addr).add j = ⟨b, o + j, none⟩ := by unfold Addr.add; split <;> simp_all
/-- A slice whose elements are s cells each, opened at every place. -/
theorem open_row {α : Type} [Inhabited α] (El : List Value → α → Prop) (len : α → Nat) {H : Type} {enc : TypeId × Value → H} {W : World} {t e : TypeId} {s : Nat} (hs : 0 < s) (ht : Tryd.prog.underlying t = some (.slice e)) (hce : Tryd.prog.cellsOf e = s)
    (each : ∀ fuel cs (x : DataW H × List MemPlace), cs.length = s → DataW.trod enc Tryd.prog W 0 (fun _ => true) true fuel e cs = some x → ∃ q, El cs q ∧ len q + 1 ≤ Rows.uptoBulk x.1)
    {fuel : Nat} {cs : List Value} {x : DataW H × List MemPlace} (h : DataW.trod enc Tryd.prog W 0 (fun _ => true) true fuel t cs = some x) :
    ∃ (L : List α) (ao : Option Addr) (cap : Nat), cs = [.slice ao L.length cap] ∧ (∀ i p, L[i]? = some p → ∃ b o cs', ao = some ⟨b, o, none⟩ ∧ b < W.heap.size ∧ El cs' p ∧ ∀ k u, cs'[k]? = some u → W.cell? ⟨b, o + i * s + k, none⟩ = some u) ∧ totF len L + L.length ≤ Rows.uptoBulk x.1 := by
  rcases Go.Deep.open_slice ht h with ⟨hc, hx⟩ | ⟨a, n, cap, m, k, D, Pl, hc, _, hl, hm, hmm, hx, hall⟩
  · exact ⟨[], none, 0, hc, fun i p hp => by simp at hp, by simp [totF]⟩
  · simp only [if_true] at hmm
    subst hmm
    have each' : ∀ i, i < m → ∃ q : α, ∃ cs', W.cells? 0 (a.add (i * s)) s = some cs' ∧ El cs' q ∧ len q + 1 ≤ Rows.uptoBulk (D i) := by
      intro i hi
      obtain ⟨cs', h1, h2⟩ := hall i hi
      rw [hce] at h1
      obtain ⟨_, hlen, _⟩ := World.cells?_some h1
      obtain ⟨q, hq, hb⟩ := each _ cs' _ hlen h2
      exact ⟨q, cs', h1, hq, hb⟩
    obtain ⟨q, hq⟩ := Go.Deep.choose_lt each'
    refine ⟨(List.range n).map q, some a, _, by simpa using hc, fun i p hp => ?_, ?_⟩
    · have hi : i < n := by
        have := (List.getElem?_eq_some_iff.1 hp).1
        simpa using this
      have hpi : q i = p := by simpa [hi] using hp
      obtain ⟨cs', h1, h2, h3⟩ := hq i (by omega)
      obtain ⟨_, hlen, hcell⟩ := World.cells?_some h1
      obtain ⟨u0, hu0⟩ : ∃ u, cs'[0]? = some u := ⟨_, List.getElem?_eq_getElem (by rw [hlen]; exact hs)⟩
      have h0 := (hcell 0 hs).trans hu0
      obtain ⟨b, o, spot⟩ := a
      have hspot : spot = none := by
        obtain ⟨cz, z1, _, _⟩ := hq 0 (by omega)
        obtain ⟨_, zlen, zcell⟩ := World.cells?_some z1
        obtain ⟨uz, huz⟩ : ∃ u, cz[0]? = some u := ⟨_, List.getElem?_eq_getElem (by rw [zlen]; exact hs)⟩
        have hz := (zcell 0 hs).trans huz
        simpa [Addr.add] using World.cell?_spot hz
      subst hspot
      have hadd : ∀ k, ((⟨b, o, none⟩ : Addr).add (i * s)).add k = ⟨b, o + i * s + k, none⟩ := fun k => by rw [addk, addk]
      refine ⟨b, o, cs', rfl, ?_, by rw [← hpi]; exact h2, fun k u hk => ?_⟩
      · rw [hadd] at h0
        exact World.block_lt_of_cell? _ _ h0
      · have hk' : k < s := by rw [← hlen]; exact (List.getElem?_eq_some_iff.1 hk).1
        have := hcell k hk'
        rw [hadd] at this
        exact this.trans hk
    · rw [hx]
      simp only [Rows.uptoBulk, List.length_map, List.length_range]
      have := bulk_row len D n q (fun i hi => by obtain ⟨_, _, _, h3⟩ := hq i (by omega); omega)
      omega
section
variable {H : Type} {enc : TypeId × Value → H} {W : World} {fuel : Nat} {cs : List Value} {x : DataW H × List MemPlace}
instance : Inhabited Mdm := ⟨⟨[], [], []⟩⟩
theorem cb : Tryd.prog.cellsOf 4 = 1 := by kernel_rfl
theorem cst : Tryd.prog.cellsOf 9 = 1 := by kernel_rfl
theorem cin : Tryd.prog.cellsOf 3 = 1 := by kernel_rfl
theorem cps : Tryd.prog.cellsOf 22 = 1 := by kernel_rfl
theorem cmd : Tryd.prog.cellsOf 24 = 3 := by kernel_rfl
theorem str_l (s : ByteArray) : (⟨s.data.toList.toArray⟩ : ByteArray) = s := by simp
theorem open_parC (hl : cs.length = 3) (h : DataW.trod enc Tryd.prog W 0 (fun _ => true) true fuel 80 cs = some x) : ∃ q : Par, cs = parV q ∧ parLen q + 1 ≤ Rows.uptoBulk x.1 := by
  obtain ⟨xs, k', hk, hxy, _, hxl, hf⟩ := DataW.trod_struct Tryd.underlying80 h
  match xs, hxl, cs, hl with
  | [y0, y1, y2], _, [v0, v1, v2], _ =>
    have g0 := hf 0 _ rfl
    have g1 := hf 1 _ rfl
    have g2 := hf 2 _ rfl
    simp [cb, cst] at g0 g1 g2
    obtain ⟨s0, e0, f0, _⟩ := DataW.trod_string Tryd.underlying9 g0
    obtain ⟨s1, e1, f1, _⟩ := DataW.trod_string Tryd.underlying9 g1
    obtain ⟨b2, e2, f2⟩ := DataW.trod_bool Tryd.underlying4 g2
    simp only [List.cons.injEq, and_true] at e0 e1 e2
    subst e0 e1 e2 f0 f1 f2
    refine ⟨(s0.data.toList, s1.data.toList, b2), by simp [parV], ?_⟩
    rw [hxy]
    simp only [parLen, List.map_cons, List.map_nil, Rows.uptoBulk, Rows.uptoBulkAll]
    omega
theorem open_parsC (h : DataW.trod enc Tryd.prog W 0 (fun _ => true) true fuel 22 cs = some x) : ∃ sv L, cs = [sv] ∧ ParsIn W sv L ∧ totP L + L.length ≤ Rows.uptoBulk x.1 := by
  obtain ⟨L, ao, cap, hc, hall, hb⟩ := open_row (fun cs q => cs = parV q) parLen (by decide : 0 < 3) Tryd.underlying22 (by kernel_rfl) (fun _ _ _ hl h => open_parC hl h) h
  rw [totF_par] at hb
  refine ⟨_, L, hc, ⟨ao, cap, rfl, fun i p hp => ?_⟩, hb⟩
  obtain ⟨b, o, cs', hao, hlt, rfl, hcell⟩ := hall i p hp
  exact ⟨b, o, hao, hlt, hcell 0 _ rfl, hcell 1 _ rfl, hcell 2 _ rfl⟩
def MedEl (W : World) (cs : List Value) (m : Mdm) : Prop := ∃ sv, cs = [.string ⟨m.ty.toArray⟩, .string ⟨m.sub.toArray⟩, sv] ∧ ParsIn W sv m.ps
theorem open_medC (hl : cs.length = 3) (h : DataW.trod enc Tryd.prog W 0 (fun _ => true) true fuel 24 cs = some x) : ∃ q, MedEl W cs q ∧ mdmLen q + 1 ≤ Rows.uptoBulk x.1 := by
  obtain ⟨xs, k', hk, hxy, _, hxl, hf⟩ := DataW.trod_struct Tryd.underlying24 h
  match xs, hxl, cs, hl with
  | [y0, y1, y2], _, [v0, v1, v2], _ =>
    have g0 := hf 0 _ rfl
    have g1 := hf 1 _ rfl
    have g2 := hf 2 _ rfl
    simp [cps, cst] at g0 g1 g2
    obtain ⟨s0, e0, f0, _⟩ := DataW.trod_string Tryd.underlying9 g0
    obtain ⟨s1, e1, f1, _⟩ := DataW.trod_string Tryd.underlying9 g1
    obtain ⟨sv, L, e2, hp, hb⟩ := open_parsC g2
    simp only [List.cons.injEq, and_true] at e0 e1 e2
    subst e0 e1 e2 f0 f1
    refine ⟨⟨s0.data.toList, s1.data.toList, L⟩, ⟨v2, by simp, hp⟩, ?_⟩
    rw [hxy]
    simp only [mdmLen, List.map_cons, List.map_nil, Rows.uptoBulk, Rows.uptoBulkAll]
    omega
def RngEl (W : World) (cs : List Value) (r : Rng) : Prop := ∃ sv, cs = [.string ⟨r.1.ty.toArray⟩, .string ⟨r.1.sub.toArray⟩, sv, .int .i64 r.2] ∧ ParsIn W sv r.1.ps
theorem open_rngC (hl : cs.length = 4) (h : DataW.trod enc Tryd.prog W 0 (fun _ => true) true fuel 82 cs = some x) : ∃ q, RngEl W cs q ∧ rngLen q + 1 ≤ Rows.uptoBulk x.1 := by
  obtain ⟨xs, k', hk, hxy, _, hxl, hf⟩ := DataW.trod_struct Tryd.underlying82 h
  match xs, hxl, cs, hl with
  | [y0, y1], _, [v0, v1, v2, v3], _ =>
    have g0 := hf 0 _ rfl
    have g1 := hf 1 _ rfl
    simp [cmd, cin] at g0 g1
    obtain ⟨m, ⟨sv, e0, hp⟩, hb⟩ := open_medC rfl g0
    obtain ⟨n, e1, f1, _⟩ := DataW.trod_int Tryd.underlying3 g1
    simp only [List.cons.injEq, and_true] at e0 e1
    obtain ⟨rfl, rfl, rfl⟩ := e0
    subst e1 f1
    refine ⟨(m, n), ⟨_, rfl, hp⟩, ?_⟩
    rw [hxy]
    simp only [rngLen, List.map_cons, List.map_nil, Rows.uptoBulk, Rows.uptoBulkAll]
    omega
theorem open_wgtC (hl : cs.length = 2) (h : DataW.trod enc Tryd.prog W 0 (fun _ => true) true fuel 85 cs = some x) : ∃ q : Wgt, cs = wgtV q ∧ wgtLen q + 1 ≤ Rows.uptoBulk x.1 := by
  obtain ⟨xs, k', hk, hxy, _, hxl, hf⟩ := DataW.trod_struct Tryd.underlying85 h
  match xs, hxl, cs, hl with
  | [y0, y1], _, [v0, v1], _ =>
    have g0 := hf 0 _ rfl
    have g1 := hf 1 _ rfl
    simp [cst, cin] at g0 g1
    obtain ⟨s0, e0, f0, _⟩ := DataW.trod_string Tryd.underlying9 g0
    obtain ⟨n, e1, f1, _⟩ := DataW.trod_int Tryd.underlying3 g1
    simp only [List.cons.injEq, and_true] at e0 e1
    subst e0 e1 f0 f1
    refine ⟨(s0.data.toList, n), by simp [wgtV], ?_⟩
    rw [hxy]
    simp only [wgtLen, List.map_cons, List.map_nil, Rows.uptoBulk, Rows.uptoBulkAll]
    omega
theorem open_strC (hl : cs.length = 1) (h : DataW.trod enc Tryd.prog W 0 (fun _ => true) true fuel 9 cs = some x) : ∃ q : List UInt8, cs = [.string ⟨q.toArray⟩] ∧ q.length + 1 ≤ Rows.uptoBulk x.1 := by
  obtain ⟨s0, e0, f0, _⟩ := DataW.trod_string Tryd.underlying9 h
  subst e0 f0
  refine ⟨s0.data.toList, by simp, ?_⟩
  simp only [Rows.uptoBulk]
  omega
end
section
variable {base : Nat} {H : Type} {enc : TypeId × Value → H} {W : World} {v : Value} {d : DataW H} {p : List MemPlace}
/-- A media type, handed over. -/
def MedIn (w : World) (v : Value) (m : Mdm) : Prop := ∃ sv, v = .agg #[.string ⟨m.ty.toArray⟩, .string ⟨m.sub.toArray⟩, sv] ∧ ParsIn w sv m.ps
theorem open_media (hval : Value.okWide Tryd.prog W .any base 24 v) (h : DataW.Trod enc Tryd.prog W 0 (fun _ => true) true 24 v d p) : ∃ m, MedIn W v m ∧ mdmLen m + 1 ≤ Rows.uptoBulk d := by
  obtain ⟨cs, rfl, hsz⟩ := okWide_struct Tryd.underlying24 hval
  obtain ⟨n, h⟩ := h
  obtain ⟨m, ⟨sv, he, hp⟩, hb⟩ := open_medC (by rw [← cmd, ← hsz]; simp [Value.cells]) h
  refine ⟨m, ⟨sv, ?_, hp⟩, hb⟩
  have he' : cs.toList = [.string ⟨m.ty.toArray⟩, .string ⟨m.sub.toArray⟩, sv] := by simpa [Value.cells] using he
  rw [← he']
theorem open_medias (hval : Value.okWide Tryd.prog W .any base 71 v) (h : DataW.Trod enc Tryd.prog W 0 (fun _ => true) true 71 v d p) : ∃ L, MedsIn W v L ∧ totF mdmLen L + L.length ≤ Rows.uptoBulk d := by
  obtain ⟨so, sl, sc, rfl⟩ := okWide_slice Tryd.underlying71 hval
  obtain ⟨n, h⟩ := h
  obtain ⟨L, ao, cap, hc, hall, hb⟩ := open_row (MedEl W) mdmLen (by decide : 0 < 3) Tryd.underlying71 cmd (fun _ _ _ hl h => open_medC hl h) h
  have hc' : Value.slice so sl sc = .slice ao L.length cap := by simpa [Value.cells] using hc
  refine ⟨L, ⟨ao, cap, hc', fun i p hp => ?_⟩, hb⟩
  obtain ⟨b, o, cs', hao, hlt, ⟨sv, rfl, hps⟩, hcell⟩ := hall i p hp
  exact ⟨b, o, hao, hlt, hcell 0 _ rfl, hcell 1 _ rfl, sv, hcell 2 _ rfl, hps⟩
theorem open_ranges (hval : Value.okWide Tryd.prog W .any base 56 v) (h : DataW.Trod enc Tryd.prog W 0 (fun _ => true) true 56 v d p) : ∃ L, RngsIn W v L ∧ totF rngLen L + L.length ≤ Rows.uptoBulk d := by
  obtain ⟨so, sl, sc, rfl⟩ := okWide_slice Tryd.underlying56 hval
  obtain ⟨n, h⟩ := h
  obtain ⟨L, ao, cap, hc, hall, hb⟩ := open_row (RngEl W) rngLen (by decide : 0 < 4) Tryd.underlying56 (by kernel_rfl) (fun _ _ _ hl h => open_rngC hl h) h
  have hc' : Value.slice so sl sc = .slice ao L.length cap := by simpa [Value.cells] using hc
  refine ⟨L, ⟨ao, cap, hc', fun i p hp => ?_⟩, hb⟩
  obtain ⟨b, o, cs', hao, hlt, ⟨sv, rfl, hps⟩, hcell⟩ := hall i p hp
  exact ⟨b, o, hao, ⟨hlt, hcell 0 _ rfl, hcell 1 _ rfl, sv, hcell 2 _ rfl, hps⟩, hcell 3 _ rfl⟩
theorem open_weights (hval : Value.okWide Tryd.prog W .any base 43 v) (h : DataW.Trod enc Tryd.prog W 0 (fun _ => true) true 43 v d p) : ∃ L, WgtsIn W v L ∧ totF wgtLen L + L.length ≤ Rows.uptoBulk d := by
  obtain ⟨so, sl, sc, rfl⟩ := okWide_slice Tryd.underlying43 hval
  obtain ⟨n, h⟩ := h
  obtain ⟨L, ao, cap, hc, hall, hb⟩ := open_row (fun cs q => cs = wgtV q) wgtLen (by decide : 0 < 2) Tryd.underlying43 (by kernel_rfl) (fun _ _ _ hl h => open_wgtC hl h) h
  have hc' : Value.slice so sl sc = .slice ao L.length cap := by simpa [Value.cells] using hc
  refine ⟨L, ⟨ao, cap, hc', fun i p hp => ?_⟩, hb⟩
  obtain ⟨b, o, cs', hao, hlt, rfl, hcell⟩ := hall i p hp
  exact ⟨b, o, hao, hlt, hcell 0 _ rfl, hcell 1 _ rfl⟩
theorem open_texts (hval : Value.okWide Tryd.prog W .any base 44 v) (h : DataW.Trod enc Tryd.prog W 0 (fun _ => true) true 44 v d p) : ∃ L, TxtsIn W v L ∧ totF List.length L + L.length ≤ Rows.uptoBulk d := by
  obtain ⟨so, sl, sc, rfl⟩ := okWide_slice Tryd.underlying44 hval
  obtain ⟨n, h⟩ := h
  obtain ⟨L, ao, cap, hc, hall, hb⟩ := open_row (α := List UInt8) (fun cs q => cs = [.string ⟨q.toArray⟩]) List.length (by decide : 0 < 1) Tryd.underlying44 (by kernel_rfl) (fun _ _ _ hl h => open_strC hl h) h
  have hc' : Value.slice so sl sc = .slice ao L.length cap := by simpa [Value.cells] using hc
  refine ⟨L, ⟨ao, cap, hc', fun i p hp => ?_⟩, hb⟩
  obtain ⟨b, o, cs', hao, hlt, rfl, hcell⟩ := hall i p hp
  refine ⟨b, o, hao, hlt, ?_⟩
  have := hcell 0 _ rfl
  rwa [Nat.mul_one, Nat.add_zero] at this
end
end Go.Proofs.YthnniiakmjonjaaDoor
