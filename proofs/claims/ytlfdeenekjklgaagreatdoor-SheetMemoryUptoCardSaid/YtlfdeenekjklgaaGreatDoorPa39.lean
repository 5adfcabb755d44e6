/- The walk of turnpikelaw15.SheetMemory: true. Conditions: the texts are small; the tables hold what the texts lay. -/
import Derived.Test.YtlfdeenekjklgaaGreatDoorPk38
import Derived.Test.YtlfdeenekjklgaaGreatDoorPa34
import Derived.Test.YtlfdeenekjklgaaGreatDoorPk27
import Derived.Test.YtlfdeenekjklgaaGreatDoorPk26
import Derived.Test.YtlfdeenekjklgaaGreatDoorPk10
import Derived.StillTailTactics
namespace Go.Proofs.YtlfdeenekjklgaaGreatDoor
open Go.RowKit
set_option linter.unusedSimpArgs false
set_option linter.unusedVariables false
set_option maxRecDepth 1000000
/-- What stands in memory while the lists are marked and grown. -/
structure SM (W0 : World) (L : Nat) (vs us : VL) (lv av : Value) (W : World) (i j i' j' : Nat) : Prop where
  below : Below L W0 W
  base : L ≤ W.heap.size
  lrow : W.ownsRow L 44 1 lv vs.length (vs.map (·.1))
  arow : W.ownsRow L 22 1 av us.length (us.map (·.1))
  vrow : MRows W L 52 3 vs i j
  urow : MRows W L 34 5 us i' j'
theorem SM.later {W0 : World} {L : Nat} {vs us : VL} {lv av : Value} {W W' : World} {i j i' j' : Nat} (h : SM W0 L vs us lv av W i j i' j') (hb : Below W.heap.size W W') : SM W0 L vs us lv av W' i j i' j' :=
  ⟨h.below.trans (hb.mono h.base), Nat.le_trans h.base hb.size, own_later h.lrow hb, own_later h.arow hb, h.vrow.below hb, h.urow.below hb⟩
theorem smBelow (w : World) (o : Obj) : Below w.heap.size w (w.alloc o) := (Below.refl _ w).alloc (Nat.le_refl _) _
theorem infoPS : (Tryz.prog.info? 44).map (fun i => (i.zero, i.size, i.bytes)) = some (some (.slice none 0 0), 1, 24) := by kernel_rfl
theorem infoPS_parts : ∃ i, Tryz.prog.info? 44 = some i ∧ i.zero = some (.slice none 0 0) ∧ i.size = 1 ∧ i.bytes = 24 := by
  obtain ⟨i, hi, he⟩ := Option.map_eq_some_iff.1 infoPS
  injection he with h1 h2
  injection h2 with h2 h3
  exact ⟨i, hi, h1, h2, h3⟩
theorem infoQS : (Tryz.prog.info? 22).map (fun i => (i.zero, i.size, i.bytes)) = some (some (.slice none 0 0), 1, 24) := by kernel_rfl
theorem infoQS_parts : ∃ i, Tryz.prog.info? 22 = some i ∧ i.zero = some (.slice none 0 0) ∧ i.size = 1 ∧ i.bytes = 24 := by
  obtain ⟨i, hi, he⟩ := Option.map_eq_some_iff.1 infoQS
  injection he with h1 h2
  injection h2 with h2 h3
  exact ⟨i, hi, h1, h2, h3⟩
theorem sm_cell {w W : World} {p : Addr} {v : Value} (h : w.cell? p = some v) (hb : Below w.heap.size w W) : W.cell? p = some v :=
  (hb.cell (World.block_lt_of_cell? _ _ h)).trans h
theorem own_shape {W : World} {b n k : Nat} {T : TypeId} {v : Value} {xs : List Value} (h : W.ownsRow b T k v n xs) : ∃ ao c, v = .slice ao n c := by
  rcases h.2 with ⟨rfl, rfl⟩ | ⟨g, c, cur, rfl, _⟩
  · exact ⟨_, _, rfl⟩
  · exact ⟨_, _, rfl⟩
theorem rows_ne {W : World} {L b n k s i j : Nat} {T T' : TypeId} {vs : VL} {lv : Value} {xs : List Value} (hv : MRows W L T s vs i j) (hl : W.ownsRow b T' k lv n xs) (hne : T ≠ T') : ∀ (q : Nat) (p : Value × Nat), vs[q]? = some p → p.1.ownBlock = none ∨ p.1.ownBlock ≠ lv.ownBlock := fun q p hp => by
  obtain ⟨ys, h1⟩ := hv.row q p hp
  exact own_ne h1 hl hne
theorem sm_stepL {W0 W W' : World} {L n k i j i' j' : Nat} {vs us : VL} {lv av : Value} {xs zs : List Value} (hb : Below L W0 W) (hL : L ≤ W.heap.size) (hl : W.ownsRow L 44 1 lv n xs) (ha : W.ownsRow L 22 1 av k zs) (hv : MRows W L 52 3 vs i j) (hu : MRows W L 34 5 us i' j') (hg : W.grownBy W' lv.ownBlock) :
    Below L W0 W' ∧ L ≤ W'.heap.size ∧ W'.ownsRow L 22 1 av k zs ∧ MRows W' L 52 3 vs i j ∧ MRows W' L 34 5 us i' j' :=
  ⟨hb.grown hg hL (fun q hq => (hl.lt q hq).1), Nat.le_trans hL hg.size, ha.kept hg (own_ne ha hl (by decide)), hv.kept hg (rows_ne hv hl (by decide)), hu.kept hg (rows_ne hu hl (by decide))⟩
theorem sm_stepA {W0 W W' : World} {L n k i j i' j' : Nat} {vs us : VL} {lv av : Value} {xs zs : List Value} (hb : Below L W0 W) (hL : L ≤ W.heap.size) (hl : W.ownsRow L 44 1 lv n xs) (ha : W.ownsRow L 22 1 av k zs) (hv : MRows W L 52 3 vs i j) (hu : MRows W L 34 5 us i' j') (hg : W.grownBy W' av.ownBlock) :
    Below L W0 W' ∧ L ≤ W'.heap.size ∧ W'.ownsRow L 44 1 lv n xs ∧ MRows W' L 52 3 vs i j ∧ MRows W' L 34 5 us i' j' :=
  ⟨hb.grown hg hL (fun q hq => (ha.lt q hq).1), Nat.le_trans hL hg.size, hl.kept hg (own_ne hl ha (by decide)), hv.kept hg (rows_ne hv ha (by decide)), hu.kept hg (rows_ne hu ha (by decide))⟩
theorem own1x {W : World} {b n : Nat} {T : TypeId} {k : Nat} {v : Value} {xs : List Value} (h : W.ownsRow b T k v n xs) (hn : n ≠ 0) : ∃ g c, v = .slice (some ⟨g, 0, none⟩) n c ∧ b ≤ g ∧ g < W.heap.size := by
  rcases h.2 with ⟨_, h0⟩ | ⟨g, c, cur, hv, hb, hg, _⟩
  · exact absurd h0 hn
  · exact ⟨g, c, hv, hb, (Array.getElem?_eq_some_iff.1 hg).1⟩
theorem SM.lcell {W0 W : World} {L gl n lc i j i' j' : Nat} {vs us : VL} {av : Value} (h : SM W0 L vs us (.slice (some ⟨gl, 0, none⟩) n lc) av W i j i' j') (hn : vs.length = n) (k : Nat) (p : Value × Nat) (hp : vs[k]? = some p) : W.cell? ⟨gl, k, none⟩ = some p.1 := by
  have h1 := h.lrow
  rw [hn] at h1
  have hk := (List.getElem?_eq_some_iff.1 hp).1
  rw [h1.cellAt k (by omega), List.getElem?_map, hp]
  rfl
theorem SM.acell {W0 W : World} {L gl n lc i j i' j' : Nat} {vs us : VL} {lv : Value} (h : SM W0 L vs us lv (.slice (some ⟨gl, 0, none⟩) n lc) W i j i' j') (hn : us.length = n) (k : Nat) (p : Value × Nat) (hp : us[k]? = some p) : W.cell? ⟨gl, k, none⟩ = some p.1 := by
  have h1 := h.arow
  rw [hn] at h1
  have hk := (List.getElem?_eq_some_iff.1 hp).1
  rw [h1.cellAt k (by omega), List.getElem?_map, hp]
  rfl
theorem SM.mark3 {W0 W : World} {L g n c i j i' j' : Nat} {vs us : VL} {lv av : Value} (h : SM W0 L vs us lv av W i j i' j') (hA : ApartL vs) (hp : vs[i]? = some (.slice (some ⟨g, 0, none⟩) n c, n)) (hj : j < n) :
    SM W0 L vs us lv av (((W.setCell ⟨g, j * 3, none⟩ (.string ⟨(mkB (100 * i + j)).toArray⟩)).setCell ⟨g, j * 3 + 1, none⟩ (.string ⟨#[]⟩)).setCell ⟨g, j * 3 + 2, none⟩ (.bool false)) i (j + 1) i' j' := by
  obtain ⟨xs, hr⟩ := h.vrow.row i _ hp
  have hg := gset3 W g j (.string ⟨(mkB (100 * i + j)).toArray⟩) (.string ⟨#[]⟩) (.bool false)
  have hlg : L ≤ g := (hr.lt g rfl).1
  exact ⟨h.below.grown hg h.base (fun q hq => by injection hq with hq; omega), Nat.le_trans h.base hg.size, h.lrow.kept hg (own_ne h.lrow hr (by decide)), h.arow.kept hg (own_ne h.arow hr (by decide)), h.vrow.mark hA hp hj (by decide) (fun xs hx => set3 _ _ _ xs hx) hg, h.urow.kept hg (rows_ne h.urow hr (by decide))⟩
theorem SM.mark5 {W0 W : World} {L g n c i j i' j' : Nat} {vs us : VL} {lv av : Value} (h : SM W0 L vs us lv av W i' j' i j) (hA : ApartL us) (hp : us[i]? = some (.slice (some ⟨g, 0, none⟩) n c, n)) (hj : j < n) :
    SM W0 L vs us lv av (((((W.setCell ⟨g, j * 5, none⟩ (.string ⟨(mkB (100 * i + j)).toArray⟩)).setCell ⟨g, j * 5 + 1, none⟩ (.string ⟨#[]⟩)).setCell ⟨g, j * 5 + 2, none⟩ (.string ⟨#[]⟩)).setCell ⟨g, j * 5 + 3, none⟩ (.string ⟨#[]⟩)).setCell ⟨g, j * 5 + 4, none⟩ (.bool false)) i' j' i (j + 1) := by
  obtain ⟨xs, hr⟩ := h.urow.row i _ hp
  have hg := gset5 W g j (.string ⟨(mkB (100 * i + j)).toArray⟩) (.string ⟨#[]⟩) (.string ⟨#[]⟩) (.string ⟨#[]⟩) (.bool false)
  have hlg : L ≤ g := (hr.lt g rfl).1
  exact ⟨h.below.grown hg h.base (fun q hq => by injection hq with hq; omega), Nat.le_trans h.base hg.size, h.lrow.kept hg (own_ne h.lrow hr (by decide)), h.arow.kept hg (own_ne h.arow hr (by decide)), h.vrow.kept hg (rows_ne h.vrow hr (by decide)), h.urow.mark hA hp hj (by decide) (fun xs hx => set5 _ _ _ _ _ xs hx) hg⟩
theorem cells_ex {W : World} {L s n c g i j i' j' : Nat} {T : TypeId} {vs : VL} (h : MRows W L T s vs i j) (hp : vs[i']? = some (.slice (some ⟨g, 0, none⟩) n c, n)) (hj : j' < n) (k : Nat) (hk : k < s) : (∃ x, W.cell? ⟨g, j' * s + k, none⟩ = some x) ∧ W.frozen? ⟨g, j' * s + k, none⟩ = false := by
  obtain ⟨xs, hr⟩ := h.row i' _ hp
  have hr2 : W.ownsRow L T s (.slice (some ⟨g, 0, none⟩) n c) n xs := hr
  have hlt : j' * s + k < n * s := by
    have : (j' + 1) * s ≤ n * s := Nat.mul_le_mul_right _ hj
    rw [Nat.add_mul, Nat.one_mul] at this
    omega
  refine ⟨?_, hr2.frozenAt _⟩
  rw [hr2.cellAt _ hlt]
  exact ⟨_, List.getElem?_eq_getElem (by rw [hr2.1]; exact hlt)⟩
theorem rdig_m (M : Nat) (W : World) (h : M ≤ 4294967296) : Calls Tryz.prog 18 #[.int .i64 (M : Int)] W fun e w' => e = .returned (.string ⟨(Lib.decDigits M).toArray⟩) ∧ Below W.heap.size W w' := rdigits_any M W (by omega)
theorem dec_len20m (M : Nat) (h : M ≤ 4294967296) : (Lib.decDigits M).length ≤ 20 := dec_len20 19 M (Nat.lt_of_le_of_lt h (by decide))
theorem mk_cat (M : Nat) (D E : List UInt8) (hD : Lib.decDigits M = D) (hE : mkB M = E) : (⟨#[109, 97, 114, 107]⟩ : ByteArray) ++ ⟨D.toArray⟩ = ⟨E.toArray⟩ := by
  subst hD; subst hE
  exact ba_ext (by simp [mkB])
theorem sm_w64 (n : Nat) (h : n ≤ 9007199254740992) : wrap64 (n : Int) = (n : Int) ∧ IntKind.i64.wrap (n : Int) = (n : Int) := by
  constructor
  · unfold wrap64; omega
  · rw [IntKind.wrap_i64]; omega
theorem SM.nextV {W0 W : World} {L i j i' j' : Nat} {vs us : VL} {lv av : Value} (h : SM W0 L vs us lv av W i j i' j') (p : Value × Nat) (hp : vs[i]? = some p) (hj : p.2 ≤ j) : SM W0 L vs us lv av W (i + 1) 0 i' j' := ⟨h.below, h.base, h.lrow, h.arow, h.vrow.next p hp hj, h.urow⟩
theorem SM.nextU {W0 W : World} {L i j i' j' : Nat} {vs us : VL} {lv av : Value} (h : SM W0 L vs us lv av W i j i' j') (p : Value × Nat) (hp : us[i']? = some p) (hj : p.2 ≤ j') : SM W0 L vs us lv av W i j (i' + 1) 0 := ⟨h.below, h.base, h.lrow, h.arow, h.vrow, h.urow.next p hp hj⟩
theorem SM.growV {W0 W W' : World} {L i j i' j' n : Nat} {vs us : VL} {lv av v : Value} {ys : List Value} (h : SM W0 L vs us lv av W i j i' j') (hv : W.ownsRow L 52 3 v n ys) (hg : W.grownBy W' v.ownBlock) (hC : ∀ (k : Nat) (p : Value × Nat), vs[k]? = some p → p.1.ownBlock = v.ownBlock → p.2 ≤ n)
    (hK : ∀ b0 v0 n0 xs0, W.ownsRow b0 52 3 v0 n0 xs0 → (v0.ownBlock = v.ownBlock → n0 ≤ n) → W'.ownsRow b0 52 3 v0 n0 xs0) : SM W0 L vs us lv av W' i j i' j' :=
  ⟨h.below.grown hg h.base (fun q hq => (hv.lt q hq).1), Nat.le_trans h.base hg.size, h.lrow.kept hg (own_ne h.lrow hv (by decide)), h.arow.kept hg (own_ne h.arow hv (by decide)), h.vrow.grow hC hK, h.urow.kept hg (rows_ne h.urow hv (by decide))⟩
theorem SM.growU {W0 W W' : World} {L i j i' j' n : Nat} {vs us : VL} {lv av v : Value} {ys : List Value} (h : SM W0 L vs us lv av W i j i' j') (hv : W.ownsRow L 34 5 v n ys) (hg : W.grownBy W' v.ownBlock) (hC : ∀ (k : Nat) (p : Value × Nat), us[k]? = some p → p.1.ownBlock = v.ownBlock → p.2 ≤ n)
    (hK : ∀ b0 v0 n0 xs0, W.ownsRow b0 34 5 v0 n0 xs0 → (v0.ownBlock = v.ownBlock → n0 ≤ n) → W'.ownsRow b0 34 5 v0 n0 xs0) : SM W0 L vs us lv av W' i j i' j' :=
  ⟨h.below.grown hg h.base (fun q hq => (hv.lt q hq).1), Nat.le_trans h.base hg.size, h.lrow.kept hg (own_ne h.lrow hv (by decide)), h.arow.kept hg (own_ne h.arow hv (by decide)), h.vrow.kept hg (rows_ne h.vrow hv (by decide)), h.urow.grow hC hK⟩
theorem infoPA : (Tryz.prog.info? 34).map (fun i => (i.zero, i.size, i.bytes)) = some (some (.agg #[.string ByteArray.empty, .string ByteArray.empty, .string ByteArray.empty, .string ByteArray.empty, .bool false]), 5, 72) := by kernel_rfl
theorem infoPA_parts : ∃ i, Tryz.prog.info? 34 = some i ∧ i.zero = some (.agg #[.string ByteArray.empty, .string ByteArray.empty, .string ByteArray.empty, .string ByteArray.empty, .bool false]) ∧ i.size = 5 ∧ i.bytes = 72 := by
  obtain ⟨i, hi, he⟩ := Option.map_eq_some_iff.1 infoPA
  injection he with h1 h2
  injection h2 with h2 h3
  exact ⟨i, hi, h1, h2, h3⟩
theorem sm_bd (n j : Nat) (h : n ≤ 1048578) (hj : j < 20) : n + j + 1 ≤ maxLen ∧ (n + j + 1) * 40 ≤ 140737488355328 ∧ (n + j + 1) * 72 ≤ 140737488355328 := by unfold maxLen; omega
theorem sm_at {W : World} {L s i j n c g : Nat} {T : TypeId} {vs : VL} (h : MRows W L T s vs i j) (k : Nat) (p : Value × Nat) (hp : vs[k]? = some p) (q : Nat) (hq : q < p.2) (hc : k < i) (hs : 0 < s) (hpe : p = (.slice (some ⟨g, 0, none⟩) n c, n) := by rfl) : W.cell? ⟨g, q * s, none⟩ = some (.string ⟨(mkB (100 * k + q)).toArray⟩) := by
  obtain ⟨g', c', h1, h2⟩ := h.at k p hp q hq hc hs
  subst hpe
  injection h1 with h1
  injection h1 with h1
  injection h1 with h1
  subst h1
  exact h2
/-- What holds ahead of a round of the gathering. -/
def SMG (W0 : World) (L i : Nat) (lv av : Value) (wr : World) : Prop := ∃ vs us : VL, vs.length = 2 * i ∧ us.length = i ∧ ApartL vs ∧ ApartL us ∧ (∀ p ∈ vs, p.2 ≤ 1048578) ∧ (∀ p ∈ us, p.2 ≤ 1048578) ∧ SM W0 L vs us lv av wr 0 0 0 0
set_option maxHeartbeats 32000000 in
theorem sheetMemory_any (s d b y : List UInt8) (m : Int) (w : World) (hs : s.length ≤ 1048576) (hd : d.length ≤ 1048576) (hbl : b.length ≤ 1048576) (hy : y.length ≤ 1048576) (hm : w.cell? ⟨2, 0, none⟩ = some (.int .i64 m)) (hg : SgAt w) (hE : ErrAt w) :
    Calls Tryz.prog 5 #[.agg #[.string ⟨s.toArray⟩, .string ⟨d.toArray⟩, .string ⟨b.toArray⟩, .string ⟨y.toArray⟩]] w fun e w' => e = .returned (.bool true) ∧ Below w.heap.size w w' := by
  obtain ⟨i0, hi0, hz0, hz1, hz2⟩ := infoPS_parts
  obtain ⟨i1, hi1, hy0, hy1, hy2⟩ := infoQS_parts
  obtain ⟨ip, hp0, hp1, hp2, hp3⟩ := info_partsA infoAPar
  obtain ⟨iq, hq0, hq1, hq2, hq3⟩ := infoPA_parts
  obtain ⟨⟨A, a1, a2⟩, hA⟩ : ∃ r, prsP (⟨s.toArray⟩ : ByteArray).data.toList = r := ⟨_, rfl⟩
  obtain ⟨⟨dn, D, d2⟩, hD⟩ : ∃ r, disR (⟨d.toArray⟩ : ByteArray).data.toList = r := ⟨_, rfl⟩
  obtain ⟨⟨Y, y1, y2⟩, hY⟩ : ∃ r, psR b y 9 = r := ⟨_, rfl⟩
  have hAl : A.length ≤ 1048577 := by
    have := prs_len (⟨s.toArray⟩ : ByteArray); rw [hA] at this; simp only at this; rw [size_mk] at this; omega
  have hDl : D.length ≤ 1048576 := by
    have h1 := dis_len (⟨d.toArray⟩ : ByteArray).data.toList
    rw [hD] at h1
    exact Nat.le_trans h1 hd
  have hYl : Y.length ≤ 1048578 := by have := psR_len b y 9; rw [hY] at this; simp only at this; omega
  have hpa : ∀ W, Below w.heap.size w W → Calls Tryz.prog 15 #[.string ⟨s.toArray⟩] W (fun e w' => ∃ v, e = .returned (.tuple #[v, .int .i64 (a1 : Nat), .int .i64 (a2 : Nat)]) ∧ w'.ownsRow W.heap.size 52 3 v A.length (parsV A) ∧ Below W.heap.size W w') := fun W hb => (spairs_any ⟨s.toArray⟩ m W (by rw [size_mk]; omega) (sm_cell hm hb)).mono (fun e w' h => by unfold PairsPost at h; rw [hA] at h; exact h)
  have hra : ∀ W, Calls Tryz.prog 13 #[.string ⟨s.toArray⟩] W (fun e w' => ∃ v, e = .returned (.tuple #[v, .int .i64 (a1 : Nat), .int .i64 (a2 : Nat)]) ∧ w'.ownsRow W.heap.size 85 3 v A.length (parsV A) ∧ Below W.heap.size W w') := fun W => (rpairs15_any ⟨s.toArray⟩ W (by rw [size_mk]; omega)).mono (fun e w' h => by unfold PairsPost at h; rw [hA] at h; exact h)
  have hpd : ∀ W, Below w.heap.size w W → Calls Tryz.prog 16 #[.string ⟨d.toArray⟩] W (fun e w' => ∃ v, e = .returned (.tuple #[.string ⟨dn.toArray⟩, v, .int .i64 (d2 : Nat)]) ∧ w'.ownsRow W.heap.size 52 3 v D.length (parsV D) ∧ Below W.heap.size W w') := fun W hb => (sdis_any ⟨d.toArray⟩ W (by rw [size_mk]; omega) (hg.below hb)).mono (fun e w' h => by unfold DisPost at h; rw [hD] at h; exact h)
  have hrd : ∀ W, Calls Tryz.prog 14 #[.string ⟨d.toArray⟩] W (fun e w' => ∃ v, e = .returned (.tuple #[.string ⟨dn.toArray⟩, v, .int .i64 (d2 : Nat)]) ∧ w'.ownsRow W.heap.size 85 3 v D.length (parsV D) ∧ Below W.heap.size W w') := fun W => (rdis_any ⟨d.toArray⟩ W (by rw [size_mk]; omega)).mono (fun e w' h => by unfold DisPost at h; rw [hD] at h; exact h)
  have hpy := fun W (hb : Below w.heap.size w W) => sparse_any b y 9 m W (by omega) (by omega) (sm_cell hm hb) (hg.below hb) (sm_cell hE hb)
  have hry := fun W => rparse_any b y 9 W (by omega) (by omega)
  rw [hY] at hpy hry
  have haw := fun W (hb : Below w.heap.size w W) => awake15_any m W (sm_cell hm hb)
  have HPA := Lib.hid hpa; have HRA := Lib.hid hra; have HPD := Lib.hid hpd; have HRD := Lib.hid hrd; have HPY := Lib.hid hpy; have HRY := Lib.hid hry; have HAW := Lib.hid haw
  have HLN := Lib.hid (And.intro hAl (And.intro hDl hYl))
  have HCA := Lib.hid (fun (v1 v2 : Value) (W : World) (h1 : ParsIn W v1 A) (h2 : ParsIn W v2 A) => lawpars_any v1 v2 A W (by omega) h1 h2)
  have HCD := Lib.hid (fun (v1 v2 : Value) (W : World) (h1 : ParsIn W v1 D) (h2 : ParsIn W v2 D) => lawpars_any v1 v2 D W (by omega) h1 h2)
  have HCY := Lib.hid (fun (v1 v2 : Value) (W : World) (h1 : PrtsIn W v1 Y) (h2 : PrtsIn W v2 Y) => lawprts_any v1 v2 Y W (by omega) h1 h2)
  obtain ⟨SB, hSB⟩ : ∃ x, (⟨s.toArray⟩ : ByteArray) = x := ⟨_, rfl⟩
  obtain ⟨DB, hDB⟩ : ∃ x, (⟨d.toArray⟩ : ByteArray) = x := ⟨_, rfl⟩
  obtain ⟨W1, hW1⟩ : ∃ W, w.alloc (.cells #[.string ⟨s.toArray⟩, .string ⟨d.toArray⟩, .string ⟨b.toArray⟩, .string ⟨y.toArray⟩] 36) = W := ⟨_, rfl⟩
  obtain ⟨Q, hQ⟩ : ∃ Q, w.heap.size = Q := ⟨_, rfl⟩
  have hb1 : Below w.heap.size w W1 := by rw [← hW1]; exact smBelow _ _
  have hQ1 : BlkIs W1 Q #[.string ⟨s.toArray⟩, .string ⟨d.toArray⟩, .string ⟨b.toArray⟩, .string ⟨y.toArray⟩] 36 := by rw [← hW1, ← hQ]; exact blkIs_new _ _ _
  have HW1 := Lib.hid hW1; have HI1 := Lib.hid (And.intro hb1 hQ1)
  clear hA hD hY hAl hDl hYl hpa hra hpd hrd hpy hry haw hs hd hbl hy hm hg hE hSB hDB hW1 hb1 hQ1
  go_enter Tryz.func5, Tryz.ntmps5
  go_upto_region 1 with fail
  rw [HW1.out]
  have c0 := HI1.out.2.cell 0 _ rfl
  have c1 := HI1.out.2.cell 1 _ rfl
  have c2 := HI1.out.2.cell 2 _ rfl
  have c3 := HI1.out.2.cell 3 _ rfl
  go_still (by kernel_rfl)
  clear c0 c1 c2 c3
  have HB1 := Lib.hid (show Below w.heap.size w W1.drew from HI1.out.1.drew)
  clear HI1 HW1 hQ
  go_wp2_with fail
  refine (HRA.out _).mono ?_
  rintro e w2 ⟨xv, rfl, hx, hb2⟩
  have HB2 := Lib.hid (And.intro (HB1.out.trans (hb2.mono HB1.out.size)) (parsIn_own hx))
  clear hx hb2 HB1
  go_wp2_with fail
  refine (HRD.out _).mono ?_
  rintro e w3 ⟨yv, rfl, hx, hb3⟩
  have HB3 := Lib.hid (And.intro (HB2.out.1.trans (hb3.mono HB2.out.1.size)) (And.intro (HB2.out.2.below hb3) (parsIn_own hx)))
  clear hx hb3 HB2
  go_wp2_with fail
  refine (HRY.out _).mono ?_
  rintro e w4 ⟨zv, rfl, hx, hb4⟩
  have HB4 := Lib.hid (And.intro (HB3.out.1.trans (hb4.mono HB3.out.1.size)) (And.intro (HB3.out.2.1.below hb4) (And.intro (HB3.out.2.2.below hb4) hx)))
  clear hx hb4 HB3
  obtain ⟨L, hL⟩ : ∃ L, w4.heap.size = L := ⟨_, rfl⟩
  obtain ⟨W5, hW5⟩ : ∃ W, (w4.alloc (.cells #[] 44)).alloc (.cells #[] 22) = W := ⟨_, rfl⟩
  have hsm : SM w4 L [] [] (.slice (some ⟨L, 0, none⟩) 0 0) (.slice (some ⟨L + 1, 0, none⟩) 0 0) W5 0 0 0 0 := by
    have h1 := World.ownsRow_made (e := 44) w4 #[] 0 (base := L) (size := 1) (by rw [hL]; exact Nat.le_refl _) (by simp) rfl
    have h2 := World.ownsRow_made (e := 22) (w4.alloc (.cells #[] 44)) #[] 0 (base := L) (size := 1) (by rw [World.size_alloc, hL]; omega) (by simp) rfl
    rw [hL] at h1
    rw [World.size_alloc, hL] at h2
    rw [← hW5]
    exact ⟨by rw [← hL]; exact (smBelow _ _).alloc (by simp) _, by rw [World.size_alloc, World.size_alloc, hL]; omega, h1.alloc _, h2, mRows_nil _ _ _ _, mRows_nil _ _ _ _⟩
  have HSM := Lib.hid hsm; have HW5 := Lib.hid hW5
  clear hsm hW5
  go_upto_region 7 with fail
  rw [HW5.out]
  clear HW5
  have HG0 := Lib.hid (show SMG w4 L 0 (.slice (some ⟨L, 0, none⟩) 0 0) (.slice (some ⟨L + 1, 0, none⟩) 0 0) W5 from ⟨[], [], rfl, rfl, apartL_nil, apartL_nil, by simp, by simp, HSM.out⟩)
  clear HSM
  have HLL := Lib.hid hL
  have hwL : w.heap.size ≤ L := by rw [← hL]; exact HB4.out.1.size
  have HWL := Lib.hid (And.intro hwL (show Below w.heap.size w w4 from HB4.out.1))
  have HREF := Lib.hid (show ∀ W, Below L w4 W → ParsIn W xv A ∧ ParsIn W yv D ∧ PrtsIn W zv Y from fun W hb => by rw [← hL] at hb; exact ⟨HB4.out.2.1.below hb, HB4.out.2.2.1.below hb, HB4.out.2.2.2.below hb⟩)
  have HBW := Lib.hid (show ∀ W, Below L w4 W → Below w.heap.size w W from fun W hb => HB4.out.1.trans (hb.mono hwL))
  clear HB4 hwL hL HRA HRD HRY
  go_wp2
  go_loopw [18, 16, 17] (fun iv lv av wr => ∃ i : Nat, iv = .int .i64 (i : Int) ∧ i ≤ 3 ∧ SMG w4 L i lv av wr) (fun iv _ _ _ => 3 - (intOf iv).toNat)
  case atStart => exact ⟨0, rfl, by decide, HG0.out⟩
  case round =>
    clear HG0
    obtain ⟨i, rfl, hi, hG⟩ := hrel
    have k0 : (0 : Int) ≤ (i : Int) := Int.natCast_nonneg _
    have k3 : (i : Int) ≤ 3 := by omega
    by_cases hlt : i < 3
    · have k1 : (i : Int) < 3 := by omega
      have k2 : decide ((i : Int) < 3) = true := decide_eq_true k1
      have HG := Lib.hid hG
      have HB := Lib.hid (show Below L w4 wr from by obtain ⟨vs, us, _, _, _, _, _, _, h⟩ := hG; exact h.below)
      clear hG
      go_wp2_with fail
      refine (HPA.out _ (HBW.out _ HB.out)).mono ?_
      rintro e wa ⟨va, rfl, ha, hba⟩
      have HA := Lib.hid (And.intro ha hba)
      obtain ⟨aoa, caa, rfl⟩ := own_shape ha
      have hLr : L ≤ wr.heap.size := by obtain ⟨vs, us, _, _, _, _, _, _, h⟩ := HG.out; exact h.base
      have HBa := Lib.hid (HB.out.trans (hba.mono hLr))
      have hLa : L ≤ wa.heap.size := Nat.le_trans hLr hba.size
      clear ha hba
      go_wp2_with fail
      refine (HPD.out _ (HBW.out _ HBa.out)).mono ?_
      rintro e wb ⟨vb, rfl, hb, hbb⟩
      have HBD := Lib.hid (And.intro hb hbb)
      obtain ⟨aob, cab, rfl⟩ := own_shape hb
      have HBb := Lib.hid (HBa.out.trans (hbb.mono hLa))
      have hLb : L ≤ wb.heap.size := Nat.le_trans hLa hbb.size
      clear hb hbb
      go_wp2_with fail
      refine (HPY.out _ (HBW.out _ HBb.out)).mono ?_
      rintro e wc ⟨vc, rfl, hc, hbc⟩
      have HCY2 := Lib.hid (And.intro hc hbc)
      obtain ⟨aoc, cac, rfl⟩ := own_shape hc
      have HBc := Lib.hid (HBb.out.trans (hbc.mono hLb))
      have hLc : L ≤ wc.heap.size := Nat.le_trans hLb hbc.size
      clear hc hbc
      have hra := own_later HA.out.1 (HBD.out.2.trans (HCY2.out.2.mono HBD.out.2.size))
      have hrb := own_later HBD.out.1 HCY2.out.2
      have HR := Lib.hid (And.intro hra (And.intro hrb HCY2.out.1))
      clear hra hrb
      go_wp2_with fail
      refine (HCA.out _ _ _ (parsIn_own HR.out.1) (HREF.out _ HBc.out).1).mono ?_
      rintro e wd ⟨rfl, hbd⟩
      have HBd := Lib.hid (HBc.out.trans (hbd.mono hLc))
      have hLd : L ≤ wd.heap.size := Nat.le_trans hLc hbd.size
      have HD1 := Lib.hid hbd
      clear hbd
      go_wp2_with fail
      refine (HCD.out _ _ _ (parsIn_own (own_later HR.out.2.1 HD1.out)) (HREF.out _ HBd.out).2.1).mono ?_
      rintro e we ⟨rfl, hbe⟩
      have HBe := Lib.hid (HBd.out.trans (hbe.mono hLd))
      have hLe : L ≤ we.heap.size := Nat.le_trans hLd hbe.size
      have HE1 := Lib.hid (HD1.out.trans (hbe.mono HD1.out.size))
      clear hbe HD1
      go_wp2_with fail
      refine (HCY.out _ _ _ (prtsIn_own (own_later HR.out.2.2 HE1.out)) (HREF.out _ HBe.out).2.2).mono ?_
      rintro e wf ⟨rfl, hbf⟩
      have HBf := Lib.hid (HBe.out.trans (hbf.mono hLe))
      have hLf : L ≤ wf.heap.size := Nat.le_trans hLe hbf.size
      have HF1 := Lib.hid (HE1.out.trans (hbf.mono HE1.out.size))
      clear hbf HE1
      obtain ⟨vs, us, hvl, hul, hAv, hAu, hvn, hun, hS⟩ := HG.out
      have m0 := hS.vrow
      have ap1 := hAv.append m0 (.slice aoa A.length caa) A.length wr.heap.size (Nat.le_refl _) (fun b hb => (HA.out.1.lt b hb).1)
      have m1 := (m0.below HA.out.2).append (.slice aoa A.length caa) A.length _ (own_down HA.out.1 hLr)
      have ap2 := ap1.append m1 (.slice aob D.length cab) D.length wa.heap.size (Nat.le_refl _) (fun b hb => (HBD.out.1.lt b hb).1)
      have m2 := (m1.below HBD.out.2).append (.slice aob D.length cab) D.length _ (own_down HBD.out.1 hLa)
      have hSb := (hS.later HA.out.2).later HBD.out.2
      have ap3 := hAu.append hSb.urow (.slice aoc Y.length cac) Y.length wb.heap.size (Nat.le_refl _) (fun b hb => (HCY2.out.1.lt b hb).1)
      have n1 := (hSb.urow.below HCY2.out.2).append (.slice aoc Y.length cac) Y.length _ (own_down HCY2.out.1 hLb)
      have hSf := (hSb.later HCY2.out.2).later HF1.out
      have m2f := (m2.below HCY2.out.2).below HF1.out
      have n1f := n1.below HF1.out
      have HV := Lib.hid (And.intro hvl (And.intro hul (And.intro ap2 (And.intro ap3 (And.intro hvn hun)))))
      have h2i : vs.length + 2 ≤ maxLen ∧ (vs.length + 2) * 24 ≤ 140737488355328 := by unfold maxLen; omega
      have h1i : us.length + 1 ≤ maxLen ∧ (us.length + 1) * 24 ≤ 140737488355328 := by unfold maxLen; omega
      clear hAv hAu hvn hun hS m0 ap1 m1 ap2 m2 hSb ap3 n1 HG HB HA HBa HBD HBb HCY2 HBc HR HBd HBe hLr hLa hLb hLc hLd hLe HF1 hvl hul
      obtain ⟨lvo, lvc, rfl⟩ := own_shape hSf.lrow
      obtain ⟨avo, avc, rfl⟩ := own_shape hSf.arow
      go_wp2_with (at_builtin; refine wpList_append_own_at _ rfl (.tmp 119) (.tmp 122) 42 rfl L 44 i0 (.slice none 0 0) 1 24 Tryz.underlying42 hi0 hz0 hz1 hz2 rfl (by decide) _ vs.length (vs.map (·.1)) rfl (hSf.lrow.alloc _) ⟨wf.heap.size, 0, none⟩ 2 2 [.slice aoa A.length caa, .slice aob D.length cab] rfl rfl (cells_new _ _ _) (by simp [Value.oneCell']) h2i.1 h2i.2 ?d0 ?_)
      case d0 => (try simp); omega
      intro lv2 wg hI hgr _ _
      have hst := sm_stepL (HBf.out.alloc hLf _) (by simp; omega) (hSf.lrow.alloc _) (hSf.arow.alloc _) (m2f.below (smBelow _ _)) (n1f.below (smBelow _ _)) hgr
      have HST := Lib.hid (And.intro hI hst)
      have hLg := hst.2.1
      clear hI hgr hst hSf m2f n1f HBf hLf
      obtain ⟨lwo, lwc, rfl⟩ := own_shape HST.out.1
      go_wp2_with (at_builtin; refine wpList_append_own_at _ rfl (.tmp 124) (.tmp 126) 43 rfl L 22 i1 (.slice none 0 0) 1 24 Tryz.underlying43 hi1 hy0 hy1 hy2 rfl (by decide) _ us.length (us.map (·.1)) rfl (HST.out.2.2.2.1.alloc _) ⟨wg.heap.size, 0, none⟩ 1 1 [.slice aoc Y.length cac] rfl rfl (cells_new _ _ _) (by simp [Value.oneCell']) h1i.1 h1i.2 ?d0 ?_)
      case d0 => (try simp); omega
      intro av2 wh hJ hgs _ _
      have hsu := sm_stepA (HST.out.2.1.alloc hLg _) (by simp; omega) (HST.out.1.alloc _) (HST.out.2.2.2.1.alloc _) (HST.out.2.2.2.2.1.below (smBelow _ _)) (HST.out.2.2.2.2.2.below (smBelow _ _)) hgs
      obtain ⟨j, hj⟩ : ∃ j, i + 1 = j := ⟨_, rfl⟩
      have hG2 : SMG w4 L j (.slice lwo (vs.length + 2) lwc) av2 wh := by
        refine ⟨vs ++ [(.slice aoa A.length caa, A.length)] ++ [(.slice aob D.length cab, D.length)], us ++ [(.slice aoc Y.length cac, Y.length)], by have := HV.out.1; simp; omega, by have := HV.out.2.1; simp; omega, HV.out.2.2.1, HV.out.2.2.2.1, ?_, ?_, ⟨hsu.1, hsu.2.1, ?_, ?_, hsu.2.2.2.1, hsu.2.2.2.2⟩⟩
        · intro p hp
          rcases List.mem_append.1 hp with hp | hp
          · rcases List.mem_append.1 hp with hp | hp
            · exact HV.out.2.2.2.2.1 p hp
            · obtain rfl := List.mem_singleton.1 hp; have := HLN.out; show A.length ≤ _; omega
          · obtain rfl := List.mem_singleton.1 hp; have := HLN.out; show D.length ≤ _; omega
        · intro p hp
          rcases List.mem_append.1 hp with hp | hp
          · exact HV.out.2.2.2.2.2 p hp
          · obtain rfl := List.mem_singleton.1 hp; have := HLN.out; show Y.length ≤ _; omega
        · have := hsu.2.2.1
          simpa using this
        · simpa using hJ
      have HG2 := Lib.hid hG2
      have j1 : (i : Int) + 1 = (j : Int) := by omega
      have j2 : (j : Int) ≤ 3 := by omega
      have HJ := Lib.hid hj
      clear hJ hgs hsu hG2 HST hLg hj HV h2i h1i
      go_wp2
      go_roundw
      case rel => exact ⟨j, rfl, by omega, HG2.out⟩
      case measure => have := HJ.out; simp [intOf]; omega
    · have k1 : ¬ (i : Int) < 3 := by omega
      have k2 : decide ((i : Int) < 3) = false := decide_eq_false k1
      obtain ⟨vs, us, hvl, hul, hAv, hAu, hvn, hun, hS⟩ := hG
      have hv6 : vs.length = 6 := by omega
      have hu3 : us.length = 3 := by omega
      obtain ⟨gl, lc, hlv, _, _⟩ := own1x hS.lrow (by omega)
      obtain ⟨ga, ac, hav, _, _⟩ := own1x hS.arow (by omega)
      rw [hv6] at hlv
      rw [hu3] at hav
      subst hlv
      subst hav
      have HS0 := Lib.hid hS
      have HVU := Lib.hid (And.intro hv6 (And.intro hu3 (And.intro hAv (And.intro hAu (And.intro hvn hun)))))
      clear hS hvl hul hAv hAu hvn hun hv6 hu3 hi hlt k0 k3 k1
      go_wp2
      clear k2
      go_loopw [28] (fun iv wr => ∃ i : Nat, iv = .int .i64 (i : Int) ∧ i ≤ 6 ∧ SM w4 L vs us (.slice (some ⟨gl, 0, none⟩) 6 lc) (.slice (some ⟨ga, 0, none⟩) 3 ac) wr i 0 0 0) (fun iv _ => 6 - (intOf iv).toNat)
      case atStart => exact ⟨0, rfl, by decide, HS0.out⟩
      case round =>
        clear HS0
        obtain ⟨i, rfl, hi, hS⟩ := hrel
        have k0 : (0 : Int) ≤ (i : Int) := Int.natCast_nonneg _
        have k6 : (i : Int) ≤ 6 := by omega
        by_cases hlt : i < 6
        · have k1 : (i : Int) < 6 := by omega
          have k2 : decide ((i : Int) < 6) = true := decide_eq_true k1
          obtain ⟨⟨pv, n⟩, hp⟩ : ∃ p, vs[i]? = some p := ⟨_, List.getElem?_eq_getElem (by rw [HVU.out.1]; exact hlt)⟩
          have hn := HVU.out.2.2.2.2.1 _ (List.mem_of_getElem? hp)
          obtain ⟨ao, c, hpv, hao⟩ := hS.vrow.slice i _ hp
          simp only at hn hpv hao
          subst hpv
          have HS := Lib.hid hS; have HP := Lib.hid (And.intro hp (And.intro hao hn))
          have hnI : (n : Int) ≤ 1048578 := by omega
          have hn0 : (0 : Int) ≤ (n : Int) := Int.natCast_nonneg _
          clear hS hp hao hn
          go_wp2
          go_loopw [29] (fun jv wr => ∃ j : Nat, jv = .int .i64 (j : Int) ∧ j ≤ n ∧ SM w4 L vs us (.slice (some ⟨gl, 0, none⟩) 6 lc) (.slice (some ⟨ga, 0, none⟩) 3 ac) wr i j 0 0) (fun jv _ => n - (intOf jv).toNat)
          case atStart => exact ⟨0, rfl, Nat.zero_le _, HS.out⟩
          case round =>
            clear HS
            obtain ⟨j, rfl, hj, hS⟩ := hrel
            have hlc := hS.lcell HVU.out.1 i _ HP.out.1
            simp only at hlc
            have HS := Lib.hid hS
            have q0 : (0 : Int) ≤ (j : Int) := Int.natCast_nonneg _
            have q1 : (j : Int) ≤ (n : Int) := by omega
            clear hS
            by_cases hjn : j < n
            · obtain ⟨g, rfl⟩ := HP.out.2.1 (by omega)
              have q2 : (j : Int) < (n : Int) := by omega
              have q3 : decide ((j : Int) < (n : Int)) = true := decide_eq_true q2
              have q4 : decide (j < n) = true := decide_eq_true hjn
              obtain ⟨H, hH⟩ : ∃ H, 100 * i = H := ⟨_, rfl⟩
              obtain ⟨M, hM⟩ : ∃ M, H + j = M := ⟨_, rfl⟩
              have f1 : (100 : Int) * (i : Int) = (H : Int) := by omega
              have f2 : (H : Int) + (j : Int) = (M : Int) := by omega
              have f3 : (M : Int) ≤ 1049178 := by omega
              have f4 : (0 : Int) ≤ (M : Int) := Int.natCast_nonneg _
              have f5 : (H : Int) ≤ 600 := by omega
              have f6 : (0 : Int) ≤ (H : Int) := Int.natCast_nonneg _
              have hM2 : 100 * i + j = M := by omega
              obtain ⟨Dg, hDg⟩ : ∃ D, Lib.decDigits M = D := ⟨_, rfl⟩
              obtain ⟨E, hE⟩ : ∃ E, mkB M = E := ⟨_, rfl⟩
              have hdg := fun W => rdig_m M W (by omega)
              rw [hDg] at hdg
              have e1 := mk_cat M Dg E hDg hE
              have n1 : ¬ 9223372036854775807 < 4 + Dg.length := by have := dec_len20m M (by omega); rw [hDg] at this; omega
              have HDG := Lib.hid hdg
              have HM := Lib.hid (And.intro hM2 hE)
              have HWH := Lib.hid (And.intro (sm_w64 H (by omega)) (sm_w64 M (by omega)))
              clear hdg hDg hE hM hH hM2
              go_upto_region 23 with fail
              clear hlc
              obtain ⟨⟨u1, u2⟩, u3, u4⟩ := HWH.out
              refine wp_region_textH (fun W => W.cell? ⟨gl, i, none⟩ = some (.slice (some ⟨g, 0, none⟩) n c)) [(0, true), (1, true), (2, true), (3, true), (4, true), (5, true), (6, true), (7, true), (8, true), (9, false), (10, true), (11, true), (12, true), (13, false)] (by kernel_rfl) (by kernel_rfl) (by kernel_rfl) (by kernel_rfl) (by have := HS.out.lcell HVU.out.1 i _ HP.out.1; exact this) ?_
              iterate 9 (refine wpTxH_take rfl (by kernel_rfl) (v := ?_) ?_ ?_; rotate_left; · (intro W hS; go_simp; with_reducible rfl))
              refine wpTxH_step rfl (fun K hK => ?_)
              go_simp
              clear u1 u2 u3 u4
              refine (HDG.out _).mono ?_
              rintro e wz ⟨rfl, hbz⟩
              have hdr : Below wr.heap.size wr wr.drew := (Below.refl _ wr).drew
              have hSz := (HS.out.later hdr).later hbz
              clear hdr
              have HSZ := Lib.hid hSz
              refine hK _ _ (by have := HSZ.out.lcell HVU.out.1 i _ HP.out.1; exact this) ?_
              clear hK K hbz hSz HS
              iterate 3 (refine wpTxH_take rfl (by kernel_rfl) (v := ?_) ?_ ?_; rotate_left; · (intro W hS; clear hS; go_simp; with_reducible rfl))
              have hS9 := HSZ.out.mark3 HVU.out.2.2.1 HP.out.1 hjn
              rw [HM.out.1, HM.out.2] at hS9
              have HS9 := Lib.hid hS9
              clear hS9
              obtain ⟨⟨x0, y0⟩, z0⟩ := cells_ex HSZ.out.vrow HP.out.1 hjn 0 (by decide)
              obtain ⟨⟨x1, y1⟩, z1⟩ := cells_ex HSZ.out.vrow HP.out.1 hjn 1 (by decide)
              obtain ⟨⟨x2, y2⟩, z2⟩ := cells_ex HSZ.out.vrow HP.out.1 hjn 2 (by decide)
              rw [Nat.add_zero] at y0 z0
              refine wpTxH_step rfl (fun K hK => ?_)
              go_simp
              refine hK _ _ (by have := HS9.out.lcell HVU.out.1 i _ HP.out.1; exact this) ?_
              clear hK K HSZ y0 z0 y1 z1 y2 z2
              refine wpTxH_nil ?_
              go_simp
              obtain ⟨j2, hj2⟩ : ∃ k, j + 1 = k := ⟨_, rfl⟩
              have g1 : (j : Int) + 1 = (j2 : Int) := by omega
              have g2 : (j2 : Int) ≤ (n : Int) := by omega
              have HJ2 := Lib.hid hj2
              clear hj2
              go_wp2
              go_roundw
              case rel => exact ⟨j2, rfl, by omega, by rw [← HJ2.out]; exact HS9.out⟩
              case measure => have := HJ2.out; simp [intOf]; omega
            · have hj0 : n ≤ j := by omega
              obtain rfl : j = n := by omega
              have q3 : decide ((j : Int) < (j : Int)) = false := decide_eq_false (by omega)
              have q4 : decide (j < j) = false := decide_eq_false (Nat.lt_irrefl _)
              have hS2 := HS.out.nextV _ HP.out.1 hj0
              have HS2 := Lib.hid hS2
              obtain ⟨i2, hi2⟩ : ∃ k, i + 1 = k := ⟨_, rfl⟩
              rw [hi2] at hS2
              have HS3 := Lib.hid hS2
              have g1 : (i : Int) + 1 = (i2 : Int) := by omega
              have g2 : (i2 : Int) ≤ 6 := by omega
              have HI2 := Lib.hid hi2
              clear hS2 HS2 HS hi2
              go_wp2
              go_roundw
              case rel => exact ⟨i2, rfl, by omega, HS3.out⟩
              case measure => have := HI2.out; simp [intOf]; omega
        · have k1 : ¬ (i : Int) < 6 := by omega
          have k2 : decide ((i : Int) < 6) = false := decide_eq_false k1
          have hiN : i = 6 := by omega
          have HS0 := Lib.hid (show SM w4 L vs us (.slice (some ⟨gl, 0, none⟩) 6 lc) (.slice (some ⟨ga, 0, none⟩) 3 ac) wr 6 0 0 0 from by subst hiN; exact hS)
          clear hS hi hlt k0 k6 k1 hiN
          go_wp2
          clear k2
          go_loopw [30] (fun iv wr => ∃ i : Nat, iv = .int .i64 (i : Int) ∧ i ≤ 3 ∧ SM w4 L vs us (.slice (some ⟨gl, 0, none⟩) 6 lc) (.slice (some ⟨ga, 0, none⟩) 3 ac) wr 6 0 i 0) (fun iv _ => 3 - (intOf iv).toNat)
          case atStart => exact ⟨0, rfl, by decide, HS0.out⟩
          case round =>
            clear HS0
            obtain ⟨i, rfl, hi, hS⟩ := hrel
            have k0 : (0 : Int) ≤ (i : Int) := Int.natCast_nonneg _
            have k6 : (i : Int) ≤ 3 := by omega
            by_cases hlt : i < 3
            · have k1 : (i : Int) < 3 := by omega
              have k2 : decide ((i : Int) < 3) = true := decide_eq_true k1
              obtain ⟨⟨pv, n⟩, hp⟩ : ∃ p, us[i]? = some p := ⟨_, List.getElem?_eq_getElem (by rw [HVU.out.2.1]; exact hlt)⟩
              have hn := HVU.out.2.2.2.2.2 _ (List.mem_of_getElem? hp)
              obtain ⟨ao, c, hpv, hao⟩ := hS.urow.slice i _ hp
              simp only at hn hpv hao
              subst hpv
              have HS := Lib.hid hS; have HP := Lib.hid (And.intro hp (And.intro hao hn))
              have hnI : (n : Int) ≤ 1048578 := by omega
              have hn0 : (0 : Int) ≤ (n : Int) := Int.natCast_nonneg _
              clear hS hp hao hn
              go_wp2
              go_loopw [31] (fun jv wr => ∃ j : Nat, jv = .int .i64 (j : Int) ∧ j ≤ n ∧ SM w4 L vs us (.slice (some ⟨gl, 0, none⟩) 6 lc) (.slice (some ⟨ga, 0, none⟩) 3 ac) wr 6 0 i j) (fun jv _ => n - (intOf jv).toNat)
              case atStart => exact ⟨0, rfl, Nat.zero_le _, HS.out⟩
              case round =>
                clear HS
                obtain ⟨j, rfl, hj, hS⟩ := hrel
                have hlc := hS.acell HVU.out.2.1 i _ HP.out.1
                simp only at hlc
                have HS := Lib.hid hS
                have q0 : (0 : Int) ≤ (j : Int) := Int.natCast_nonneg _
                have q1 : (j : Int) ≤ (n : Int) := by omega
                clear hS
                by_cases hjn : j < n
                · obtain ⟨g, rfl⟩ := HP.out.2.1 (by omega)
                  have q2 : (j : Int) < (n : Int) := by omega
                  have q3 : decide ((j : Int) < (n : Int)) = true := decide_eq_true q2
                  have q4 : decide (j < n) = true := decide_eq_true hjn
                  obtain ⟨H, hH⟩ : ∃ H, 100 * i = H := ⟨_, rfl⟩
                  obtain ⟨M, hM⟩ : ∃ M, H + j = M := ⟨_, rfl⟩
                  have f1 : (100 : Int) * (i : Int) = (H : Int) := by omega
                  have f2 : (H : Int) + (j : Int) = (M : Int) := by omega
                  have f3 : (M : Int) ≤ 1049178 := by omega
                  have f4 : (0 : Int) ≤ (M : Int) := Int.natCast_nonneg _
                  have f5 : (H : Int) ≤ 600 := by omega
                  have f6 : (0 : Int) ≤ (H : Int) := Int.natCast_nonneg _
                  have hM2 : 100 * i + j = M := by omega
                  obtain ⟨Dg, hDg⟩ : ∃ D, Lib.decDigits M = D := ⟨_, rfl⟩
                  obtain ⟨E, hE⟩ : ∃ E, mkB M = E := ⟨_, rfl⟩
                  have hdg := fun W => rdig_m M W (by omega)
                  rw [hDg] at hdg
                  have e1 := mk_cat M Dg E hDg hE
                  have n1 : ¬ 9223372036854775807 < 4 + Dg.length := by have := dec_len20m M (by omega); rw [hDg] at this; omega
                  have HDG := Lib.hid hdg
                  have HM := Lib.hid (And.intro hM2 hE)
                  have HWH := Lib.hid (And.intro (sm_w64 H (by omega)) (sm_w64 M (by omega)))
                  clear hdg hDg hE hM hH hM2
                  go_upto_region 30 with fail
                  clear hlc
                  obtain ⟨⟨u1, u2⟩, u3, u4⟩ := HWH.out
                  refine wp_region_textH (fun W => W.cell? ⟨ga, i, none⟩ = some (.slice (some ⟨g, 0, none⟩) n c)) [(0, true), (1, true), (2, true), (3, true), (4, true), (5, true), (6, true), (7, true), (8, true), (9, false), (10, true), (11, true), (12, true), (13, false)] (by kernel_rfl) (by kernel_rfl) (by kernel_rfl) (by kernel_rfl) (by have := HS.out.acell HVU.out.2.1 i _ HP.out.1; exact this) ?_
                  iterate 9 (refine wpTxH_take rfl (by kernel_rfl) (v := ?_) ?_ ?_; rotate_left; · (intro W hS; go_simp; with_reducible rfl))
                  refine wpTxH_step rfl (fun K hK => ?_)
                  go_simp
                  clear u1 u2 u3 u4
                  refine (HDG.out _).mono ?_
                  rintro e wz ⟨rfl, hbz⟩
                  have hdr : Below wr.heap.size wr wr.drew := (Below.refl _ wr).drew
                  have hSz := (HS.out.later hdr).later hbz
                  clear hdr
                  have HSZ := Lib.hid hSz
                  refine hK _ _ (by have := HSZ.out.acell HVU.out.2.1 i _ HP.out.1; exact this) ?_
                  clear hK K hbz hSz HS
                  iterate 3 (refine wpTxH_take rfl (by kernel_rfl) (v := ?_) ?_ ?_; rotate_left; · (intro W hS; clear hS; go_simp; with_reducible rfl))
                  have hS9 := HSZ.out.mark5 HVU.out.2.2.2.1 HP.out.1 hjn
                  rw [HM.out.1, HM.out.2] at hS9
                  have HS9 := Lib.hid hS9
                  clear hS9
                  obtain ⟨⟨x0, y0⟩, z0⟩ := cells_ex HSZ.out.urow HP.out.1 hjn 0 (by decide)
                  obtain ⟨⟨x1, y1⟩, z1⟩ := cells_ex HSZ.out.urow HP.out.1 hjn 1 (by decide)
                  obtain ⟨⟨x2, y2⟩, z2⟩ := cells_ex HSZ.out.urow HP.out.1 hjn 2 (by decide)
                  obtain ⟨⟨x3, y3⟩, z3⟩ := cells_ex HSZ.out.urow HP.out.1 hjn 3 (by decide)
                  obtain ⟨⟨x4, y4⟩, z4⟩ := cells_ex HSZ.out.urow HP.out.1 hjn 4 (by decide)
                  rw [Nat.add_zero] at y0 z0
                  refine wpTxH_step rfl (fun K hK => ?_)
                  go_simp
                  refine hK _ _ (by have := HS9.out.acell HVU.out.2.1 i _ HP.out.1; exact this) ?_
                  clear hK K HSZ y0 z0 y1 z1 y2 z2 y3 z3 y4 z4
                  refine wpTxH_nil ?_
                  go_simp
                  obtain ⟨j2, hj2⟩ : ∃ k, j + 1 = k := ⟨_, rfl⟩
                  have g1 : (j : Int) + 1 = (j2 : Int) := by omega
                  have g2 : (j2 : Int) ≤ (n : Int) := by omega
                  have HJ2 := Lib.hid hj2
                  clear hj2
                  go_wp2
                  go_roundw
                  case rel => exact ⟨j2, rfl, by omega, by rw [← HJ2.out]; exact HS9.out⟩
                  case measure => have := HJ2.out; simp [intOf]; omega
                · have hj0 : n ≤ j := by omega
                  obtain rfl : j = n := by omega
                  have q3 : decide ((j : Int) < (j : Int)) = false := decide_eq_false (by omega)
                  have q4 : decide (j < j) = false := decide_eq_false (Nat.lt_irrefl _)
                  have hS2 := HS.out.nextU _ HP.out.1 hj0
                  have HS2 := Lib.hid hS2
                  obtain ⟨i2, hi2⟩ : ∃ k, i + 1 = k := ⟨_, rfl⟩
                  rw [hi2] at hS2
                  have HS3 := Lib.hid hS2
                  have g1 : (i : Int) + 1 = (i2 : Int) := by omega
                  have g2 : (i2 : Int) ≤ 3 := by omega
                  have HI2 := Lib.hid hi2
                  clear hS2 HS2 HS hi2
                  go_wp2
                  go_roundw
                  case rel => exact ⟨i2, rfl, by omega, HS3.out⟩
                  case measure => have := HI2.out; simp [intOf]; omega
            · have k1 : ¬ (i : Int) < 3 := by omega
              have k2 : decide ((i : Int) < 3) = false := decide_eq_false k1
              have hiN : i = 3 := by omega
              have HS0 := Lib.hid (show SM w4 L vs us (.slice (some ⟨gl, 0, none⟩) 6 lc) (.slice (some ⟨ga, 0, none⟩) 3 ac) wr 6 0 3 0 from by subst hiN; exact hS)
              clear hS hi hlt k0 k6 k1 hiN
              go_wp2
              clear k2
              go_loopw [32] (fun iv wr => ∃ i : Nat, iv = .int .i64 (i : Int) ∧ i ≤ 6 ∧ SM w4 L vs us (.slice (some ⟨gl, 0, none⟩) 6 lc) (.slice (some ⟨ga, 0, none⟩) 3 ac) wr 6 0 3 0) (fun iv _ => 6 - (intOf iv).toNat)
              case atStart => exact ⟨0, rfl, by decide, HS0.out⟩
              case round =>
                clear HS0
                obtain ⟨i, rfl, hi, hS⟩ := hrel
                have k0 : (0 : Int) ≤ (i : Int) := Int.natCast_nonneg _
                have k6 : (i : Int) ≤ 6 := by omega
                by_cases hlt : i < 6
                · have k1 : (i : Int) < 6 := by omega
                  have k2 : decide ((i : Int) < 6) = true := decide_eq_true k1
                  obtain ⟨⟨pv, n⟩, hp⟩ : ∃ p, vs[i]? = some p := ⟨_, List.getElem?_eq_getElem (by rw [HVU.out.1]; exact hlt)⟩
                  have hn := HVU.out.2.2.2.2.1 _ (List.mem_of_getElem? hp)
                  obtain ⟨ao, c, hpv, hao⟩ := hS.vrow.slice i _ hp
                  simp only at hn hpv hao
                  subst hpv
                  have HS := Lib.hid hS; have HP := Lib.hid (And.intro hp (And.intro hao hn))
                  have hnI : (n : Int) ≤ 1048578 := by omega
                  have hn0 : (0 : Int) ≤ (n : Int) := Int.natCast_nonneg _
                  clear hS hp hao hn
                  have hlc := HS.out.lcell HVU.out.1 i _ HP.out.1
                  simp only at hlc
                  obtain ⟨xs0, hx0⟩ := HS.out.vrow.row i _ HP.out.1
                  have hC0 := grow_start HS.out.vrow HVU.out.2.2.1 _ HP.out.1
                  simp only at hx0 hC0
                  have HX0 := Lib.hid (And.intro hx0 hC0)
                  clear hx0 hC0
                  go_wp2
                  clear hlc
                  go_loopw [34, 33] (fun jv gv wr => ∃ (j : Nat) (ys : List Value), jv = .int .i64 (j : Int) ∧ j ≤ 20 ∧ SM w4 L vs us (.slice (some ⟨gl, 0, none⟩) 6 lc) (.slice (some ⟨ga, 0, none⟩) 3 ac) wr 6 0 3 0 ∧ wr.ownsRow L 52 3 gv (n + j) ys ∧ (∀ (k : Nat) (p : Value × Nat), vs[k]? = some p → p.1.ownBlock = gv.ownBlock → p.2 ≤ n + j)) (fun jv _ _ => 20 - (intOf jv).toNat)
                  case atStart => exact ⟨0, xs0, rfl, by decide, HS.out, HX0.out.1, HX0.out.2⟩
                  case round =>
                    clear HS HX0
                    obtain ⟨j, ys, rfl, hj, hS, hown, hC⟩ := hrel
                    have q0 : (0 : Int) ≤ (j : Int) := Int.natCast_nonneg _
                    have q1 : (j : Int) ≤ 20 := by omega
                    by_cases hjn : j < 20
                    · have q2 : (j : Int) < 20 := by omega
                      have q3 : decide ((j : Int) < 20) = true := decide_eq_true q2
                      obtain ⟨avo, avc, rfl⟩ := own_shape hown
                      have hbd := sm_bd n j HP.out.2.2 hjn
                      have hL0 := hS.base
                      have HS := Lib.hid (And.intro hS hC)
                      clear hS hC
                      go_wp2_with (at_builtin; refine wpList_append_keep rfl (.tmp 198) (.tmp 200) 44 rfl L 52 ip (.agg #[.string ByteArray.empty, .string ByteArray.empty, .bool false]) 3 40 Tryz.underlying44 hp0 hp1 hp2 hp3 rfl (by decide) _ (n + j) ys rfl (hown.alloc _) ⟨wr.heap.size, 0, none⟩ 1 1 [.string ⟨#[103, 114, 111, 119, 110]⟩, .string ⟨#[]⟩, .bool false] rfl rfl (cells_new _ _ _) (by simp [Value.oneCell']) hbd.1 hbd.2.1 ?d0 ?_)
                      case d0 => (try simp); omega
                      intro v2 w2 hI hgr hloc hK
                      have h1 := HS.out.1.later (smBelow wr (.cells ([.string ⟨#[103, 114, 111, 119, 110]⟩, .string ⟨#[]⟩, .bool false] : List Value).toArray 52))
                      have hS2 := h1.growV (hown.alloc _) hgr HS.out.2 hK
                      have hC2 := grow_cond h1.vrow HS.out.2 (Nat.le_succ (n + j)) (by rw [World.size_alloc]; exact hloc)
                      have HN := Lib.hid (And.intro hS2 (And.intro hI hC2))
                      clear h1 hS2 hC2 hI hgr hloc hK hown hbd hL0 HS
                      obtain ⟨j2, hj2⟩ : ∃ k, j + 1 = k := ⟨_, rfl⟩
                      have g1 : (j : Int) + 1 = (j2 : Int) := by omega
                      have g2 : (j2 : Int) ≤ 20 := by omega
                      have HJ2 := Lib.hid hj2
                      clear hj2
                      go_wp2
                      go_roundw
                      case rel => exact ⟨j2, _, rfl, by omega, HN.out.1, by rw [← HJ2.out]; exact HN.out.2.1, by rw [← HJ2.out]; exact HN.out.2.2⟩
                      case measure => have := HJ2.out; simp [intOf]; omega
                    · have q2 : ¬ (j : Int) < 20 := by omega
                      have q3 : decide ((j : Int) < 20) = false := decide_eq_false q2
                      have HS3 := Lib.hid hS
                      clear hS hown hC
                      obtain ⟨i2, hi2⟩ : ∃ k, i + 1 = k := ⟨_, rfl⟩
                      have g1 : (i : Int) + 1 = (i2 : Int) := by omega
                      have g2 : (i2 : Int) ≤ 6 := by omega
                      have HI2 := Lib.hid hi2
                      clear hi2
                      go_wp2
                      go_roundw
                      case rel => exact ⟨i2, rfl, by omega, HS3.out⟩
                      case measure => have := HI2.out; simp [intOf]; omega
                · have k1 : ¬ (i : Int) < 6 := by omega
                  have k2 : decide ((i : Int) < 6) = false := decide_eq_false k1
                  have HS0 := Lib.hid hS
                  clear hS hi hlt k0 k6 k1
                  go_wp2
                  clear k2
                  go_loopw [35] (fun iv wr => ∃ i : Nat, iv = .int .i64 (i : Int) ∧ i ≤ 3 ∧ SM w4 L vs us (.slice (some ⟨gl, 0, none⟩) 6 lc) (.slice (some ⟨ga, 0, none⟩) 3 ac) wr 6 0 3 0) (fun iv _ => 3 - (intOf iv).toNat)
                  case atStart => exact ⟨0, rfl, by decide, HS0.out⟩
                  case round =>
                    clear HS0
                    obtain ⟨i, rfl, hi, hS⟩ := hrel
                    have k0 : (0 : Int) ≤ (i : Int) := Int.natCast_nonneg _
                    have k6 : (i : Int) ≤ 3 := by omega
                    by_cases hlt : i < 3
                    · have k1 : (i : Int) < 3 := by omega
                      have k2 : decide ((i : Int) < 3) = true := decide_eq_true k1
                      obtain ⟨⟨pv, n⟩, hp⟩ : ∃ p, us[i]? = some p := ⟨_, List.getElem?_eq_getElem (by rw [HVU.out.2.1]; exact hlt)⟩
                      have hn := HVU.out.2.2.2.2.2 _ (List.mem_of_getElem? hp)
                      obtain ⟨ao, c, hpv, hao⟩ := hS.urow.slice i _ hp
                      simp only at hn hpv hao
                      subst hpv
                      have HS := Lib.hid hS; have HP := Lib.hid (And.intro hp (And.intro hao hn))
                      have hnI : (n : Int) ≤ 1048578 := by omega
                      have hn0 : (0 : Int) ≤ (n : Int) := Int.natCast_nonneg _
                      clear hS hp hao hn
                      have hlc := HS.out.acell HVU.out.2.1 i _ HP.out.1
                      simp only at hlc
                      obtain ⟨xs0, hx0⟩ := HS.out.urow.row i _ HP.out.1
                      have hC0 := grow_start HS.out.urow HVU.out.2.2.2.1 _ HP.out.1
                      simp only at hx0 hC0
                      have HX0 := Lib.hid (And.intro hx0 hC0)
                      clear hx0 hC0
                      go_wp2
                      clear hlc
                      go_loopw [37, 36] (fun jv gv wr => ∃ (j : Nat) (ys : List Value), jv = .int .i64 (j : Int) ∧ j ≤ 20 ∧ SM w4 L vs us (.slice (some ⟨gl, 0, none⟩) 6 lc) (.slice (some ⟨ga, 0, none⟩) 3 ac) wr 6 0 3 0 ∧ wr.ownsRow L 34 5 gv (n + j) ys ∧ (∀ (k : Nat) (p : Value × Nat), us[k]? = some p → p.1.ownBlock = gv.ownBlock → p.2 ≤ n + j)) (fun jv _ _ => 20 - (intOf jv).toNat)
                      case atStart => exact ⟨0, xs0, rfl, by decide, HS.out, HX0.out.1, HX0.out.2⟩
                      case round =>
                        clear HS HX0
                        obtain ⟨j, ys, rfl, hj, hS, hown, hC⟩ := hrel
                        have q0 : (0 : Int) ≤ (j : Int) := Int.natCast_nonneg _
                        have q1 : (j : Int) ≤ 20 := by omega
                        by_cases hjn : j < 20
                        · have q2 : (j : Int) < 20 := by omega
                          have q3 : decide ((j : Int) < 20) = true := decide_eq_true q2
                          obtain ⟨avo, avc, rfl⟩ := own_shape hown
                          have hbd := sm_bd n j HP.out.2.2 hjn
                          have hL0 := hS.base
                          have HS := Lib.hid (And.intro hS hC)
                          clear hS hC
                          go_wp2_with (at_builtin; refine wpList_append_keep rfl (.tmp 216) (.tmp 218) 22 rfl L 34 iq (.agg #[.string ByteArray.empty, .string ByteArray.empty, .string ByteArray.empty, .string ByteArray.empty, .bool false]) 5 72 Tryz.underlying22 hq0 hq1 hq2 hq3 rfl (by decide) _ (n + j) ys rfl (hown.alloc _) ⟨wr.heap.size, 0, none⟩ 1 1 [.string ⟨#[103, 114, 111, 119, 110]⟩, .string ⟨#[]⟩, .string ⟨#[]⟩, .string ⟨#[]⟩, .bool false] rfl rfl (cells_new _ _ _) (by simp [Value.oneCell']) hbd.1 hbd.2.2 ?d0 ?_)
                          case d0 => (try simp); omega
                          intro v2 w2 hI hgr hloc hK
                          have h1 := HS.out.1.later (smBelow wr (.cells ([.string ⟨#[103, 114, 111, 119, 110]⟩, .string ⟨#[]⟩, .string ⟨#[]⟩, .string ⟨#[]⟩, .bool false] : List Value).toArray 34))
                          have hS2 := h1.growU (hown.alloc _) hgr HS.out.2 hK
                          have hC2 := grow_cond h1.urow HS.out.2 (Nat.le_succ (n + j)) (by rw [World.size_alloc]; exact hloc)
                          have HN := Lib.hid (And.intro hS2 (And.intro hI hC2))
                          clear h1 hS2 hC2 hI hgr hloc hK hown hbd hL0 HS
                          obtain ⟨j2, hj2⟩ : ∃ k, j + 1 = k := ⟨_, rfl⟩
                          have g1 : (j : Int) + 1 = (j2 : Int) := by omega
                          have g2 : (j2 : Int) ≤ 20 := by omega
                          have HJ2 := Lib.hid hj2
                          clear hj2
                          go_wp2
                          go_roundw
                          case rel => exact ⟨j2, _, rfl, by omega, HN.out.1, by rw [← HJ2.out]; exact HN.out.2.1, by rw [← HJ2.out]; exact HN.out.2.2⟩
                          case measure => have := HJ2.out; simp [intOf]; omega
                        · have q2 : ¬ (j : Int) < 20 := by omega
                          have q3 : decide ((j : Int) < 20) = false := decide_eq_false q2
                          have HS3 := Lib.hid hS
                          clear hS hown hC
                          obtain ⟨i2, hi2⟩ : ∃ k, i + 1 = k := ⟨_, rfl⟩
                          have g1 : (i : Int) + 1 = (i2 : Int) := by omega
                          have g2 : (i2 : Int) ≤ 3 := by omega
                          have HI2 := Lib.hid hi2
                          clear hi2
                          go_wp2
                          go_roundw
                          case rel => exact ⟨i2, rfl, by omega, HS3.out⟩
                          case measure => have := HI2.out; simp [intOf]; omega
                    · have k1 : ¬ (i : Int) < 3 := by omega
                      have k2 : decide ((i : Int) < 3) = false := decide_eq_false k1
                      have HS0 := Lib.hid hS
                      clear hS hi hlt k0 k6 k1
                      go_wp2
                      clear k2
                      go_loopw [38] (fun iv wr => ∃ i : Nat, iv = .int .i64 (i : Int) ∧ i ≤ 6 ∧ SM w4 L vs us (.slice (some ⟨gl, 0, none⟩) 6 lc) (.slice (some ⟨ga, 0, none⟩) 3 ac) wr 6 0 3 0) (fun iv _ => 6 - (intOf iv).toNat)
                      case atStart => exact ⟨0, rfl, by decide, HS0.out⟩
                      case round =>
                        clear HS0
                        obtain ⟨i, rfl, hi, hS⟩ := hrel
                        have k0 : (0 : Int) ≤ (i : Int) := Int.natCast_nonneg _
                        have k6 : (i : Int) ≤ 6 := by omega
                        by_cases hlt : i < 6
                        · have k1 : (i : Int) < 6 := by omega
                          have k2 : decide ((i : Int) < 6) = true := decide_eq_true k1
                          obtain ⟨⟨pv, n⟩, hp⟩ : ∃ p, vs[i]? = some p := ⟨_, List.getElem?_eq_getElem (by rw [HVU.out.1]; exact hlt)⟩
                          have hn := HVU.out.2.2.2.2.1 _ (List.mem_of_getElem? hp)
                          obtain ⟨ao, c, hpv, hao⟩ := hS.vrow.slice i _ hp
                          simp only at hn hpv hao
                          subst hpv
                          have HS := Lib.hid hS; have HP := Lib.hid (And.intro hp (And.intro hao hn))
                          have hnI : (n : Int) ≤ 1048578 := by omega
                          have hn0 : (0 : Int) ≤ (n : Int) := Int.natCast_nonneg _
                          clear hS hp hao hn
                          go_wp2
                          go_loopw [39] (fun jv wr => ∃ j : Nat, jv = .int .i64 (j : Int) ∧ j ≤ n ∧ SM w4 L vs us (.slice (some ⟨gl, 0, none⟩) 6 lc) (.slice (some ⟨ga, 0, none⟩) 3 ac) wr 6 0 3 0) (fun jv _ => n - (intOf jv).toNat)
                          case atStart => exact ⟨0, rfl, Nat.zero_le _, HS.out⟩
                          case round =>
                            clear HS
                            obtain ⟨j, rfl, hj, hS⟩ := hrel
                            have hlc := hS.lcell HVU.out.1 i _ HP.out.1
                            simp only at hlc
                            have HS := Lib.hid hS
                            have q0 : (0 : Int) ≤ (j : Int) := Int.natCast_nonneg _
                            have q1 : (j : Int) ≤ (n : Int) := by omega
                            clear hS
                            by_cases hjn : j < n
                            · obtain ⟨g, rfl⟩ := HP.out.2.1 (by omega)
                              have q2 : (j : Int) < (n : Int) := by omega
                              have q3 : decide ((j : Int) < (n : Int)) = true := decide_eq_true q2
                              have q4 : decide (j < n) = true := decide_eq_true hjn
                              obtain ⟨H, hH⟩ : ∃ H, 100 * i = H := ⟨_, rfl⟩
                              obtain ⟨M, hM⟩ : ∃ M, H + j = M := ⟨_, rfl⟩
                              have f1 : (100 : Int) * (i : Int) = (H : Int) := by omega
                              have f2 : (H : Int) + (j : Int) = (M : Int) := by omega
                              have f3 : (M : Int) ≤ 1049178 := by omega
                              have f4 : (0 : Int) ≤ (M : Int) := Int.natCast_nonneg _
                              have f5 : (H : Int) ≤ 600 := by omega
                              have f6 : (0 : Int) ≤ (H : Int) := Int.natCast_nonneg _
                              have hM2 : 100 * i + j = M := by omega
                              obtain ⟨Dg, hDg⟩ : ∃ D, Lib.decDigits M = D := ⟨_, rfl⟩
                              obtain ⟨E, hE⟩ : ∃ E, mkB M = E := ⟨_, rfl⟩
                              have hdg := fun W => rdig_m M W (by omega)
                              rw [hDg] at hdg
                              have e1 := mk_cat M Dg E hDg hE
                              have n1 : ¬ 9223372036854775807 < 4 + Dg.length := by have := dec_len20m M (by omega); rw [hDg] at this; omega
                              have HDG := Lib.hid hdg
                              have HM := Lib.hid (And.intro hM2 hE)
                              have HWH := Lib.hid (And.intro (sm_w64 H (by omega)) (sm_w64 M (by omega)))
                              clear hdg hDg hE hM hH hM2
                              go_upto_region 53 with fail
                              clear hlc
                              have hat := fun (W : World) (h : SM w4 L vs us (.slice (some ⟨gl, 0, none⟩) 6 lc) (.slice (some ⟨ga, 0, none⟩) 3 ac) W 6 0 3 0) => sm_at h.vrow i _ HP.out.1 j hjn hlt (by decide)
                              simp only [HM.out.1, HM.out.2] at hat
                              have HAT := Lib.hid (fun (W : World) (h : SM w4 L vs us (.slice (some ⟨gl, 0, none⟩) 6 lc) (.slice (some ⟨ga, 0, none⟩) 3 ac) W 6 0 3 0) => And.intro (show W.cell? ⟨gl, i, none⟩ = some (.slice (some ⟨g, 0, none⟩) n c) from h.lcell HVU.out.1 i _ HP.out.1) (hat W h))
                              clear hat
                              obtain ⟨⟨u1, u2⟩, u3, u4⟩ := HWH.out
                              refine wp_region_textH (fun W => W.cell? ⟨gl, i, none⟩ = some (.slice (some ⟨g, 0, none⟩) n c) ∧ W.cell? ⟨g, j * 3, none⟩ = some (.string ⟨E.toArray⟩)) [(0, true), (1, true), (2, true), (3, true), (4, true), (5, true), (6, true), (7, true), (8, true), (9, true), (10, true), (11, true), (12, false), (13, true), (14, true)] (by kernel_rfl) (by kernel_rfl) (by kernel_rfl) (by kernel_rfl) (HAT.out wr HS.out) ?_
                              iterate 12 (refine wpTxH_take rfl (by kernel_rfl) (v := ?_) ?_ ?_; rotate_left; · (intro W hS; obtain ⟨t0, t1⟩ := hS; go_simp; with_reducible rfl))
                              refine wpTxH_step rfl (fun K hK => ?_)
                              go_simp
                              clear u1 u2 u3 u4
                              refine (HDG.out _).mono ?_
                              rintro e wz ⟨rfl, hbz⟩
                              have hdr : Below wr.heap.size wr wr.drew := (Below.refl _ wr).drew
                              have hSz := (HS.out.later hdr).later hbz
                              clear hdr
                              have HSZ := Lib.hid hSz
                              refine hK _ _ (HAT.out wz HSZ.out) ?_
                              clear hK K hbz hSz HS
                              iterate 2 (refine wpTxH_take rfl (by kernel_rfl) (v := ?_) ?_ ?_; rotate_left; · (intro W hS; clear hS; go_simp; with_reducible rfl))
                              refine wpTxH_nil ?_
                              go_simp
                              obtain ⟨j2, hj2⟩ : ∃ k, j + 1 = k := ⟨_, rfl⟩
                              have g1 : (j : Int) + 1 = (j2 : Int) := by omega
                              have g2 : (j2 : Int) ≤ (n : Int) := by omega
                              have HJ2 := Lib.hid hj2
                              clear hj2
                              go_wp2
                              go_roundw
                              case rel => exact ⟨j2, rfl, by omega, HSZ.out⟩
                              case measure => have := HJ2.out; simp [intOf]; omega
                            · have hj0 : n ≤ j := by omega
                              obtain rfl : j = n := by omega
                              have q3 : decide ((j : Int) < (j : Int)) = false := decide_eq_false (by omega)
                              have q4 : decide (j < j) = false := decide_eq_false (Nat.lt_irrefl _)
                              obtain ⟨i2, hi2⟩ : ∃ k, i + 1 = k := ⟨_, rfl⟩
                              have g1 : (i : Int) + 1 = (i2 : Int) := by omega
                              have g2 : (i2 : Int) ≤ 6 := by omega
                              have HI2 := Lib.hid hi2
                              clear hi2
                              go_wp2
                              go_roundw
                              case rel => exact ⟨i2, rfl, by omega, HS.out⟩
                              case measure => have := HI2.out; simp [intOf]; omega
                        · have k1 : ¬ (i : Int) < 6 := by omega
                          have k2 : decide ((i : Int) < 6) = false := decide_eq_false k1
                          have HS0 := Lib.hid hS
                          clear hS hi hlt k0 k6 k1
                          go_wp2
                          clear k2
                          go_loopw [40] (fun iv wr => ∃ i : Nat, iv = .int .i64 (i : Int) ∧ i ≤ 3 ∧ SM w4 L vs us (.slice (some ⟨gl, 0, none⟩) 6 lc) (.slice (some ⟨ga, 0, none⟩) 3 ac) wr 6 0 3 0) (fun iv _ => 3 - (intOf iv).toNat)
                          case atStart => exact ⟨0, rfl, by decide, HS0.out⟩
                          case round =>
                            clear HS0
                            obtain ⟨i, rfl, hi, hS⟩ := hrel
                            have k0 : (0 : Int) ≤ (i : Int) := Int.natCast_nonneg _
                            have k6 : (i : Int) ≤ 3 := by omega
                            by_cases hlt : i < 3
                            · have k1 : (i : Int) < 3 := by omega
                              have k2 : decide ((i : Int) < 3) = true := decide_eq_true k1
                              obtain ⟨⟨pv, n⟩, hp⟩ : ∃ p, us[i]? = some p := ⟨_, List.getElem?_eq_getElem (by rw [HVU.out.2.1]; exact hlt)⟩
                              have hn := HVU.out.2.2.2.2.2 _ (List.mem_of_getElem? hp)
                              obtain ⟨ao, c, hpv, hao⟩ := hS.urow.slice i _ hp
                              simp only at hn hpv hao
                              subst hpv
                              have HS := Lib.hid hS; have HP := Lib.hid (And.intro hp (And.intro hao hn))
                              have hnI : (n : Int) ≤ 1048578 := by omega
                              have hn0 : (0 : Int) ≤ (n : Int) := Int.natCast_nonneg _
                              clear hS hp hao hn
                              go_wp2
                              go_loopw [41] (fun jv wr => ∃ j : Nat, jv = .int .i64 (j : Int) ∧ j ≤ n ∧ SM w4 L vs us (.slice (some ⟨gl, 0, none⟩) 6 lc) (.slice (some ⟨ga, 0, none⟩) 3 ac) wr 6 0 3 0) (fun jv _ => n - (intOf jv).toNat)
                              case atStart => exact ⟨0, rfl, Nat.zero_le _, HS.out⟩
                              case round =>
                                clear HS
                                obtain ⟨j, rfl, hj, hS⟩ := hrel
                                have hlc := hS.acell HVU.out.2.1 i _ HP.out.1
                                simp only at hlc
                                have HS := Lib.hid hS
                                have q0 : (0 : Int) ≤ (j : Int) := Int.natCast_nonneg _
                                have q1 : (j : Int) ≤ (n : Int) := by omega
                                clear hS
                                by_cases hjn : j < n
                                · obtain ⟨g, rfl⟩ := HP.out.2.1 (by omega)
                                  have q2 : (j : Int) < (n : Int) := by omega
                                  have q3 : decide ((j : Int) < (n : Int)) = true := decide_eq_true q2
                                  have q4 : decide (j < n) = true := decide_eq_true hjn
                                  obtain ⟨H, hH⟩ : ∃ H, 100 * i = H := ⟨_, rfl⟩
                                  obtain ⟨M, hM⟩ : ∃ M, H + j = M := ⟨_, rfl⟩
                                  have f1 : (100 : Int) * (i : Int) = (H : Int) := by omega
                                  have f2 : (H : Int) + (j : Int) = (M : Int) := by omega
                                  have f3 : (M : Int) ≤ 1049178 := by omega
                                  have f4 : (0 : Int) ≤ (M : Int) := Int.natCast_nonneg _
                                  have f5 : (H : Int) ≤ 600 := by omega
                                  have f6 : (0 : Int) ≤ (H : Int) := Int.natCast_nonneg _
                                  have hM2 : 100 * i + j = M := by omega
                                  obtain ⟨Dg, hDg⟩ : ∃ D, Lib.decDigits M = D := ⟨_, rfl⟩
                                  obtain ⟨E, hE⟩ : ∃ E, mkB M = E := ⟨_, rfl⟩
                                  have hdg := fun W => rdig_m M W (by omega)
                                  rw [hDg] at hdg
                                  have e1 := mk_cat M Dg E hDg hE
                                  have n1 : ¬ 9223372036854775807 < 4 + Dg.length := by have := dec_len20m M (by omega); rw [hDg] at this; omega
                                  have HDG := Lib.hid hdg
                                  have HM := Lib.hid (And.intro hM2 hE)
                                  have HWH := Lib.hid (And.intro (sm_w64 H (by omega)) (sm_w64 M (by omega)))
                                  clear hdg hDg hE hM hH hM2
                                  go_upto_region 61 with fail
                                  clear hlc
                                  have hat := fun (W : World) (h : SM w4 L vs us (.slice (some ⟨gl, 0, none⟩) 6 lc) (.slice (some ⟨ga, 0, none⟩) 3 ac) W 6 0 3 0) => sm_at h.urow i _ HP.out.1 j hjn hlt (by decide)
                                  simp only [HM.out.1, HM.out.2] at hat
                                  have HAT := Lib.hid (fun (W : World) (h : SM w4 L vs us (.slice (some ⟨gl, 0, none⟩) 6 lc) (.slice (some ⟨ga, 0, none⟩) 3 ac) W 6 0 3 0) => And.intro (show W.cell? ⟨ga, i, none⟩ = some (.slice (some ⟨g, 0, none⟩) n c) from h.acell HVU.out.2.1 i _ HP.out.1) (hat W h))
                                  clear hat
                                  obtain ⟨⟨u1, u2⟩, u3, u4⟩ := HWH.out
                                  refine wp_region_textH (fun W => W.cell? ⟨ga, i, none⟩ = some (.slice (some ⟨g, 0, none⟩) n c) ∧ W.cell? ⟨g, j * 5, none⟩ = some (.string ⟨E.toArray⟩)) [(0, true), (1, true), (2, true), (3, true), (4, true), (5, true), (6, true), (7, true), (8, true), (9, true), (10, true), (11, true), (12, false), (13, true), (14, true)] (by kernel_rfl) (by kernel_rfl) (by kernel_rfl) (by kernel_rfl) (HAT.out wr HS.out) ?_
                                  iterate 12 (refine wpTxH_take rfl (by kernel_rfl) (v := ?_) ?_ ?_; rotate_left; · (intro W hS; obtain ⟨t0, t1⟩ := hS; go_simp; with_reducible rfl))
                                  refine wpTxH_step rfl (fun K hK => ?_)
                                  go_simp
                                  clear u1 u2 u3 u4
                                  refine (HDG.out _).mono ?_
                                  rintro e wz ⟨rfl, hbz⟩
                                  have hdr : Below wr.heap.size wr wr.drew := (Below.refl _ wr).drew
                                  have hSz := (HS.out.later hdr).later hbz
                                  clear hdr
                                  have HSZ := Lib.hid hSz
                                  refine hK _ _ (HAT.out wz HSZ.out) ?_
                                  clear hK K hbz hSz HS
                                  iterate 2 (refine wpTxH_take rfl (by kernel_rfl) (v := ?_) ?_ ?_; rotate_left; · (intro W hS; clear hS; go_simp; with_reducible rfl))
                                  refine wpTxH_nil ?_
                                  go_simp
                                  obtain ⟨j2, hj2⟩ : ∃ k, j + 1 = k := ⟨_, rfl⟩
                                  have g1 : (j : Int) + 1 = (j2 : Int) := by omega
                                  have g2 : (j2 : Int) ≤ (n : Int) := by omega
                                  have HJ2 := Lib.hid hj2
                                  clear hj2
                                  go_wp2
                                  go_roundw
                                  case rel => exact ⟨j2, rfl, by omega, HSZ.out⟩
                                  case measure => have := HJ2.out; simp [intOf]; omega
                                · have hj0 : n ≤ j := by omega
                                  obtain rfl : j = n := by omega
                                  have q3 : decide ((j : Int) < (j : Int)) = false := decide_eq_false (by omega)
                                  have q4 : decide (j < j) = false := decide_eq_false (Nat.lt_irrefl _)
                                  obtain ⟨i2, hi2⟩ : ∃ k, i + 1 = k := ⟨_, rfl⟩
                                  have g1 : (i : Int) + 1 = (i2 : Int) := by omega
                                  have g2 : (i2 : Int) ≤ 3 := by omega
                                  have HI2 := Lib.hid hi2
                                  clear hi2
                                  go_wp2
                                  go_roundw
                                  case rel => exact ⟨i2, rfl, by omega, HS.out⟩
                                  case measure => have := HI2.out; simp [intOf]; omega
                            · have k1 : ¬ (i : Int) < 3 := by omega
                              have k2 : decide ((i : Int) < 3) = false := decide_eq_false k1
                              have HS0 := Lib.hid hS
                              clear hS hi hlt k0 k6 k1
                              have HB0 := Lib.hid HS0.out.below
                              have hL0 := HS0.out.base
                              clear HS0 HVU
                              go_wp2_with fail
                              refine (HPA.out _ (HBW.out _ HB0.out)).mono ?_
                              rintro e wa ⟨va, rfl, ha, hba⟩
                              have HA := Lib.hid ha
                              obtain ⟨aoa, caa, rfl⟩ := own_shape ha
                              have HBa := Lib.hid (HB0.out.trans (hba.mono hL0))
                              have hLa : L ≤ wa.heap.size := Nat.le_trans hL0 hba.size
                              clear ha hba
                              go_wp2_with fail
                              refine (HPD.out _ (HBW.out _ HBa.out)).mono ?_
                              rintro e wb ⟨vb, rfl, hb, hbb⟩
                              have HBD := Lib.hid (And.intro hb (own_later HA.out hbb))
                              obtain ⟨aob, cab, rfl⟩ := own_shape hb
                              have HBb := Lib.hid (HBa.out.trans (hbb.mono hLa))
                              have hLb : L ≤ wb.heap.size := Nat.le_trans hLa hbb.size
                              clear hb hbb
                              go_wp2_with fail
                              refine (HPY.out _ (HBW.out _ HBb.out)).mono ?_
                              rintro e wc ⟨vc, rfl, hc, hbc⟩
                              have HCC := Lib.hid (And.intro hc (And.intro (own_later HBD.out.1 hbc) (own_later HBD.out.2 hbc)))
                              obtain ⟨aoc, cac, rfl⟩ := own_shape hc
                              have HBc := Lib.hid (HBb.out.trans (hbc.mono hLb))
                              have hLc : L ≤ wc.heap.size := Nat.le_trans hLb hbc.size
                              clear hc hbc
                              go_wp2_with fail
                              refine (HAW.out _ (HBW.out _ HBc.out)).mono ?_
                              rintro e wd ⟨rfl, hbd⟩
                              have HCD1 := Lib.hid (And.intro (own_later HCC.out.1 hbd) (And.intro (own_later HCC.out.2.1 hbd) (own_later HCC.out.2.2 hbd)))
                              have HBd := Lib.hid (HBc.out.trans (hbd.mono hLc))
                              have hLd : L ≤ wd.heap.size := Nat.le_trans hLc hbd.size
                              clear hbd
                              go_wp2_with fail
                              refine (HCA.out _ _ _ (parsIn_own HCD1.out.2.2) (HREF.out _ HBd.out).1).mono ?_
                              rintro e we ⟨rfl, hbe⟩
                              have HBe := Lib.hid (HBd.out.trans (hbe.mono hLd))
                              have hLe : L ≤ we.heap.size := Nat.le_trans hLd hbe.size
                              have HE1 := Lib.hid hbe
                              clear hbe
                              go_wp2_with fail
                              refine (HCD.out _ _ _ (parsIn_own (own_later HCD1.out.2.1 HE1.out)) (HREF.out _ HBe.out).2.1).mono ?_
                              rintro e wf ⟨rfl, hbf⟩
                              have HBf := Lib.hid (HBe.out.trans (hbf.mono hLe))
                              have hLf : L ≤ wf.heap.size := Nat.le_trans hLe hbf.size
                              have HF1 := Lib.hid (HE1.out.trans (hbf.mono HE1.out.size))
                              clear hbf
                              go_wp2_with fail
                              refine (HCY.out _ _ _ (prtsIn_own (own_later HCD1.out.1 HF1.out)) (HREF.out _ HBf.out).2.2).mono ?_
                              rintro e wg ⟨rfl, hbg⟩
                              have HBg := Lib.hid (HBf.out.trans (hbg.mono hLf))
                              clear hbg
                              go_wp2
                              go_ret
                              exact ⟨rfl, HBW.out _ HBg.out⟩
end Go.Proofs.YtlfdeenekjklgaaGreatDoor
