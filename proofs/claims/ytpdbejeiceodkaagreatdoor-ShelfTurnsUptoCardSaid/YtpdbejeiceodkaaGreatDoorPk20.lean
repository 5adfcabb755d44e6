/- ShM, ShNL, Sam: texts of the seat, one behind the other (a claim holds at most sixty). Conditions: each theorem names its own. -/
import Derived.Test.YtpdbejeiceodkaaGreatDoorPk14
import Derived.Test.YtpdbejeiceodkaaGreatDoorPa19
import Derived.Maps.OwnRows
import Derived.Test.YtpdbejeiceodkaaGreatDoorPk18
import Derived.Test.YtpdbejeiceodkaaGreatDoorPk04
import Derived.Test.YtpdbejeiceodkaaGreatDoorPk10
namespace Go.Proofs.YtpdbejeiceodkaaGreatDoor
open Go.ChangeMaps Go.MapKept Go.ChangeShapes Go.RowKit Go.WideMaps Go.Maps
open Go.WideElems (Fit rd rg pl rd_val elemAt)
set_option linter.unusedSimpArgs false
set_option linter.unusedVariables false
set_option maxRecDepth 1000000
/-! Rows of files. -/
def filsC (l : List Fil) : List Value := l.flatMap fun f => (filC f).toList
theorem filsC_snoc (l : List Fil) (f : Fil) : filsC (l ++ [f]) = filsC l ++ (filC f).toList := by simp [filsC]
theorem filC_len (f : Fil) : (filC f).toList.length = 6 := rfl
theorem filsC_get (l : List Fil) (i : Nat) (f : Fil) (h : l[i]? = some f) : ∀ j, j < 6 → (filsC l)[i * 6 + j]? = (filC f).toList[j]? := by
  induction l generalizing i with
  | nil => simp at h
  | cons q r ih =>
    intro j hj
    have e : filsC (q :: r) = (filC q).toList ++ filsC r := rfl
    rw [e]
    cases i with
    | zero =>
      obtain rfl : q = f := by simpa using h
      rw [List.getElem?_append_left (by rw [filC_len]; omega), Nat.zero_mul, Nat.zero_add]
    | succ i =>
      rw [List.getElem?_append_right (by rw [filC_len]; omega), filC_len, show (i + 1) * 6 + j - 6 = i * 6 + j by omega]
      exact ih i (by simpa using h) j hj
/-- The cells of one file, from a place on. -/
def Cells6 (g a : Nat) (p : Fil) (w : World) : Prop := w.cell? ⟨g, a, none⟩ = some (.string ⟨p.p.toArray⟩) ∧ w.cell? ⟨g, a + 1, none⟩ = some (.string ⟨p.m.toArray⟩) ∧ w.cell? ⟨g, a + 2, none⟩ = some (.string ⟨p.c.toArray⟩) ∧ w.cell? ⟨g, a + 3, none⟩ = some (.string ⟨p.l.toArray⟩) ∧ w.cell? ⟨g, a + 4, none⟩ = some (.string ⟨p.b.toArray⟩) ∧ w.cell? ⟨g, a + 5, none⟩ = some (.int .i64 p.t) ∧ g < w.heap.size
theorem Cells6.below {g a : Nat} {p : Fil} {w w' : World} (h : Cells6 g a p w) (hb : Below w.heap.size w w') : Cells6 g a p w' :=
  have lt := h.2.2.2.2.2.2
  ⟨by rw [hb.cell (p := ⟨g, a, none⟩) lt]; exact h.1, by rw [hb.cell (p := ⟨g, a + 1, none⟩) lt]; exact h.2.1, by rw [hb.cell (p := ⟨g, a + 2, none⟩) lt]; exact h.2.2.1, by rw [hb.cell (p := ⟨g, a + 3, none⟩) lt]; exact h.2.2.2.1, by rw [hb.cell (p := ⟨g, a + 4, none⟩) lt]; exact h.2.2.2.2.1, by rw [hb.cell (p := ⟨g, a + 5, none⟩) lt]; exact h.2.2.2.2.2.1, Nat.lt_of_lt_of_le lt hb.size⟩
theorem Cells6.grown {g a : Nat} {p : Fil} {w w' : World} {row : Option Nat} (h : Cells6 g a p w) (hg : w.grownBy w' row) (hne : some g ≠ row) : Cells6 g a p w' :=
  ⟨hg.cell h.1 hne, hg.cell h.2.1 hne, hg.cell h.2.2.1 hne, hg.cell h.2.2.2.1 hne, hg.cell h.2.2.2.2.1 hne, hg.cell h.2.2.2.2.2.1 hne, Nat.lt_of_lt_of_le h.2.2.2.2.2.2 hg.size⟩
theorem keep6 {w : World} {g a : Nat} {p : Fil} (h : Cells6 g a p w.drew) (o : Obj) : Cells6 g a p ((w.alloc o).drew) :=
  have lt : g < w.heap.size := h.2.2.2.2.2.2
  ⟨cell_keep (w := w) h.1 lt o, cell_keep (w := w) h.2.1 lt o, cell_keep (w := w) h.2.2.1 lt o, cell_keep (w := w) h.2.2.2.1 lt o, cell_keep (w := w) h.2.2.2.2.1 lt o, cell_keep (w := w) h.2.2.2.2.2.1 lt o, by show g < (w.alloc o).heap.size; simp; omega⟩
def FilAt (w : World) (ao : Option Addr) (l : List Fil) : Prop := ∀ i p, l[i]? = some p → ∃ b o, ao = some ⟨b, o, none⟩ ∧ Cells6 b (o + i * 6) p w
def FilsIn (w : World) (v : Value) (l : List Fil) : Prop := ∃ ao cap, v = .slice ao l.length cap ∧ FilAt w ao l
theorem FilAt.below {w w' : World} {ao : Option Addr} {l : List Fil} (h : FilAt w ao l) (hb : Below w.heap.size w w') : FilAt w' ao l := fun i p hp => by
  obtain ⟨b, o, e, hc⟩ := h i p hp
  exact ⟨b, o, e, hc.below hb⟩
theorem FilsIn.below {w w' : World} {v : Value} {l : List Fil} (h : FilsIn w v l) (hb : Below w.heap.size w w') : FilsIn w' v l := by
  obtain ⟨ao, cap, rfl, h⟩ := h
  exact ⟨ao, cap, rfl, h.below hb⟩
theorem filAt_drew {w : World} {ao : Option Addr} {l : List Fil} (h : FilAt w ao l) (n : Nat) : FilAt (w.drewN n) ao l := h.below (below_drewN (Below.refl _ w) n)
theorem addj (g a j : Nat) : (⟨g, a, none⟩ : Addr).add j = ⟨g, a + j, none⟩ := by unfold Addr.add; split <;> simp_all
theorem filAt_own {w : World} {base : Nat} {T : TypeId} {l : List Fil} {g cap n : Nat} (h : w.ownsRow base T 6 (.slice (some ⟨g, 0, none⟩) n cap) n (filsC l)) : FilAt w (some ⟨g, 0, none⟩) l := by
  rcases h.2 with ⟨h0, _⟩ | ⟨g2, cap2, cur, he, hb, hg, _⟩
  · injection h0 with h0; cases h0
  · injection he with e1 e2 e3
    injection e1 with e1
    injection e1 with e1
    subst e1
    have hlt : g < w.heap.size := (Array.getElem?_eq_some_iff.1 hg).1
    have hc := h.cells (g := g) rfl
    have at_ : ∀ i p, l[i]? = some p → ∀ k u, k < 6 → (filC p).toList[k]? = some u → w.cell? ⟨g, i * 6 + k, none⟩ = some u := fun i p hp k u hk hu => by
      have := hc (i * 6 + k) u (by rw [filsC_get l i p hp k hk]; exact hu)
      rwa [addj, Nat.zero_add] at this
    refine fun i p hp => ⟨g, 0, rfl, ?_⟩
    rw [Nat.zero_add]
    exact ⟨at_ i p hp 0 _ (by omega) rfl, at_ i p hp 1 _ (by omega) rfl, at_ i p hp 2 _ (by omega) rfl, at_ i p hp 3 _ (by omega) rfl, at_ i p hp 4 _ (by omega) rfl, at_ i p hp 5 _ (by omega) rfl, hlt⟩
theorem filsIn_own {w : World} {base : Nat} {T : TypeId} {v : Value} {l : List Fil} (h : w.ownsRow base T 6 v l.length (filsC l)) : FilsIn w v l := by
  rcases h.2 with ⟨rfl, h0⟩ | ⟨g, cap, cur, rfl, _⟩
  · obtain rfl := List.eq_nil_of_length_eq_zero h0
    exact ⟨none, 0, rfl, fun i p hp => by simp at hp⟩
  · exact ⟨_, cap, rfl, filAt_own h⟩
theorem filsC_take (l : List Fil) (i : Nat) (p : Fil) (h : l[i]? = some p) : filsC (l.take (i + 1)) = filsC (l.take i) ++ [.string ⟨p.p.toArray⟩, .string ⟨p.m.toArray⟩, .string ⟨p.c.toArray⟩, .string ⟨p.l.toArray⟩, .string ⟨p.b.toArray⟩, .int .i64 p.t] := by
  rw [List.take_add_one, h, Option.toList_some, filsC_snoc]; rfl
def totG : List Fil → Nat
  | [] => 0
  | p :: r => filLen p + totG r
theorem totG_append (a b : List Fil) : totG (a ++ b) = totG a + totG b := by
  induction a with
  | nil => simp [totG]
  | cons p r ih => simp only [List.cons_append, totG, ih]; omega
theorem totG_get (l : List Fil) (i : Nat) (p : Fil) (h : l[i]? = some p) : filLen p ≤ totG l := by
  induction l generalizing i with
  | nil => simp at h
  | cons q r ih =>
    cases i with
    | zero => obtain rfl : q = p := (by simpa using h); simp only [totG]; omega
    | succ i => have := ih i (by simpa using h); simp only [totG]; omega
/-! The places. -/
def vrtI (l : List Fil) (p : List UInt8) : List Int := (vrt l p).map Int.ofNat
theorem vrtI_snoc (l : List Fil) (f : Fil) : vrtI (l ++ [f]) f.p = vrtI l f.p ++ [(l.length : Int)] := by unfold vrtI; rw [vrt_snoc, if_pos rfl]; simp
theorem vrtI_other (l : List Fil) (f : Fil) (p : List UInt8) (h : f.p ≠ p) : vrtI (l ++ [f]) p = vrtI l p := by unfold vrtI; rw [vrt_snoc, if_neg h]
theorem vrtI_len (l : List Fil) (p : List UInt8) : (vrtI l p).length ≤ l.length := by unfold vrtI; rw [List.length_map]; exact vrt_len l p
def plcD (l : List Fil) : Nat → DataW Unit
  | 0 => .map []
  | k + 1 => match l[k]? with
    | some f => (plcD l k).put (.string f.p) (.slice (lits .i64 (vrtI (l.take (k + 1)) f.p)) [])
    | none => plcD l k
theorem plcD_map (l : List Fil) : ∀ k, IsMap (plcD l k)
  | 0 => ⟨[], rfl⟩
  | k + 1 => by
    rw [plcD]
    split
    · exact IsMap.put (plcD_map l k) _ _
    · exact plcD_map l k
theorem lits_nil_iff (zs : List Int) : (lits (H := Unit) .i64 zs = []) ↔ zs = [] := by unfold lits; simp
theorem plcD_at (l : List Fil) (p : List UInt8) : ∀ k, k ≤ l.length → (plcD l k).atKey (.string p) .nil = if vrtI (l.take k) p = [] then .nil else .slice (lits .i64 (vrtI (l.take k) p)) []
  | 0, _ => rfl
  | k + 1, h => by
    have hk : k < l.length := by omega
    have hf : l[k]? = some l[k] := List.getElem?_eq_getElem hk
    have ih := plcD_at l p k (by omega)
    have ht : l.take (k + 1) = l.take k ++ [l[k]] := by rw [List.take_add_one, hf]; rfl
    rw [plcD, hf]
    show (DataW.put (plcD l k) (.string l[k].p) (.slice (lits .i64 (vrtI (l.take (k + 1)) l[k].p)) [])).atKey (.string p) .nil = _
    by_cases hp : l[k].p = p
    · rw [← hp, Maps.atKey_put_same (plcD_map l k) (by trivial), ht, vrtI_snoc]
      rw [if_neg (by simp)]
    · rw [Maps.atKey_put_other (by intro e; injection e with e; exact hp e.symm), ih, ht, vrtI_other _ _ _ hp]
theorem groups_kept {H : Type} {w w' : World} {P : Program} {k : TypeId} {base : Nat} {e : TypeId} {q : IntKind} {b n : Nat} {D : DataW H} {row : Option Nat} (h : w.ownsGroups P k base e q b n D) (hg : w.grownBy w' row) (hb : row ≠ some b)
    (hr : ∀ v zs, w.ownsInts base e q v zs → v.ownBlock = none ∨ v.ownBlock ≠ row) : w'.ownsGroups P k base e q b n D := by
  obtain ⟨es, clock, h0, F, hs, rfl, hbb, hlen, hap⟩ := h
  have hblt := (Array.getElem?_eq_some_iff.1 h0).1
  have hs2 : ∀ x ∈ es.toList, ∀ z, rowElem (H := H) w base e q x.val = some z → rowElem w' base e q x.val = some z := by
    intro x _ z hz
    obtain ⟨ys, ho, rfl⟩ := rowElem_inv hz
    exact rowElem_mk (ho.kept hg (hr _ _ ho))
  obtain ⟨F2, hmap2, _⟩ := F.stay hs2
  refine ⟨es, clock, (hg.block b hblt (fun e1 => hb e1.symm)).trans h0, F2, hs, by rw [hmap2], hbb, ?_, hap⟩
  intro x hx ys ho
  obtain ⟨y, hy⟩ := F.reads x hx
  obtain ⟨z, hz, _⟩ := rd_val hy
  obtain ⟨ys', ho', _⟩ := rowElem_inv hz
  rw [ho.unique (ho'.kept hg (hr _ _ ho'))]
  exact hlen x hx ys' ho'
theorem groups_later {H : Type} {w w' : World} {P : Program} {k : TypeId} {base : Nat} {e : TypeId} {q : IntKind} {b n : Nat} {D : DataW H} (h : w.ownsGroups P k base e q b n D) (hb : Below w.heap.size w w') : w'.ownsGroups P k base e q b n D :=
  groups_kept h (grown_of_below hb) (by simp) (fun v _ _ => by cases v.ownBlock <;> simp)
/-- .. a block of another kind turns. -/
theorem groups_set {H : Type} {w : World} {base : Nat} {b n s : Nat} {D : DataW H} {c : Array Value} {T : TypeId} (h : w.ownsGroups Tryz.prog 9 base 3 .i64 b n D) (hs : BlkIs w s c T) (hT : T ≠ 3) (j : Nat) (u : Value) : (w.setCell ⟨s, j, none⟩ u).ownsGroups Tryz.prog 9 base 3 .i64 b n D := by
  obtain ⟨es, clock, h0, _⟩ := id h
  refine groups_kept (row := some s) h ⟨rfl, rfl, rfl, by simp, fun k hk hkb => Below.heap_setCell w ⟨s, j, none⟩ u k (fun e => hkb (by rw [e]))⟩ ?_ (fun v zs ho => .inr (own_blk ho.1 hs hT.symm))
  intro e
  injection e with e
  subst e
  unfold BlkIs at hs
  rw [h0] at hs
  cases hs
theorem strK : Keyed Tryz.prog 9 := string_keyed Tryz.underlying9
theorem key_okH (p : List UInt8) (hp : p.length ≤ maxLen) : keyOf Tryz.prog 9 (.string ⟨p.toArray⟩) = some (.string p) := by
  have := keyOf_string_mk (P := Tryz.prog) (s := ⟨p.toArray⟩) Tryz.underlying9 (by rw [← size_list]; simpa using hp)
  simpa using this
/-- What the look-up says. -/
theorem places_look {w : World} {m n k : Nat} {l : List Fil} (h : w.ownsGroups Tryz.prog 9 (m + 1) 3 .i64 m n (plcD l k)) (hk : k ≤ l.length) (hn : n < maxLen) (p : List UInt8) (hp : p.length ≤ maxLen) :
    ∃ v, (Instr.lookup 83 (.map (some m)) (.string ⟨p.toArray⟩) false).run Tryz.prog w = .ok v w ∧ w.ownsInts (m + 1) 3 .i64 v (vrtI (l.take k) p) ∧ w.groupBack Tryz.prog 83 9 (m + 1) 3 .i64 m n (plcD l k) (.string ⟨p.toArray⟩) (.string p) v := by
  obtain ⟨v, zs, h1, h2, h3, h4, h5⟩ := h.at strK Tryz.underlying83 (zeroInts w) hn (key_okH p hp)
  refine ⟨v, h1, ?_, h5⟩
  rw [plcD_at l p k hk] at h2
  have hz : zs = vrtI (l.take k) p := by
    rcases h3.datum (H := Unit) with ⟨e1, e2⟩ | e1
    · rw [e1] at h2
      split at h2
      · rename_i h0; rw [e2, h0]
      · cases h2
    · rw [e1] at h2
      split at h2
      · cases h2
      · injection h2 with h2
        unfold lits at h2
        exact ((List.map_inj_right (fun a b hab => by injection hab with hab; injection hab)).1 h2).symm
  rw [← hz]
  exact h3
end Go.Proofs.YtpdbejeiceodkaaGreatDoor
namespace Go.Proofs.YtpdbejeiceodkaaGreatDoor
open Go.ChangeMaps Go.MapKept Go.ChangeShapes Go.RowKit Go.WideMaps Go.Maps
set_option linter.unusedSimpArgs false
set_option linter.unusedVariables false
set_option maxRecDepth 1000000
theorem own_own {w : World} {L L2 n n2 s s2 : Nat} {e e2 : TypeId} {u v : Value} {xs ys : List Value} (h : w.ownsRow L e s v n xs) (h2 : w.ownsRow L2 e2 s2 u n2 ys) (hne : e ≠ e2) : u.ownBlock = none ∨ u.ownBlock ≠ v.ownBlock := by
  rcases h2.2 with ⟨rfl, _⟩ | ⟨g, c, cur, rfl, _, hg, _⟩
  · exact .inl rfl
  · refine .inr (fun e1 => ?_)
    rcases h.2 with ⟨rfl, _⟩ | ⟨g', c', cur', rfl, _, hg', _⟩
    · cases e1
    · simp [Value.ownBlock] at e1
      subst e1
      rw [hg] at hg'
      injection hg' with hg'
      injection hg' with _ hg'
      exact hne hg'.symm
/-- A shelf of the first i files. -/
def ShSt (w : World) (m s : Nat) (l : List Fil) (i : Nat) (v : Value) (W : World) : Prop :=
  Below w.heap.size w W ∧ BlkIs W s #[v, .map (some m)] 85 ∧ W.ownsRow (m + 1) 46 6 v i (filsC (l.take i)) ∧ W.ownsGroups Tryz.prog 9 (m + 1) 3 .i64 m i (plcD l i)
/-- .. the file is kept, its place is not. -/
def ShMid (w : World) (m s : Nat) (l : List Fil) (i : Nat) (v : Value) (W : World) : Prop :=
  Below w.heap.size w W ∧ BlkIs W s #[v, .map (some m)] 85 ∧ W.ownsRow (m + 1) 46 6 v (i + 1) (filsC (l.take (i + 1))) ∧ W.ownsGroups Tryz.prog 9 (m + 1) 3 .i64 m i (plcD l i)
theorem ShSt.later {w : World} {m s i : Nat} {l : List Fil} {v : Value} {W W' : World} (h : ShSt w m s l i v W) (hb : Below W.heap.size W W') : ShSt w m s l i v W' :=
  ⟨h.1.trans (hb.mono h.1.size), h.2.1.later hb, own_later h.2.2.1 hb, groups_later h.2.2.2 hb⟩
theorem ShMid.later {w : World} {m s i : Nat} {l : List Fil} {v : Value} {W W' : World} (h : ShMid w m s l i v W) (hb : Below W.heap.size W W') : ShMid w m s l i v W' :=
  ⟨h.1.trans (hb.mono h.1.size), h.2.1.later hb, own_later h.2.2.1 hb, groups_later h.2.2.2 hb⟩
theorem sh_mid {w : World} {m s i : Nat} {l : List Fil} {v v' : Value} {W W9 : World} {f : Fil} (h : ShSt w m s l i v W) (hf : l[i]? = some f) (hm : w.heap.size ≤ m) (hs : w.heap.size ≤ s) (hown : W9.ownsRow (m + 1) 46 6 v' (i + 1) (filsC (l.take i) ++ (filC f).toList)) (hg : W.grownBy W9 v.ownBlock) :
    ShMid w m s l i v' (W9.setCell ⟨s, 0, none⟩ v') := by
  obtain ⟨hb, hS, hO, hG⟩ := h
  have hmW : m < W.heap.size := by obtain ⟨es, clock, h0, _⟩ := hG; exact (Array.getElem?_eq_some_iff.1 h0).1
  have hS9 : BlkIs W9 s #[v, .map (some m)] 85 := hS.grown hg (fun e => own_blk hO hS (by decide) e)
  have hG9 : W9.ownsGroups Tryz.prog 9 (m + 1) 3 .i64 m i (plcD l i) := groups_kept hG hg (fun e => by have := (hO.lt m e).1; omega) (fun u zs ho => own_own hO ho.1 (by decide))
  refine ⟨(hb.grown hg hb.size (fun k hk => by have := (hO.lt k hk).1; omega)).setCell (p := ⟨s, 0, none⟩) hs _, hS9.set 0 v', ?_, groups_set hG9 hS9 (by decide) 0 v'⟩
  have e : filsC (l.take (i + 1)) = filsC (l.take i) ++ (filC f).toList := by rw [List.take_add_one, hf, Option.toList_some, filsC_snoc]
  rw [e]
  exact own_setOther hown (own_blk hown hS9 (by decide))
/-- The look-up ahead of the place's store, and the store. -/
theorem sh_look {w : World} {m s i : Nat} {l : List Fil} {v : Value} {W : World} {f : Fil} (h : ShMid w m s l i v W) (hf : l[i]? = some f) (hi : i ≤ 4096) (hp : f.p.length ≤ maxLen) (hm : w.heap.size ≤ m) :
    ∃ v0, (Instr.lookup 83 (.map (some m)) (.string ⟨f.p.toArray⟩) false).run Tryz.prog W = .ok v0 W ∧ W.ownsRow (m + 1) 3 1 v0 (vrtI (l.take i) f.p).length ((vrtI (l.take i) f.p).map (Value.int .i64)) ∧
      ∀ (W9 : World) (g cap : Nat), W9.ownsRow (m + 1) 3 1 (.slice (some ⟨g, 0, none⟩) ((vrtI (l.take i) f.p).length + 1) cap) ((vrtI (l.take i) f.p).length + 1) ((vrtI (l.take i) f.p).map (Value.int .i64) ++ [.int .i64 i]) → W.grownBy W9 v0.ownBlock → (v0.ownBlock = some g ∨ W.heap.size ≤ g) →
        ∃ w2, (Instr.mapUpdate 83 (.map (some m)) (.string ⟨f.p.toArray⟩) (.slice (some ⟨g, 0, none⟩) ((vrtI (l.take i) f.p).length + 1) cap)).run Tryz.prog W9 = .ok () w2 ∧ ShSt w m s l (i + 1) v w2 ∧ W9.grownBy w2 (some m) := by
  obtain ⟨hb, hS, hO, hG⟩ := h
  have hlt : i < l.length := (List.getElem?_eq_some_iff.1 hf).1
  obtain ⟨v0, h1, h2, h3⟩ := places_look hG (by omega) (by unfold maxLen; omega) f.p hp
  refine ⟨v0, h1, h2.1, fun W9 g cap hown hg hloc => ?_⟩
  have hoi9 : W9.ownsInts (m + 1) 3 .i64 (.slice (some ⟨g, 0, none⟩) ((vrtI (l.take i) f.p).length + 1) cap) (vrtI (l.take i) f.p ++ [(i : Int)]) := h2.appended hown (WalkArith.wf_i64 (by omega))
  have hlen := vrtI_len (l.take i) f.p
  rw [List.length_take] at hlen
  obtain ⟨w2, r1, r2, r3⟩ := h3 W9 _ _ hg hoi9 (by simp; omega) (hloc.imp (fun e => by rw [e]; rfl) (fun e => ⟨g, rfl, e⟩))
  have hS9 : BlkIs W9 s #[v, .map (some m)] 85 := hS.grown hg (fun e => own_blk h2.1 hS (by decide) e)
  have hO9 := hO.kept hg (own_own h2.1 hO (by decide))
  have hm9 : ∃ es clock, W9.heap[m]? = some (.map es clock) := by
    obtain ⟨es, clock, h0, _⟩ := hG
    exact ⟨es, clock, (hg.block m (Array.getElem?_eq_some_iff.1 h0).1 (fun e => by have := (h2.1.lt m e.symm).1; omega)).trans h0⟩
  obtain ⟨es, clock, hm9⟩ := hm9
  have hb9 : Below w.heap.size w W9 := hb.grown hg hb.size (fun k hk => by have := (h2.1.lt k hk).1; omega)
  refine ⟨w2, r1, ⟨hb9.grown r3 hb9.size (fun k hk => by injection hk with hk; omega), hS9.grown r3 (fun e => blk_nm hm9 hS9 e), hO9.kept r3 (.inr (own_nm hm9 hO9)), ?_⟩, r3⟩
  have e1 : vrtI (l.take (i + 1)) f.p = vrtI (l.take i) f.p ++ [(i : Int)] := by
    rw [List.take_add_one, hf, Option.toList_some, vrtI_snoc, List.length_take, Nat.min_eq_left (Nat.le_of_lt hlt)]
  have e2 : plcD l (i + 1) = (plcD l i).put (.string f.p) (rowDatum .i64 (.slice (some ⟨g, 0, none⟩) ((vrtI (l.take i) f.p).length + 1) cap) (vrtI (l.take i) f.p ++ [(i : Int)])) := by
    rw [plcD, hf]
    show (plcD l i).put (.string f.p) (.slice (lits .i64 (vrtI (l.take (i + 1)) f.p)) []) = _
    rw [e1]
    rfl
  rw [e2]
  exact r2
/-- What the first look-up says, and the files at its places. -/
theorem sh_places {w : World} {m s i : Nat} {l : List Fil} {v : Value} {W : World} (h : ShSt w m s l i v W) (hi : i ≤ 4096) (hl : i ≤ l.length) (p : List UInt8) (hp : p.length ≤ maxLen) :
    ∃ v0, (Instr.lookup 83 (.map (some m)) (.string ⟨p.toArray⟩) false).run Tryz.prog W = .ok v0 W ∧ W.ownsRow (m + 1) 3 1 v0 (vrtI (l.take i) p).length ((vrtI (l.take i) p).map (Value.int .i64)) := by
  obtain ⟨v0, h1, h2, h3⟩ := places_look h.2.2.2 hl (by unfold maxLen; omega) p hp
  exact ⟨v0, h1, h2.1⟩
theorem wp_lookup_run {P : Program} {w : World} {o : Oper} {a : Act} {K : Act → World → Prop} {Q : Exit → Act → World → Prop} (m x : Operand) (t : TypeId) (ho : o.op = Op.lookup t m x false) (mv kv v : Value) (hm : a.eval m = mv) (hx : a.eval x = kv)
    (hr : (Instr.lookup t mv kv false).run P w = .ok v w) (h : K (a.put o.dst v) w) : o.wp P a w K Q := by
  unfold Oper.wp
  simp [execOp, ho, hm, hx, hr, Result.andThen]
  exact h
theorem wp_mapUpdate_run {P : Program} {w w2 : World} {o : Oper} {a : Act} {K : Act → World → Prop} {Q : Exit → Act → World → Prop} (m x y : Operand) (t : TypeId) (ho : o.op = Op.mapUpdate t m x y) (mv kv v : Value) (hm : a.eval m = mv) (hx : a.eval x = kv) (hy : a.eval y = v)
    (hr : (Instr.mapUpdate t mv kv v).run P w = .ok () w2) (h : K (a.put o.dst undef) w2) : o.wp P a w K Q := by
  unfold Oper.wp
  simp [execOp, ho, hm, hx, hy, hr, Result.andThen]
  exact h
theorem step_lookup_run {P : Program} {ops : Array Oper} {w : World} {o : Oper} {a : Act} {K : Act → World → Prop} {Q : Exit → Act → World → Prop} {E : Prop} (hgd : o.guard = none) (m x : Operand) (t : TypeId) (ho : o.op = Op.lookup t m x false) (mv kv v : Value) (hm : a.eval m = mv) (hx : a.eval x = kv)
    (hr : (Instr.lookup t mv kv false).run P w = .ok v w) (h : K (a.put o.dst v) w) : if Region.wanted o (yielded ops a.tmps) = true then Oper.wp P o a w K Q else E := by
  have hw : Region.wanted o (yielded ops a.tmps) = true := by simp [Region.wanted, hgd]
  rw [if_pos hw]
  exact wp_lookup_run m x t ho mv kv v hm hx hr h
theorem step_mapUpdate_run {P : Program} {ops : Array Oper} {w w2 : World} {o : Oper} {a : Act} {K : Act → World → Prop} {Q : Exit → Act → World → Prop} {E : Prop} (hgd : o.guard = none) (m x y : Operand) (t : TypeId) (ho : o.op = Op.mapUpdate t m x y) (mv kv v : Value) (hm : a.eval m = mv) (hx : a.eval x = kv) (hy : a.eval y = v)
    (hr : (Instr.mapUpdate t mv kv v).run P w = .ok () w2) (h : K (a.put o.dst undef) w2) : if Region.wanted o (yielded ops a.tmps) = true then Oper.wp P o a w K Q else E := by
  have hw : Region.wanted o (yielded ops a.tmps) = true := by simp [Region.wanted, hgd]
  rw [if_pos hw]
  exact wp_mapUpdate_run m x y t ho mv kv v hm hx hy hr h
/-- append onto a row of the call's own, as one step, with where the new row lies. -/
theorem step_append_lies {P : Program} {ops : Array Oper} {o : Oper} {a : Act} {w : World} {K : Act → World → Prop} {Q : Exit → Act → World → Prop} {E : Prop} (hgd : o.guard = none) (h : Oper.wp P o a w K Q) : if Region.wanted o (yielded ops a.tmps) = true then Oper.wp P o a w K Q else E := by
  have hw : Region.wanted o (yielded ops a.tmps) = true := by simp [Region.wanted, hgd]
  rw [if_pos hw]
  exact h
end Go.Proofs.YtpdbejeiceodkaaGreatDoor
namespace Go.Proofs.YtpdbejeiceodkaaGreatDoor
open Go.RowKit
set_option linter.unusedSimpArgs false
set_option linter.unusedVariables false
set_option maxRecDepth 1000000
set_option maxHeartbeats 2000000 in
theorem osame_any (a b : List UInt8) (w : World) (ha : a.length ≤ 1099511627776) (hb : b.length ≤ 1099511627776) :
    Calls Tryz.prog 116 #[.string ⟨a.toArray⟩, .string ⟨b.toArray⟩] w fun e w' => e = .returned (.bool (sameL a b)) ∧ Below w.heap.size w w' := by
  have h1 := fun w => olower_any ⟨a.toArray⟩ w (by rw [size_mk]; exact ha)
  have h2 := fun w => olower_any ⟨b.toArray⟩ w (by rw [size_mk]; exact hb)
  rw [show (⟨a.toArray⟩ : ByteArray).data.toList = a from rfl] at h1
  rw [show (⟨b.toArray⟩ : ByteArray).data.toList = b from rfl] at h2
  obtain ⟨x, hx⟩ : ∃ x, lowL a = x := ⟨_, rfl⟩
  obtain ⟨y, hy⟩ : ∃ y, lowL b = y := ⟨_, rfl⟩
  rw [hx] at h1
  rw [hy] at h2
  have hr : (x == y) = sameL a b := by unfold sameL; rw [hx, hy, beq_dec]
  have H1 := Lib.hid h1; have H2 := Lib.hid h2; have HR := Lib.hid hr
  clear h1 h2 hx hy hr ha hb
  go_enter Tryz.func116, Tryz.ntmps116
  go_wp2_with fail
  refine (H1.out _).mono ?_
  rintro e w1 ⟨rfl, hb1⟩
  go_wp2_with fail
  refine (H2.out _).mono ?_
  rintro e w2 ⟨rfl, hb2⟩
  have HB := Lib.hid (hb1.trans (hb2.mono hb1.size))
  clear hb1 hb2
  go_wp2
  go_ret
  rw [← HR.out]
  exact ⟨rfl, HB.out⟩
set_option maxHeartbeats 2000000 in
theorem rsame_any (a b : List UInt8) (w : World) (ha : a.length ≤ 1099511627776) (hb : b.length ≤ 1099511627776) :
    Calls Tryz.prog 90 #[.string ⟨a.toArray⟩, .string ⟨b.toArray⟩] w fun e w' => e = .returned (.bool (sameL a b)) ∧ Below w.heap.size w w' := by
  have h1 := fun w => rlower_any ⟨a.toArray⟩ w (by rw [size_mk]; exact ha)
  have h2 := fun w => rlower_any ⟨b.toArray⟩ w (by rw [size_mk]; exact hb)
  rw [show (⟨a.toArray⟩ : ByteArray).data.toList = a from rfl] at h1
  rw [show (⟨b.toArray⟩ : ByteArray).data.toList = b from rfl] at h2
  obtain ⟨x, hx⟩ : ∃ x, lowL a = x := ⟨_, rfl⟩
  obtain ⟨y, hy⟩ : ∃ y, lowL b = y := ⟨_, rfl⟩
  rw [hx] at h1
  rw [hy] at h2
  have hr : (x == y) = sameL a b := by unfold sameL; rw [hx, hy, beq_dec]
  have H1 := Lib.hid h1; have H2 := Lib.hid h2; have HR := Lib.hid hr
  clear h1 h2 hx hy hr ha hb
  go_enter Tryz.func90, Tryz.ntmps90
  go_wp2_with fail
  refine (H1.out _).mono ?_
  rintro e w1 ⟨rfl, hb1⟩
  go_wp2_with fail
  refine (H2.out _).mono ?_
  rintro e w2 ⟨rfl, hb2⟩
  have HB := Lib.hid (hb1.trans (hb2.mono hb1.size))
  clear hb1 hb2
  go_wp2
  go_ret
  rw [← HR.out]
  exact ⟨rfl, HB.out⟩
end Go.Proofs.YtpdbejeiceodkaaGreatDoor
