/- The walk of shelf.New at every list of files. Conditions: the files are small; bytealg's MaxLen holds an int; octet.signs holds what the text lays. -/
import Derived.Test.YtpdbejeiceodkaaGreatDoorPk20
import Derived.Test.YtpdbejeiceodkaaGreatDoorPk22
import Derived.Test.YtpdbejeiceodkaaGreatDoorPa26
namespace Go.Proofs.YtpdbejeiceodkaaGreatDoor
open Go.RowKit
set_option linter.unusedSimpArgs false
set_option linter.unusedVariables false
set_option maxRecDepth 1000000
def ShIs (W : World) (B s : Nat) (l : List Fil) : Prop := ∃ m v, B ≤ m ∧ B ≤ s ∧ BlkIs W s #[v, .map (some m)] 85 ∧ W.ownsRow (m + 1) 46 6 v l.length (filsC l) ∧ W.ownsGroups Tryz.prog 9 (m + 1) 3 .i64 m l.length (plcD l l.length)
def NwPost (l : List Fil) (w : World) (e : Ending) (w' : World) : Prop :=
  ∃ pv, e = .returned (.tuple #[.pointer pv, .int .i64 ((fck [] l).1 : Nat), .int .i64 ((fck [] l).2 : Nat)]) ∧ Below w.heap.size w w' ∧ ((fck [] l).2 ≠ 0 → pv = none) ∧ ((fck [] l).2 = 0 → ∃ s, pv = some ⟨s, 0, none⟩ ∧ ShIs w' w.heap.size s l)
/-- .. where the answer is known. -/
def NwP (R1 R2 : Nat) (l : List Fil) (w : World) (e : Ending) (w' : World) : Prop :=
  ∃ pv, e = .returned (.tuple #[.pointer pv, .int .i64 (R1 : Nat), .int .i64 (R2 : Nat)]) ∧ Below w.heap.size w w' ∧ (R2 ≠ 0 → pv = none) ∧ (R2 = 0 → ∃ s, pv = some ⟨s, 0, none⟩ ∧ ShIs w' w.heap.size s l)
theorem vrtI_get (l : List Fil) (p : List UInt8) (j : Nat) (h : j < (vrtI l p).length) : ∃ (k : Nat) (f : Fil), (vrtI l p)[j]? = some (k : Int) ∧ l[k]? = some f ∧ f.p = p := by
  unfold vrtI at h ⊢
  rw [List.length_map] at h
  have hk : (vrt l p)[j]? = some (vrt l p)[j] := List.getElem?_eq_getElem h
  obtain ⟨f, hf, hp⟩ := (vrt_mem l p _).1 (List.mem_of_getElem? hk)
  exact ⟨(vrt l p)[j], f, by rw [List.getElem?_map, hk]; rfl, hf, hp⟩
def alkI (l : List Fil) (f : Fil) (v : List Int) : Bool := v.any fun k => match l[k.toNat]? with | some a => alkF a f | none => false
theorem alkI_all (l : List Fil) (f : Fil) : alkI l f (vrtI l f.p) = l.any fun a => alkF a f := by
  rw [← alk_vrt]
  unfold alkI alkV vrtI
  rw [List.any_map]
  rfl
theorem alkI_take (l : List Fil) (f : Fil) (v : List Int) (j k : Nat) (a : Fil) (h : v[j]? = some (k : Int)) (ha : l[k]? = some a) : alkI l f (v.take (j + 1)) = (alkI l f (v.take j) || alkF a f) := by
  unfold alkI
  rw [take_any _ _ _ _ h]
  simp only [Int.toNat_natCast, ha]
theorem alkI_hit (l : List Fil) (f : Fil) (v : List Int) (j k : Nat) (a : Fil) (h : v[j]? = some (k : Int)) (ha : l[k]? = some a) (hh : alkF a f = true) : alkI l f v = true := by
  unfold alkI
  refine any_yes _ _ j _ h ?_
  simp only [Int.toNat_natCast, ha]
  exact hh
theorem fil_bd' (f : Fil) (h : filLen f ≤ 1073741824) : f.p.length ≤ 1099511627776 ∧ f.m.length ≤ 1099511627776 ∧ f.c.length ≤ 1099511627776 ∧ f.l.length ≤ 1099511627776 := by unfold filLen at h; omega
theorem w64s' (i : Nat) (h : i ≤ 4096) : wrap64 ((i : Int) + 1) = (i : Int) + 1 := by unfold wrap64; omega
theorem sameL_b (a b : List UInt8) : sameL a b = (lowL a == lowL b) := by unfold sameL; rw [Bool.eq_iff_iff]; simp
theorem alkF_low (a f : Fil) (hp : a.p = f.p) (ha : cdOk a.c = true) (hf : cdOk f.c = true) : alkF a f = ((lowL a.m == lowL f.m) && ((lowL a.c == lowL f.c) && (lowL a.l == lowL f.l))) := by
  unfold alkF
  rw [decide_eq_true hp, ← sameC a.c f.c ha hf, sameL_b, sameL_b, sameL_b, Bool.true_and]
theorem all_get (l : List Fil) (i k : Nat) (f : Fil) (h : (l.take i).all rgt = true) (hk : (l.take i)[k]? = some f) : rgt f = true := by
  rw [List.all_eq_true] at h
  exact h f (List.mem_of_getElem? hk)
theorem ints_cell {W : World} {L : Nat} {v : Value} {zs : List Int} (h : W.ownsRow L 3 1 v zs.length (zs.map (Value.int .i64))) (hp : 0 < zs.length) : ∃ g cap, v = .slice (some ⟨g, 0, none⟩) zs.length cap ∧ g < W.heap.size ∧ ∀ (j : Nat) (z : Int), zs[j]? = some z → W.cell? ⟨g, j, none⟩ = some (.int .i64 z) := by
  rcases h.2 with ⟨_, h0⟩ | ⟨g, cap, cur, rfl, _, hg, _⟩
  · omega
  · refine ⟨g, cap, rfl, (Array.getElem?_eq_some_iff.1 hg).1, fun j z hz => ?_⟩
    have := h.cells (g := g) rfl j (.int .i64 z) (by simp [hz])
    rwa [addj, Nat.zero_add] at this
theorem ints_none {W : World} {L : Nat} {v : Value} {zs : List Int} (h : W.ownsRow L 3 1 v zs.length (zs.map (Value.int .i64))) : ∃ ao cap, v = .slice ao zs.length cap := by
  rcases h.2 with ⟨rfl, h0⟩ | ⟨g, cap, cur, rfl, _, hg, _⟩
  · exact ⟨none, 0, by rw [h0]⟩
  · exact ⟨_, cap, rfl⟩
theorem fils_shape {W : World} {L n : Nat} {v : Value} {xs : List Value} (h : W.ownsRow L 46 6 v n xs) : ∃ ao cap, v = .slice ao n cap := by
  rcases h.2 with ⟨rfl, h0⟩ | ⟨g, cap, cur, rfl, _, hg, _⟩
  · exact ⟨none, 0, by rw [h0]⟩
  · exact ⟨_, cap, rfl⟩
set_option maxHeartbeats 16000000 in
theorem onew_any (fv : Value) (l : List Fil) (mm : Int) (w : World) (hN : totG l + l.length ≤ 1073741824) (h : FilsIn w fv l) (hx : w.cell? ⟨0, 0, none⟩ = some (.int .i64 mm)) (hg : SgAt w) : Calls Tryz.prog 35 #[fv] w (NwPost l w) := by
  obtain ⟨ao, cap, rfl, hat⟩ := h
  obtain ⟨i0, hi0, hz0, hz1, hz2⟩ := info_partsFl infoFile
  obtain ⟨j0, hj0, hy0, hy1, hy2⟩ := info_parts infoIntH
  have hmm := @run_makeMap Tryz.prog
  have HAT := Lib.hid hat
  have HRT := Lib.hid (show ∀ (f : Fil) W, filLen f ≤ 1073741824 → Below w.heap.size w W → Calls Tryz.prog 64 #[.agg (filC f)] W fun e w' => e = .returned (.bool (rgt f)) ∧ Below W.heap.size W w' from fun f W hf hW => oright_any f mm W hf (mx_later (B := 0) hx hW) (hg.below hW))
  have HFL := Lib.hid (show ∀ i f, l[i]? = some f → filLen f ≤ 1073741824 from fun i f hf => by have := totG_get l i f hf; omega)
  have hlb : l.length ≤ 1073741824 := by omega
  obtain ⟨⟨R1, R2⟩, hR⟩ : ∃ r, fck [] l = r := ⟨_, rfl⟩
  have hpost : NwPost l w = NwP R1 R2 l w := by unfold NwPost NwP; rw [hR]
  rw [hpost]
  obtain ⟨W2, hW2⟩ : ∃ W2, (w.alloc (.map #[] 0)).alloc (.cells #[.slice none 0 0, .map (some w.heap.size)] 85) = W2 := ⟨_, rfl⟩
  obtain ⟨m, hm⟩ : ∃ m, w.heap.size = m := ⟨_, rfl⟩
  have hb2 : Below w.heap.size w W2 := by rw [← hW2]; exact ((Below.refl _ w).alloc (Nat.le_refl _) _).alloc (by simp) _
  have hS2 : BlkIs W2 (m + 1) #[.slice none 0 0, .map (some m)] 85 := by rw [← hW2, ← hm]; have := blkIs_new (w.alloc (.map #[] 0)) #[.slice none 0 0, .map (some w.heap.size)] 85; rwa [World.size_alloc] at this
  have hG2 : W2.ownsGroups Tryz.prog 9 (m + 1) 3 .i64 m 0 (plcD l 0) := by
    rw [← hW2, ← hm]
    exact groups_later (World.ownsGroups_made w Tryz.prog 9 3 .i64) ((Below.refl _ _).alloc (Nat.le_refl _) _)
  have hst : ShSt w m (m + 1) l 0 (.slice none 0 0) W2 := ⟨hb2, hS2, World.ownsRow_nil _ _ _ _, hG2⟩
  have HW2 := Lib.hid (show (w.alloc (.map #[] 0)).alloc (.cells #[.slice none 0 0, .map (some m)] 85) = W2 by rw [← hm]; exact hW2); have HST := Lib.hid (And.intro hst hR); have HMM := Lib.hid (show w.heap.size ≤ m by omega)
  clear hW2 hb2 hS2 hG2 hst hat hx hg hN hR hpost
  go_enter Tryz.func35, Tryz.ntmps35
  go_upto_region 3 with fail
  rw [HW2.out]
  go_loopw [15] (fun iv wr => ∃ (i : Nat) (v : Value), iv = .int .i64 i ∧ i ≤ l.length ∧ i ≤ 4096 ∧ fck (l.take i) (l.drop i) = (R1, R2) ∧ (l.take i).all rgt = true ∧ ShSt w m (m + 1) l i v wr) (fun iv _ => l.length - (intOf iv).toNat)
  case atStart => exact ⟨0, _, rfl, Nat.zero_le _, Nat.zero_le _, HST.out.2, rfl, HST.out.1⟩
  case round =>
    obtain ⟨i, v, rfl, hi, hi4, hck, hall, hst⟩ := hrel
    have k0 : (0 : Int) ≤ (i : Int) := Int.natCast_nonneg _
    by_cases hlt : i < l.length
    case neg =>
      obtain rfl : i = l.length := by omega
      have hd : decide (l.length < l.length) = false := decide_eq_false (Nat.lt_irrefl _)
      rw [List.drop_length, fck_nil] at hck
      injection hck with h1 h2
      subst h1
      subst h2
      have HX := Lib.hid (show ShIs wr w.heap.size (m + 1) l from ⟨m, v, by omega, by omega, hst.2.1, by have := hst.2.2.1; rwa [List.take_length] at this, hst.2.2.2⟩)
      have HB := Lib.hid hst.1
      clear hst hall
      go_wp2
      go_ret3
      exact ⟨_, rfl, by first | exact HB.out | (rw [← hm]; exact HB.out), fun h => absurd rfl h, fun _ => ⟨m + 1, rfl, HX.out⟩⟩
    have k1 : (i : Int) < (l.length : Int) := by omega
    obtain ⟨f, hf⟩ : ∃ f, l[i]? = some f := ⟨_, List.getElem?_eq_getElem hlt⟩
    rw [fck_step l i f hf] at hck
    have hfl := HFL.out i f hf
    obtain ⟨g, og, rfl, hC⟩ := HAT.out.below (w' := wr) (hst.1) i f hf
    obtain ⟨a0, a1, a2, a3, a4, a5, _⟩ := id hC
    obtain ⟨W3, hW3⟩ : ∃ W3, wr.alloc (.cells (fC f.p f.m f.c f.l f.b f.t) 46) = W3 := ⟨_, rfl⟩
    obtain ⟨fb, hfb⟩ : ∃ fb, wr.heap.size = fb := ⟨_, rfl⟩
    have hfbn : v.ownBlock ≠ some fb := fun e => by have := (hst.2.2.1.lt fb e).2; omega
    have hmfb : m < fb := by obtain ⟨es, clock, h0, _⟩ := hst.2.2.2; have := (Array.getElem?_eq_some_iff.1 h0).1; omega
    have hb3 : Below wr.heap.size wr W3 := by rw [← hW3]; exact (Below.refl _ wr).alloc (Nat.le_refl _) _
    have hF3 : BlkIs W3 fb (fC f.p f.m f.c f.l f.b f.t) 46 := by rw [← hW3, ← hfb]; exact blkIs_new _ _ _
    have HW3 := Lib.hid hW3
    have H3 := Lib.hid (And.intro (hst.later hb3) hF3)
    have HF := Lib.hid (And.intro hf (And.intro hfl hall))
    clear hW3 hb3 hF3 hst hC hf hfl hall
    by_cases h4 : i = 4096
    · subst h4
      rw [if_pos rfl] at hck
      injection hck with h1 h2
      subst h1
      subst h2
      go_upto_region 5 with fail
      rw [HW3.out]
      go_wp2
      go_ret3
      exact ⟨_, rfl, by first | exact H3.out.1.1 | (rw [← hm]; exact H3.out.1.1), fun _ => rfl, fun h => absurd h (by decide)⟩
    have b4 : ((i : Int) == 4096) = false := by simp; omega
    rw [if_neg h4] at hck
    have HRF := Lib.hid (fun W hW => HRT.out f W HF.out.2.1 hW)
    go_upto_region 5 with fail
    rw [HW3.out]
    clear a0 a1 a2 a3 a4 a5
    have c0 : W3.cell? ⟨fb, 0, none⟩ = some (.string ⟨f.p.toArray⟩) := H3.out.2.cell 0 _ rfl
    have c1 : W3.cell? ⟨fb, 1, none⟩ = some (.string ⟨f.m.toArray⟩) := H3.out.2.cell 1 _ rfl
    have c2 : W3.cell? ⟨fb, 2, none⟩ = some (.string ⟨f.c.toArray⟩) := H3.out.2.cell 2 _ rfl
    have c3 : W3.cell? ⟨fb, 3, none⟩ = some (.string ⟨f.l.toArray⟩) := H3.out.2.cell 3 _ rfl
    have c4 : W3.cell? ⟨fb, 4, none⟩ = some (.string ⟨f.b.toArray⟩) := H3.out.2.cell 4 _ rfl
    have c5 : W3.cell? ⟨fb, 5, none⟩ = some (.int .i64 f.t) := H3.out.2.cell 5 _ rfl
    go_wp2_with fail
    refine (HRF.out W3 H3.out.1.1).mono ?_
    rintro e w4 ⟨rfl, hb4⟩
    have H4 := Lib.hid (And.intro (H3.out.1.later hb4) (H3.out.2.later hb4))
    clear hb4 c0 c1 c2 c3 c4 c5
    cases hr : rgt f with
    | false =>
      rw [hr, if_pos rfl] at hck
      injection hck with h1 h2
      subst h1
      subst h2
      clear hr
      go_wp2
      go_ret3
      exact ⟨_, rfl, by first | exact H4.out.1.1 | (rw [← hm]; exact H4.out.1.1), fun _ => rfl, fun h => absurd h (by decide)⟩
    | true =>
    rw [hr, if_neg (by decide)] at hck
    have hpm : f.p.length ≤ maxLen := by have := HF.out.2.1; unfold filLen at this; unfold maxLen; omega
    have HCK := Lib.hid (And.intro hck (And.intro hr hpm))
    clear hck hr hpm
    go_upto_region 9 with fail
    obtain ⟨v0, hlk, hown0⟩ := sh_places (H4.out.1.later ((Below.refl _ w4).drew)) hi4 hi f.p HCK.out.2.2
    have HLK := Lib.hid hlk
    have H5 := Lib.hid (And.intro (H4.out.1.later ((Below.refl _ w4).drew)) (H4.out.2.later ((Below.refl _ w4).drew)))
    obtain ⟨av, capv, rfl⟩ := ints_none hown0
    have HO := Lib.hid hown0
    clear hlk hown0
    obtain ⟨wd, hwd⟩ : ∃ W, w4.drew = W := ⟨_, rfl⟩
    refine wp_region_textH (fun W => W = w4.drew) [(0, true), (1, true), (2, true), (3, true), (4, true), (5, true), (6, true), (7, true), (8, true)] (by kernel_rfl) (by kernel_rfl) (by kernel_rfl) (by kernel_rfl) rfl ?_
    rw [hwd] at HLK H5 HO ⊢
    iterate 9 (refine wpTxH_take rfl (by kernel_rfl) (v := ?_) ?_ ?_; rotate_left; · (intro W hS; subst hS; have t1 : W.cell? ⟨m + 1, 1, none⟩ = some (.map (some m)) := H5.out.1.2.1.cell 1 _ rfl; have t0 : W.cell? ⟨fb, 0, none⟩ = some (.string ⟨f.p.toArray⟩) := H5.out.2.cell 0 _ rfl; have l0 := HLK.out; go_simp; with_reducible rfl))
    refine wpTxH_nil ?_
    clear hwd
    go_simp
    go_upto_region 10 with fail
    have hvl := vrtI_len (l.take i) f.p
    rw [List.length_take, Nat.min_eq_left (Nat.le_of_lt hlt)] at hvl
    obtain ⟨VS, hVS⟩ : ∃ VS, vrtI (l.take i) f.p = VS := ⟨_, rfl⟩
    rw [hVS] at HO hvl ⊢
    have HVS := Lib.hid hVS
    clear hVS
    go_loopw [35] (fun jv wr => ∃ j : Nat, jv = .int .i64 j ∧ j ≤ VS.length ∧ alkI (l.take i) f (VS.take j) = false ∧ Below wd.heap.size wd wr) (fun jv _ => VS.length - (intOf jv).toNat)
    case atStart => exact ⟨0, rfl, Nat.zero_le _, rfl, Below.refl _ _⟩
    case round =>
      obtain ⟨j, rfl, hj, hno, hbl⟩ := hrel
      have j0' : (0 : Int) ≤ (j : Int) := Int.natCast_nonneg _
      by_cases hjl : j < VS.length
      · have j1 : (j : Int) < (VS.length : Int) := by omega
        obtain ⟨k, a, hk1, hk2, hk3⟩ := vrtI_get (l.take i) f.p j (by rw [HVS.out]; exact hjl)
        rw [HVS.out] at hk1
        obtain ⟨gv, capv2, ev, hgv, hcell⟩ := ints_cell HO.out (by omega)
        injection ev with ev1 _ ev3
        subst ev1
        subst ev3
        have d0 : wr.cell? ⟨gv, j, none⟩ = some (.int .i64 (k : Int)) := by rw [hbl.cell (p := ⟨gv, j, none⟩) hgv]; exact hcell j _ hk1
        have hki : k < i := by have := (List.getElem?_eq_some_iff.1 hk2).1; rw [List.length_take] at this; omega
        have hstw := H5.out.1.later hbl
        have hFw : BlkIs wr fb (fC f.p f.m f.c f.l f.b f.t) 46 := H5.out.2.later hbl
        obtain ⟨gf, capf, rfl, hgf⟩ : ∃ gf capf, v = .slice (some ⟨gf, 0, none⟩) i capf ∧ FilAt wr (some ⟨gf, 0, none⟩) (l.take i) := by
          rcases hstw.2.2.1.2 with ⟨_, h0⟩ | ⟨gf, capf, cur, rfl, _⟩
          · omega
          · exact ⟨gf, capf, rfl, filAt_own hstw.2.2.1⟩
        obtain ⟨b2, o2, e2, hC2⟩ := hgf k a hk2
        injection e2 with e2
        injection e2 with e21 e22 _
        subst e21
        subst e22
        have hak : filLen a ≤ 1073741824 := HFL.out k a (by rw [List.getElem?_take, if_pos hki] at hk2; exact hk2)
        have HPA := Lib.hid (fun W => oplain_any a.p a.m a.c a.l a.b a.t W (by have := fil_bd' a hak; exact ⟨this.2.1, this.2.2.1, this.2.2.2⟩))
        have HPF := Lib.hid (fun W => oplain_any f.p f.m f.c f.l f.b f.t W (by have := fil_bd' f HF.out.2.1; exact ⟨this.2.1, this.2.2.1, this.2.2.2⟩))
        have hra := all_get l i k a HF.out.2.2 hk2
        have hlow := alkF_low a f hk3 (rgt_cd a hra) (rgt_cd f HCK.out.2.1)
        have htk := alkI_take (l.take i) f VS j k a hk1 hk2
        have hhit := alkI_hit (l.take i) f VS j k a hk1 hk2
        rw [hno, Bool.false_or] at htk
        have q0 : (0 : Int) ≤ (k : Int) := Int.natCast_nonneg _
        have q1 : (k : Int) < (i : Int) := by omega
        have hwj : wrap64 ((j : Int) + 1) = (j : Int) + 1 := wrap64_small j (by omega)
        have HWJ := Lib.hid hwj
        have HS := Lib.hid (show BlkIs wr.drew (m + 1) #[.slice (some ⟨gf, 0, none⟩) i capf, .map (some m)] 85 ∧ Cells6 gf (k * 6) a wr.drew ∧ BlkIs wr.drew fb (fC f.p f.m f.c f.l f.b f.t) 46 from ⟨hstw.2.1, by have := hC2; rwa [Nat.zero_add] at this, hFw⟩)
        have HT := Lib.hid (And.intro htk (And.intro hhit (And.intro hlow hk3))); have HBL := Lib.hid hbl; have HNO := Lib.hid hno
        clear htk hhit hlow hk1 hk2 hk3 hstw hFw hgf hC2 hbl hno hcell hra hwj
        go_upto_region 12 with fail
        clear d0
        refine wp_region_textH (fun W => BlkIs W (m + 1) #[.slice (some ⟨gf, 0, none⟩) i capf, .map (some m)] 85 ∧ Cells6 gf (k * 6) a W ∧ BlkIs W fb (fC f.p f.m f.c f.l f.b f.t) 46) [(0, true), (1, true), (2, true), (3, true), (4, true), (5, true), (6, true), (8, true), (7, false), (9, false), (10, true)] (by kernel_rfl) (by kernel_rfl) (by kernel_rfl) (by kernel_rfl) HS.out ?_
        iterate 8 (refine wpTxH_take rfl (by kernel_rfl) (v := ?_) ?_ ?_; rotate_left; · (intro W hS; obtain ⟨u1, ⟨s0, s1, s2, s3, s4, s5, _⟩, u3⟩ := hS; have t0 : W.cell? ⟨m + 1, 0, none⟩ = some (.slice (some ⟨gf, 0, none⟩) i capf) := u1.cell 0 _ rfl; have c0 : W.cell? ⟨fb, 0, none⟩ = some (.string ⟨f.p.toArray⟩) := u3.cell 0 _ rfl; have c1 : W.cell? ⟨fb, 1, none⟩ = some (.string ⟨f.m.toArray⟩) := u3.cell 1 _ rfl; have c2 : W.cell? ⟨fb, 2, none⟩ = some (.string ⟨f.c.toArray⟩) := u3.cell 2 _ rfl; have c3 : W.cell? ⟨fb, 3, none⟩ = some (.string ⟨f.l.toArray⟩) := u3.cell 3 _ rfl; have c4 : W.cell? ⟨fb, 4, none⟩ = some (.string ⟨f.b.toArray⟩) := u3.cell 4 _ rfl; have c5 : W.cell? ⟨fb, 5, none⟩ = some (.int .i64 f.t) := u3.cell 5 _ rfl; clear u1 u3; go_simp; with_reducible rfl))
        refine wpTxH_step rfl (fun K hK => ?_)
        go_simp
        refine (HPA.out _).mono ?_
        rintro e w6 ⟨rfl, hb6⟩
        have HS6 := Lib.hid (And.intro (HS.out.1.later hb6) (And.intro (HS.out.2.1.below hb6) (HS.out.2.2.later hb6)))
        have HB6 := Lib.hid (HBL.out.drew.trans (hb6.mono HBL.out.size))
        refine hK _ _ HS6.out ?_
        clear hK K hb6
        refine wpTxH_step rfl (fun K hK => ?_)
        go_simp
        refine (HPF.out _).mono ?_
        rintro e w7 ⟨rfl, hb7⟩
        have HB7 := Lib.hid (HB6.out.trans (hb7.mono HB6.out.size))
        refine hK _ _ ⟨HS6.out.1.later hb7, HS6.out.2.1.below hb7, HS6.out.2.2.later hb7⟩ ?_
        clear hK K hb7
        obtain ⟨AK, hAK⟩ : ∃ x, alkF a f = x := ⟨_, rfl⟩
        have HAK := Lib.hid hAK
        refine wpTxH_take rfl (by kernel_rfl) (v := .bool AK) ?_ ?_
        · intro W hS
          clear hS
          go_simp
          rw [← HAK.out, HT.out.2.2.1, if_pos HT.out.2.2.2]
          by_cases e1 : lowL a.m = lowL f.m <;> by_cases e2 : lowL a.c = lowL f.c <;> by_cases e3 : lowL a.l = lowL f.l <;> simp [e1, e2, e3]
        refine wpTxH_nil ?_
        clear hAK
        cases AK with
        | true =>
          have hck := HCK.out.1
          rw [if_pos (by rw [← alkI_all, HVS.out]; exact HT.out.2.1 HAK.out)] at hck
          injection hck with h1 h2
          subst h1
          subst h2
          have HFB := Lib.hid (H5.out.1.1.trans (HB7.out.mono H5.out.1.1.size))
          go_simp
          go_wp2
          go_ret3
          exact ⟨_, rfl, by first | exact HFB.out | (rw [← hm]; exact HFB.out), fun _ => rfl, fun h => absurd h (by decide)⟩
        | false =>
          have HNX := Lib.hid (show alkI (l.take i) f (VS.take (j + 1)) = false by rw [HT.out.1]; exact HAK.out)
          go_simp
          go_wp2
          have hwi := HWJ.out
          go_roundw
          case rel => (try rw [hwi]); clear hwi; exact ⟨j + 1, by go_num, hjl, HNX.out, HB7.out⟩
          case measure => (try rw [hwi]); clear hwi; simp [intOf]; omega
      · obtain rfl : j = VS.length := by omega
        have hd : decide (VS.length < VS.length) = false := decide_eq_false (Nat.lt_irrefl _)
        rw [List.take_length, ← HVS.out, alkI_all] at hno
        have hck := HCK.out.1
        rw [if_neg (by rw [hno]; decide)] at hck
        have hall1 : (l.take (i + 1)).all rgt = true := by rw [List.take_add_one, HF.out.1, Option.toList_some, List.all_append, HF.out.2.2, List.all_cons, HCK.out.2.1]; rfl
        have H8 := Lib.hid (And.intro (H5.out.1.later hbl) (show BlkIs wr fb (fC f.p f.m f.c f.l f.b f.t) 46 from H5.out.2.later hbl))
        have HCK2 := Lib.hid (And.intro hck hall1)
        clear hck hall1 hno hbl
        have hwi := w64s' i hi4
        have HWI := Lib.hid hwi
        clear hwi
        obtain ⟨af, capf, rfl⟩ := fils_shape H8.out.1.2.2.1
        go_upto_region 15 with fail
        have HD := Lib.hid (And.intro (H8.out.1.later ((Below.refl _ wr).drew)) (H8.out.2.later ((Below.refl _ wr).drew)))
        obtain ⟨w8, hw8⟩ : ∃ W, wr.drew = W := ⟨_, rfl⟩
        rw [hw8] at HD
        go_cut [] (fun wx => ∃ v', ShMid w m (m + 1) l i v' wx ∧ BlkIs wx fb (fC f.p f.m f.c f.l f.b f.t) 46)
        case first =>
          rename_i J0 K0 hJ0 hK0
          have HJ0 := Lib.hid hJ0; have HK0 := Lib.hid hK0
          clear hJ0 hK0
          have HS : BlkIs w8 fb (fC f.p f.m f.c f.l f.b f.t) 46 := HD.out.2
          refine wp_region_eachH (fun W => BlkIs W fb (fC f.p f.m f.c f.l f.b f.t) 46) 11 (by kernel_rfl) (by kernel_rfl) ?_
          rw [hw8]
          clear hw8
          refine eachH_take (i := 0) rfl (by kernel_rfl) (by kernel_rfl) (by kernel_rfl) HS (v := ?_) ?_ ?_; rotate_left; · (intro W hS; have t0 : W.cell? ⟨fb, 0, none⟩ = some (.string ⟨f.p.toArray⟩) := hS.cell 0 _ rfl; have t1 : W.cell? ⟨fb, 1, none⟩ = some (.string ⟨f.m.toArray⟩) := hS.cell 1 _ rfl; have t2 : W.cell? ⟨fb, 2, none⟩ = some (.string ⟨f.c.toArray⟩) := hS.cell 2 _ rfl; have t3 : W.cell? ⟨fb, 3, none⟩ = some (.string ⟨f.l.toArray⟩) := hS.cell 3 _ rfl; have t4 : W.cell? ⟨fb, 4, none⟩ = some (.string ⟨f.b.toArray⟩) := hS.cell 4 _ rfl; have t5 : W.cell? ⟨fb, 5, none⟩ = some (.int .i64 f.t) := hS.cell 5 _ rfl; clear hS; go_simp; with_reducible rfl)
          refine eachH_take (i := 1) rfl (by kernel_rfl) (by kernel_rfl) (by kernel_rfl) HS (v := ?_) ?_ ?_; rotate_left; · (intro W hS; have t0 : W.cell? ⟨fb, 0, none⟩ = some (.string ⟨f.p.toArray⟩) := hS.cell 0 _ rfl; have t1 : W.cell? ⟨fb, 1, none⟩ = some (.string ⟨f.m.toArray⟩) := hS.cell 1 _ rfl; have t2 : W.cell? ⟨fb, 2, none⟩ = some (.string ⟨f.c.toArray⟩) := hS.cell 2 _ rfl; have t3 : W.cell? ⟨fb, 3, none⟩ = some (.string ⟨f.l.toArray⟩) := hS.cell 3 _ rfl; have t4 : W.cell? ⟨fb, 4, none⟩ = some (.string ⟨f.b.toArray⟩) := hS.cell 4 _ rfl; have t5 : W.cell? ⟨fb, 5, none⟩ = some (.int .i64 f.t) := hS.cell 5 _ rfl; clear hS; go_simp; with_reducible rfl)
          refine eachH_take (i := 2) rfl (by kernel_rfl) (by kernel_rfl) (by kernel_rfl) HS (v := ?_) ?_ ?_; rotate_left; · (intro W hS; have t0 : W.cell? ⟨fb, 0, none⟩ = some (.string ⟨f.p.toArray⟩) := hS.cell 0 _ rfl; have t1 : W.cell? ⟨fb, 1, none⟩ = some (.string ⟨f.m.toArray⟩) := hS.cell 1 _ rfl; have t2 : W.cell? ⟨fb, 2, none⟩ = some (.string ⟨f.c.toArray⟩) := hS.cell 2 _ rfl; have t3 : W.cell? ⟨fb, 3, none⟩ = some (.string ⟨f.l.toArray⟩) := hS.cell 3 _ rfl; have t4 : W.cell? ⟨fb, 4, none⟩ = some (.string ⟨f.b.toArray⟩) := hS.cell 4 _ rfl; have t5 : W.cell? ⟨fb, 5, none⟩ = some (.int .i64 f.t) := hS.cell 5 _ rfl; clear hS; go_simp; with_reducible rfl)
          refine eachH_take (i := 3) rfl (by kernel_rfl) (by kernel_rfl) (by kernel_rfl) HS (v := ?_) ?_ ?_; rotate_left; · (intro W hS; have t0 : W.cell? ⟨fb, 0, none⟩ = some (.string ⟨f.p.toArray⟩) := hS.cell 0 _ rfl; have t1 : W.cell? ⟨fb, 1, none⟩ = some (.string ⟨f.m.toArray⟩) := hS.cell 1 _ rfl; have t2 : W.cell? ⟨fb, 2, none⟩ = some (.string ⟨f.c.toArray⟩) := hS.cell 2 _ rfl; have t3 : W.cell? ⟨fb, 3, none⟩ = some (.string ⟨f.l.toArray⟩) := hS.cell 3 _ rfl; have t4 : W.cell? ⟨fb, 4, none⟩ = some (.string ⟨f.b.toArray⟩) := hS.cell 4 _ rfl; have t5 : W.cell? ⟨fb, 5, none⟩ = some (.int .i64 f.t) := hS.cell 5 _ rfl; clear hS; go_simp; with_reducible rfl)
          refine eachH_take (i := 5) rfl (by kernel_rfl) (by kernel_rfl) (by kernel_rfl) HS (v := ?_) ?_ ?_; rotate_left; · (intro W hS; have t0 : W.cell? ⟨fb, 0, none⟩ = some (.string ⟨f.p.toArray⟩) := hS.cell 0 _ rfl; have t1 : W.cell? ⟨fb, 1, none⟩ = some (.string ⟨f.m.toArray⟩) := hS.cell 1 _ rfl; have t2 : W.cell? ⟨fb, 2, none⟩ = some (.string ⟨f.c.toArray⟩) := hS.cell 2 _ rfl; have t3 : W.cell? ⟨fb, 3, none⟩ = some (.string ⟨f.l.toArray⟩) := hS.cell 3 _ rfl; have t4 : W.cell? ⟨fb, 4, none⟩ = some (.string ⟨f.b.toArray⟩) := hS.cell 4 _ rfl; have t5 : W.cell? ⟨fb, 5, none⟩ = some (.int .i64 f.t) := hS.cell 5 _ rfl; clear hS; go_simp; with_reducible rfl)
          refine eachH2 (i := 4) (j := 6) (by kernel_rfl) rfl rfl ?_ ?_
          · intro K hK
            have t0 : w8.cell? ⟨m + 1, 0, none⟩ = some (.slice af i capf) := HD.out.1.2.1.cell 0 _ rfl
            go_simp
            refine hK _ _ HS ?_
            clear hK K t0
            refine eachH1 (i := 6) (by kernel_rfl) rfl ?_
            intro K hK
            go_simp
            refine hK _ _ (HS.alloc (.cells (fC f.p f.m f.c f.l f.b f.t) 46)) ?_
            clear hK K
            refine eachH1 (i := 7) (by kernel_rfl) rfl ?_
            intro K hK
            rw [if_pos (by kernel_rfl)]
            refine wp_append_lies _ _ _ 25 rfl (m + 1) 46 i0 zFl 6 88 Tryz.underlying25 hi0 hz0 hz1 hz2 rfl (by decide) (.slice af i capf) i (filsC (l.take i)) rfl (HD.out.1.2.2.1.alloc (.cells (fC f.p f.m f.c f.l f.b f.t) 46)) ⟨w8.heap.size, 0, none⟩ 1 1 (fC f.p f.m f.c f.l f.b f.t).toList rfl rfl ?hn (by simp [Value.oneCell']) (by decide) (by unfold maxLen; omega) (by omega) ?hb _ rfl ?_
            case hn => exact World.news_of_block (World.alloc_heap_new _ _)
            case hb => have := (Array.getElem?_eq_some_iff.1 HD.out.1.2.1).1; simp; omega
            intro g' cap' w10 hown hgrow _ hlt'
            have hgrow2 : w8.grownBy w10 (Value.slice af i capf).ownBlock := (World.grownBy_alloc _ _ _).trans hgrow
            have hmid := sh_mid HD.out.1 HF.out.1 (by omega) (by omega) hown hgrow2
            have hS10 : BlkIs w10 fb (fC f.p f.m f.c f.l f.b f.t) 46 := HS.grown hgrow2 hfbn
            have hT10 : BlkIs w10 (m + 1) #[.slice af i capf, .map (some m)] 85 := HD.out.1.2.1.grown hgrow2 (fun e => own_blk HD.out.1.2.2.1 HD.out.1.2.1 (by decide) e)
            have HX := Lib.hid (And.intro hmid (hS10.setOther ⟨m + 1, 0, none⟩ (.slice (some ⟨g', 0, none⟩) (i + 1) cap') (blk_neF hS10 hT10)))
            refine hK _ _ hS10 ?_
            clear hK K hgrow hown hmid hgrow2
            have HS := hS10
            refine eachH_take (i := 8) rfl (by kernel_rfl) (by kernel_rfl) (by kernel_rfl) HS (v := ?_) ?_ ?_; rotate_left; · (intro W hS; have t0 : W.cell? ⟨fb, 0, none⟩ = some (.string ⟨f.p.toArray⟩) := hS.cell 0 _ rfl; have t1 : W.cell? ⟨fb, 1, none⟩ = some (.string ⟨f.m.toArray⟩) := hS.cell 1 _ rfl; have t2 : W.cell? ⟨fb, 2, none⟩ = some (.string ⟨f.c.toArray⟩) := hS.cell 2 _ rfl; have t3 : W.cell? ⟨fb, 3, none⟩ = some (.string ⟨f.l.toArray⟩) := hS.cell 3 _ rfl; have t4 : W.cell? ⟨fb, 4, none⟩ = some (.string ⟨f.b.toArray⟩) := hS.cell 4 _ rfl; have t5 : W.cell? ⟨fb, 5, none⟩ = some (.int .i64 f.t) := hS.cell 5 _ rfl; clear hS; go_simp; with_reducible rfl)
            refine eachH_take (i := 9) rfl (by kernel_rfl) (by kernel_rfl) (by kernel_rfl) HS (v := ?_) ?_ ?_; rotate_left; · (intro W hS; have t0 : W.cell? ⟨fb, 0, none⟩ = some (.string ⟨f.p.toArray⟩) := hS.cell 0 _ rfl; have t1 : W.cell? ⟨fb, 1, none⟩ = some (.string ⟨f.m.toArray⟩) := hS.cell 1 _ rfl; have t2 : W.cell? ⟨fb, 2, none⟩ = some (.string ⟨f.c.toArray⟩) := hS.cell 2 _ rfl; have t3 : W.cell? ⟨fb, 3, none⟩ = some (.string ⟨f.l.toArray⟩) := hS.cell 3 _ rfl; have t4 : W.cell? ⟨fb, 4, none⟩ = some (.string ⟨f.b.toArray⟩) := hS.cell 4 _ rfl; have t5 : W.cell? ⟨fb, 5, none⟩ = some (.int .i64 f.t) := hS.cell 5 _ rfl; clear hS; go_simp; with_reducible rfl)
            refine eachH1 (i := 10) (by kernel_rfl) rfl ?_
            intro K hK
            have t0 := hT10.cell 0 _ rfl
            have t1 := hT10.free 0
            go_simp
            refine hK _ _ HX.out.2 ?_
            clear hK K t0 t1
            refine eachH_done (by kernel_rfl) ?_
            go_simp
            refine HK0.out _ _ (Met.intro (HJ0.out _ _ ?_))
            (repeat apply Exists.intro)
            refine ⟨?_, rfl⟩
            exact ⟨_, HX.out⟩
          · intro K hK
            go_simp
            refine hK _ _ (HS.alloc (.cells (fC f.p f.m f.c f.l f.b f.t) 46)) ?_
            clear hK K
            refine eachH1 (i := 4) (by kernel_rfl) rfl ?_
            intro K hK
            have t0 : (w8.alloc (.cells (fC f.p f.m f.c f.l f.b f.t) 46)).cell? ⟨m + 1, 0, none⟩ = some (.slice af i capf) := (HD.out.1.2.1.alloc (.cells (fC f.p f.m f.c f.l f.b f.t) 46)).cell 0 _ rfl
            go_simp
            refine hK _ _ (HS.alloc (.cells (fC f.p f.m f.c f.l f.b f.t) 46)) ?_
            clear hK K t0
            refine eachH1 (i := 7) (by kernel_rfl) rfl ?_
            intro K hK
            rw [if_pos (by kernel_rfl)]
            refine wp_append_lies _ _ _ 25 rfl (m + 1) 46 i0 zFl 6 88 Tryz.underlying25 hi0 hz0 hz1 hz2 rfl (by decide) (.slice af i capf) i (filsC (l.take i)) rfl (HD.out.1.2.2.1.alloc (.cells (fC f.p f.m f.c f.l f.b f.t) 46)) ⟨w8.heap.size, 0, none⟩ 1 1 (fC f.p f.m f.c f.l f.b f.t).toList rfl rfl ?hn (by simp [Value.oneCell']) (by decide) (by unfold maxLen; omega) (by omega) ?hb _ rfl ?_
            case hn => exact World.news_of_block (World.alloc_heap_new _ _)
            case hb => have := (Array.getElem?_eq_some_iff.1 HD.out.1.2.1).1; simp; omega
            intro g' cap' w10 hown hgrow _ hlt'
            have hgrow2 : w8.grownBy w10 (Value.slice af i capf).ownBlock := (World.grownBy_alloc _ _ _).trans hgrow
            have hmid := sh_mid HD.out.1 HF.out.1 (by omega) (by omega) hown hgrow2
            have hS10 : BlkIs w10 fb (fC f.p f.m f.c f.l f.b f.t) 46 := HS.grown hgrow2 hfbn
            have hT10 : BlkIs w10 (m + 1) #[.slice af i capf, .map (some m)] 85 := HD.out.1.2.1.grown hgrow2 (fun e => own_blk HD.out.1.2.2.1 HD.out.1.2.1 (by decide) e)
            have HX := Lib.hid (And.intro hmid (hS10.setOther ⟨m + 1, 0, none⟩ (.slice (some ⟨g', 0, none⟩) (i + 1) cap') (blk_neF hS10 hT10)))
            refine hK _ _ hS10 ?_
            clear hK K hgrow hown hmid hgrow2
            have HS := hS10
            refine eachH_take (i := 8) rfl (by kernel_rfl) (by kernel_rfl) (by kernel_rfl) HS (v := ?_) ?_ ?_; rotate_left; · (intro W hS; have t0 : W.cell? ⟨fb, 0, none⟩ = some (.string ⟨f.p.toArray⟩) := hS.cell 0 _ rfl; have t1 : W.cell? ⟨fb, 1, none⟩ = some (.string ⟨f.m.toArray⟩) := hS.cell 1 _ rfl; have t2 : W.cell? ⟨fb, 2, none⟩ = some (.string ⟨f.c.toArray⟩) := hS.cell 2 _ rfl; have t3 : W.cell? ⟨fb, 3, none⟩ = some (.string ⟨f.l.toArray⟩) := hS.cell 3 _ rfl; have t4 : W.cell? ⟨fb, 4, none⟩ = some (.string ⟨f.b.toArray⟩) := hS.cell 4 _ rfl; have t5 : W.cell? ⟨fb, 5, none⟩ = some (.int .i64 f.t) := hS.cell 5 _ rfl; clear hS; go_simp; with_reducible rfl)
            refine eachH_take (i := 9) rfl (by kernel_rfl) (by kernel_rfl) (by kernel_rfl) HS (v := ?_) ?_ ?_; rotate_left; · (intro W hS; have t0 : W.cell? ⟨fb, 0, none⟩ = some (.string ⟨f.p.toArray⟩) := hS.cell 0 _ rfl; have t1 : W.cell? ⟨fb, 1, none⟩ = some (.string ⟨f.m.toArray⟩) := hS.cell 1 _ rfl; have t2 : W.cell? ⟨fb, 2, none⟩ = some (.string ⟨f.c.toArray⟩) := hS.cell 2 _ rfl; have t3 : W.cell? ⟨fb, 3, none⟩ = some (.string ⟨f.l.toArray⟩) := hS.cell 3 _ rfl; have t4 : W.cell? ⟨fb, 4, none⟩ = some (.string ⟨f.b.toArray⟩) := hS.cell 4 _ rfl; have t5 : W.cell? ⟨fb, 5, none⟩ = some (.int .i64 f.t) := hS.cell 5 _ rfl; clear hS; go_simp; with_reducible rfl)
            refine eachH1 (i := 10) (by kernel_rfl) rfl ?_
            intro K hK
            have t0 := hT10.cell 0 _ rfl
            have t1 := hT10.free 0
            go_simp
            refine hK _ _ HX.out.2 ?_
            clear hK K t0 t1
            refine eachH_done (by kernel_rfl) ?_
            go_simp
            refine HK0.out _ _ (Met.intro (HJ0.out _ _ ?_))
            (repeat apply Exists.intro)
            refine ⟨?_, rfl⟩
            exact ⟨_, HX.out⟩
        case rest =>
        obtain ⟨v9, hmid, hF9⟩ := hcut
        have HMD := Lib.hid (And.intro (hmid.later ((Below.refl _ wc).drew)) (show BlkIs wc.drew fb (fC f.p f.m f.c f.l f.b f.t) 46 from hF9.later ((Below.refl _ wc).drew)))
        clear hmid hF9 hw8
        obtain ⟨w9, hw9⟩ : ∃ W, wc.drew = W := ⟨_, rfl⟩
        rw [hw9] at HMD
        obtain ⟨wa, hwa⟩ : ∃ W, w9.alloc (.cells #[.int .i64 (i : Int)] 3) = W := ⟨_, rfl⟩
        obtain ⟨ga, hga⟩ : ∃ g, w9.heap.size = g := ⟨_, rfl⟩
        have hba : Below w9.heap.size w9 wa := by rw [← hwa]; exact (Below.refl _ w9).alloc (Nat.le_refl _) _
        have hnw : ∀ j u, ([.int .i64 (i : Int)] : List Value)[j]? = some u → wa.cell? ((⟨ga, 0, none⟩ : Addr).add j) = some u := by rw [← hwa, ← hga]; exact cells_new w9 3 _
        have hga1 : wa.heap.size = ga + 1 := by rw [← hwa, ← hga]; simp
        obtain ⟨v0, hl1, ho1, hput⟩ := sh_look HMD.out.1 HF.out.1 hi4 HCK.out.2.2 HMM.out
        obtain ⟨v1, hl2, ho2, hpuu⟩ := sh_look (HMD.out.1.later hba) HF.out.1 hi4 HCK.out.2.2 HMM.out
        obtain ⟨av0, cv0, rfl⟩ := ints_none ho1
        obtain ⟨av1, cv1, rfl⟩ := ints_none ho2
        obtain ⟨NV, hNV⟩ : ∃ n, (vrtI (l.take i) f.p).length = n := ⟨_, rfl⟩
        have hNVi : NV ≤ i := by rw [← hNV, HVS.out]; omega
        rw [hNV] at hl1 hl2 ho1 ho2 hput hpuu
        have hgr : w9.grownBy wa none := ⟨hba.os, hba.tape, hba.output, hba.size, fun k hk _ => hba.block k hk⟩
        have hTa : BlkIs wa (m + 1) #[v9, .map (some m)] 85 := HMD.out.1.2.1.later hba
        have hFa : BlkIs wa fb (fC f.p f.m f.c f.l f.b f.t) 46 := HMD.out.2.later hba
        have hfbm : fb ≠ m := by omega
        have HPUT := Lib.hid (show ∀ (W9 : World) (g cap : Nat), W9.ownsRow (m + 1) 3 1 (.slice (some ⟨g, 0, none⟩) (NV + 1) cap) (NV + 1) ((vrtI (l.take i) f.p).map (Value.int .i64) ++ [.int .i64 i]) → wa.grownBy W9 (Value.slice av0 NV cv0).ownBlock → ((Value.slice av0 NV cv0).ownBlock = some g ∨ wa.heap.size ≤ g) →
          ∃ w2, (Instr.mapUpdate 83 (.map (some m)) (.string ⟨f.p.toArray⟩) (.slice (some ⟨g, 0, none⟩) (NV + 1) cap)).run Tryz.prog W9 = .ok () w2 ∧ ShSt w m (m + 1) l (i + 1) v9 w2 ∧ W9.grownBy w2 (some m) ∧ BlkIs W9 fb (fC f.p f.m f.c f.l f.b f.t) 46 ∧ BlkIs W9 (m + 1) #[v9, .map (some m)] 85 ∧ BlkIs w2 fb (fC f.p f.m f.c f.l f.b f.t) 46 from fun W9 g cap h1 h2 h3 => by
            have hg9 : w9.grownBy W9 (Value.slice av0 NV cv0).ownBlock := ⟨h2.os.trans hgr.os, h2.tape.trans hgr.tape, h2.output.trans hgr.output, Nat.le_trans hgr.size h2.size, fun k hk hne => (h2.block k (Nat.lt_of_lt_of_le hk hgr.size) hne).trans (hgr.block k hk (by simp))⟩
            obtain ⟨w2, r1, r2, r3⟩ := hput W9 g cap h1 hg9 (h3.imp id (fun e => Nat.le_trans hgr.size e))
            have q1 : BlkIs W9 fb (fC f.p f.m f.c f.l f.b f.t) 46 := HMD.out.2.grown hg9 (fun e => own_blk ho1 HMD.out.2 (by decide) e)
            exact ⟨w2, r1, r2, r3, q1, HMD.out.1.2.1.grown hg9 (fun e => own_blk ho1 HMD.out.1.2.1 (by decide) e), q1.grown r3 (fun e => by injection e with e; omega)⟩)
        have HPUU := Lib.hid (show ∀ (W9 : World) (g cap : Nat), W9.ownsRow (m + 1) 3 1 (.slice (some ⟨g, 0, none⟩) (NV + 1) cap) (NV + 1) ((vrtI (l.take i) f.p).map (Value.int .i64) ++ [.int .i64 i]) → wa.grownBy W9 (Value.slice av1 NV cv1).ownBlock → ((Value.slice av1 NV cv1).ownBlock = some g ∨ wa.heap.size ≤ g) →
          ∃ w2, (Instr.mapUpdate 83 (.map (some m)) (.string ⟨f.p.toArray⟩) (.slice (some ⟨g, 0, none⟩) (NV + 1) cap)).run Tryz.prog W9 = .ok () w2 ∧ ShSt w m (m + 1) l (i + 1) v9 w2 ∧ W9.grownBy w2 (some m) ∧ BlkIs W9 fb (fC f.p f.m f.c f.l f.b f.t) 46 ∧ BlkIs W9 (m + 1) #[v9, .map (some m)] 85 ∧ BlkIs w2 fb (fC f.p f.m f.c f.l f.b f.t) 46 from fun W9 g cap h1 h2 h3 => by
            obtain ⟨w2, r1, r2, r3⟩ := hpuu W9 g cap h1 h2 h3
            have q1 : BlkIs W9 fb (fC f.p f.m f.c f.l f.b f.t) 46 := hFa.grown h2 (fun e => own_blk ho2 hFa (by decide) e)
            exact ⟨w2, r1, r2, r3, q1, hTa.grown h2 (fun e => own_blk ho2 hTa (by decide) e), q1.grown r3 (fun e => by injection e with e; omega)⟩)
        have HL1 := Lib.hid hl1; have HL2 := Lib.hid hl2
        have HO1 := Lib.hid (own_later ho1 hba); have HO2 := Lib.hid ho2
        have HWA := Lib.hid (show w9.alloc (.cells #[.int .i64 (i : Int)] 3) = wa from hwa)
        have HSA := Lib.hid (show BlkIs wa fb (fC f.p f.m f.c f.l f.b f.t) 46 ∧ ∃ v, BlkIs wa (m + 1) #[v, .map (some m)] 85 from ⟨hFa, _, hTa⟩)
        have HNW := Lib.hid hnw
        have HB16 := Lib.hid (show NV + 1 ≤ maxLen ∧ (NV + 1) * 8 ≤ 140737488355328 ∧ m + 1 ≤ wa.heap.size from ⟨by unfold maxLen; omega, by omega, by have := (Array.getElem?_eq_some_iff.1 hTa).1; omega⟩)
        have hgaw := hga
        clear hl1 hl2 ho1 ho2 hput hpuu hgr hTa hFa hba hnw hNV hNVi hwa hga1
        go_upto_region 16 with fail
        refine wp_region_eachH (fun W => BlkIs W fb (fC f.p f.m f.c f.l f.b f.t) 46 ∧ ∃ v, BlkIs W (m + 1) #[v, .map (some m)] 85) 17 (by kernel_rfl) (by kernel_rfl) ?_
        rw [hw9]
        clear hw9
        have HS : BlkIs w9 fb (fC f.p f.m f.c f.l f.b f.t) 46 ∧ ∃ v, BlkIs w9 (m + 1) #[v, .map (some m)] 85 := ⟨HMD.out.2, _, HMD.out.1.2.1⟩
        refine eachH_take (i := 0) rfl (by kernel_rfl) (by kernel_rfl) (by kernel_rfl) HS (v := ?_) ?_ ?_; rotate_left; · (intro W hS; obtain ⟨hS, vv, hT⟩ := hS; have t1 : W.cell? ⟨m + 1, 1, none⟩ = some (.map (some m)) := hT.cell 1 _ rfl; have t0 : W.cell? ⟨fb, 0, none⟩ = some (.string ⟨f.p.toArray⟩) := hS.cell 0 _ rfl; clear hS hT; go_simp; with_reducible rfl)
        refine eachH_take (i := 1) rfl (by kernel_rfl) (by kernel_rfl) (by kernel_rfl) HS (v := ?_) ?_ ?_; rotate_left; · (intro W hS; obtain ⟨hS, vv, hT⟩ := hS; have t1 : W.cell? ⟨m + 1, 1, none⟩ = some (.map (some m)) := hT.cell 1 _ rfl; have t0 : W.cell? ⟨fb, 0, none⟩ = some (.string ⟨f.p.toArray⟩) := hS.cell 0 _ rfl; clear hS hT; go_simp; with_reducible rfl)
        refine eachH_take (i := 2) rfl (by kernel_rfl) (by kernel_rfl) (by kernel_rfl) HS (v := ?_) ?_ ?_; rotate_left; · (intro W hS; obtain ⟨hS, vv, hT⟩ := hS; have t1 : W.cell? ⟨m + 1, 1, none⟩ = some (.map (some m)) := hT.cell 1 _ rfl; have t0 : W.cell? ⟨fb, 0, none⟩ = some (.string ⟨f.p.toArray⟩) := hS.cell 0 _ rfl; clear hS hT; go_simp; with_reducible rfl)
        refine eachH_take (i := 3) rfl (by kernel_rfl) (by kernel_rfl) (by kernel_rfl) HS (v := ?_) ?_ ?_; rotate_left; · (intro W hS; obtain ⟨hS, vv, hT⟩ := hS; have t1 : W.cell? ⟨m + 1, 1, none⟩ = some (.map (some m)) := hT.cell 1 _ rfl; have t0 : W.cell? ⟨fb, 0, none⟩ = some (.string ⟨f.p.toArray⟩) := hS.cell 0 _ rfl; clear hS hT; go_simp; with_reducible rfl)
        refine eachH_take (i := 4) rfl (by kernel_rfl) (by kernel_rfl) (by kernel_rfl) HS (v := ?_) ?_ ?_; rotate_left; · (intro W hS; obtain ⟨hS, vv, hT⟩ := hS; have t1 : W.cell? ⟨m + 1, 1, none⟩ = some (.map (some m)) := hT.cell 1 _ rfl; have t0 : W.cell? ⟨fb, 0, none⟩ = some (.string ⟨f.p.toArray⟩) := hS.cell 0 _ rfl; clear hS hT; go_simp; with_reducible rfl)
        refine eachH_take (i := 5) rfl (by kernel_rfl) (by kernel_rfl) (by kernel_rfl) HS (v := ?_) ?_ ?_; rotate_left; · (intro W hS; obtain ⟨hS, vv, hT⟩ := hS; have t1 : W.cell? ⟨m + 1, 1, none⟩ = some (.map (some m)) := hT.cell 1 _ rfl; have t0 : W.cell? ⟨fb, 0, none⟩ = some (.string ⟨f.p.toArray⟩) := hS.cell 0 _ rfl; clear hS hT; go_simp; with_reducible rfl)
        refine eachH_take (i := 6) rfl (by kernel_rfl) (by kernel_rfl) (by kernel_rfl) HS (v := ?_) ?_ ?_; rotate_left; · (intro W hS; obtain ⟨hS, vv, hT⟩ := hS; have t1 : W.cell? ⟨m + 1, 1, none⟩ = some (.map (some m)) := hT.cell 1 _ rfl; have t0 : W.cell? ⟨fb, 0, none⟩ = some (.string ⟨f.p.toArray⟩) := hS.cell 0 _ rfl; clear hS hT; go_simp; with_reducible rfl)
        refine eachH_take (i := 7) rfl (by kernel_rfl) (by kernel_rfl) (by kernel_rfl) HS (v := ?_) ?_ ?_; rotate_left; · (intro W hS; obtain ⟨hS, vv, hT⟩ := hS; have t1 : W.cell? ⟨m + 1, 1, none⟩ = some (.map (some m)) := hT.cell 1 _ rfl; have t0 : W.cell? ⟨fb, 0, none⟩ = some (.string ⟨f.p.toArray⟩) := hS.cell 0 _ rfl; clear hS hT; go_simp; with_reducible rfl)
        refine eachH_take (i := 8) rfl (by kernel_rfl) (by kernel_rfl) (by kernel_rfl) HS (v := ?_) ?_ ?_; rotate_left; · (intro W hS; obtain ⟨hS, vv, hT⟩ := hS; have t1 : W.cell? ⟨m + 1, 1, none⟩ = some (.map (some m)) := hT.cell 1 _ rfl; have t0 : W.cell? ⟨fb, 0, none⟩ = some (.string ⟨f.p.toArray⟩) := hS.cell 0 _ rfl; clear hS hT; go_simp; with_reducible rfl)
        refine eachH_take (i := 9) rfl (by kernel_rfl) (by kernel_rfl) (by kernel_rfl) HS (v := ?_) ?_ ?_; rotate_left; · (intro W hS; obtain ⟨hS, vv, hT⟩ := hS; have t1 : W.cell? ⟨m + 1, 1, none⟩ = some (.map (some m)) := hT.cell 1 _ rfl; have t0 : W.cell? ⟨fb, 0, none⟩ = some (.string ⟨f.p.toArray⟩) := hS.cell 0 _ rfl; clear hS hT; go_simp; with_reducible rfl)
        refine eachH_take (i := 10) rfl (by kernel_rfl) (by kernel_rfl) (by kernel_rfl) HS (v := ?_) ?_ ?_; rotate_left; · (intro W hS; obtain ⟨hS, vv, hT⟩ := hS; have t1 : W.cell? ⟨m + 1, 1, none⟩ = some (.map (some m)) := hT.cell 1 _ rfl; have t0 : W.cell? ⟨fb, 0, none⟩ = some (.string ⟨f.p.toArray⟩) := hS.cell 0 _ rfl; clear hS hT; go_simp; with_reducible rfl)
        refine eachH_take (i := 11) rfl (by kernel_rfl) (by kernel_rfl) (by kernel_rfl) HS (v := ?_) ?_ ?_; rotate_left; · (intro W hS; obtain ⟨hS, vv, hT⟩ := hS; have t1 : W.cell? ⟨m + 1, 1, none⟩ = some (.map (some m)) := hT.cell 1 _ rfl; have t0 : W.cell? ⟨fb, 0, none⟩ = some (.string ⟨f.p.toArray⟩) := hS.cell 0 _ rfl; clear hS hT; go_simp; with_reducible rfl)
        refine eachH_take (i := 13) rfl (by kernel_rfl) (by kernel_rfl) (by kernel_rfl) HS (v := ?_) ?_ ?_; rotate_left; · (intro W hS; obtain ⟨hS, vv, hT⟩ := hS; have t1 : W.cell? ⟨m + 1, 1, none⟩ = some (.map (some m)) := hT.cell 1 _ rfl; have t0 : W.cell? ⟨fb, 0, none⟩ = some (.string ⟨f.p.toArray⟩) := hS.cell 0 _ rfl; clear hS hT; go_simp; with_reducible rfl)
        refine eachH2 (i := 12) (j := 14) (by kernel_rfl) rfl rfl ?_ ?_
        · intro K hK
          have l0 := HL1.out
          go_simp
          refine hK _ _ HS ?_
          clear hK K l0
          refine eachH1 (i := 14) (by kernel_rfl) rfl ?_
          intro K hK
          go_simp
          rw [HWA.out]
          refine hK _ _ HSA.out ?_
          clear hK K
          refine eachH1 (i := 15) (by kernel_rfl) rfl ?_
          intro K hK
          rw [if_pos (by kernel_rfl)]
          refine wp_append_lies _ _ _ 53 rfl (m + 1) 3 j0 (.int .i64 0) 1 8 Tryz.underlying53 hj0 hy0 hy1 hy2 rfl (by decide) (.slice av0 NV cv0) _ _ rfl HO1.out ⟨ga, 0, none⟩ 1 1 [.int .i64 (i : Int)] rfl rfl HNW.out (by simp [Value.oneCell']) (by decide) HB16.out.1 HB16.out.2.1 HB16.out.2.2 _ rfl ?_
          intro g' cap' w10 hown hgrow hloc hlt'
          obtain ⟨w11, hrun, hst11, hgm, hS10, hT10, hF11⟩ := HPUT.out w10 g' cap' hown hgrow (hloc.imp id fun e => Nat.le_of_eq e.symm)
          have HX := Lib.hid (And.intro hst11 hF11)
          have HRUN := Lib.hid hrun
          refine hK _ _ ⟨hS10, _, hT10⟩ ?_
          clear hK K hgrow hown hloc hgm hrun hst11 hF11 hS10 hT10
          refine eachH1 (i := 16) (by kernel_rfl) rfl ?_
          intro K hK
          have u0 := HRUN.out
          go_simp
          refine hK _ _ ⟨HX.out.2, _, HX.out.1.2.1⟩ ?_
          clear hK K u0
          refine eachH_done (by kernel_rfl) ?_
          go_simp
          go_wp2
          have hwi := HWI.out
          go_roundw
          case rel => (try rw [hwi]); clear hwi; exact ⟨i + 1, v9, by go_num, hlt, by omega, HCK2.out.1, HCK2.out.2, HX.out.1⟩
          case measure => (try rw [hwi]); clear hwi; simp [intOf]; omega
        · intro K hK
          go_simp
          rw [HWA.out]
          refine hK _ _ HSA.out ?_
          clear hK K
          refine eachH1 (i := 12) (by kernel_rfl) rfl ?_
          intro K hK
          have l0 := HL2.out
          go_simp
          refine hK _ _ HSA.out ?_
          clear hK K l0
          refine eachH1 (i := 15) (by kernel_rfl) rfl ?_
          intro K hK
          rw [if_pos (by kernel_rfl)]
          refine wp_append_lies _ _ _ 53 rfl (m + 1) 3 j0 (.int .i64 0) 1 8 Tryz.underlying53 hj0 hy0 hy1 hy2 rfl (by decide) (.slice av1 NV cv1) _ _ rfl HO2.out ⟨ga, 0, none⟩ 1 1 [.int .i64 (i : Int)] rfl rfl HNW.out (by simp [Value.oneCell']) (by decide) HB16.out.1 HB16.out.2.1 HB16.out.2.2 _ rfl ?_
          intro g' cap' w10 hown hgrow hloc hlt'
          obtain ⟨w11, hrun, hst11, hgm, hS10, hT10, hF11⟩ := HPUU.out w10 g' cap' hown hgrow (hloc.imp id fun e => Nat.le_of_eq e.symm)
          have HX := Lib.hid (And.intro hst11 hF11)
          have HRUN := Lib.hid hrun
          refine hK _ _ ⟨hS10, _, hT10⟩ ?_
          clear hK K hgrow hown hloc hgm hrun hst11 hF11 hS10 hT10
          refine eachH1 (i := 16) (by kernel_rfl) rfl ?_
          intro K hK
          have u0 := HRUN.out
          go_simp
          refine hK _ _ ⟨HX.out.2, _, HX.out.1.2.1⟩ ?_
          clear hK K u0
          refine eachH_done (by kernel_rfl) ?_
          go_simp
          go_wp2
          have hwi := HWI.out
          go_roundw
          case rel => (try rw [hwi]); clear hwi; exact ⟨i + 1, v9, by go_num, hlt, by omega, HCK2.out.1, HCK2.out.2, HX.out.1⟩
          case measure => (try rw [hwi]); clear hwi; simp [intOf]; omega
end Go.Proofs.YtpdbejeiceodkaaGreatDoor
