/- The walk of turnpikelaw18.HandleRefers: true. Conditions: texts and values are small. -/
import Derived.Test.YtdlpbpikhmciaaaGreatDoorHdW
import Derived.Test.YtdlpbpikhmciaaaGreatDoorHdL
import Derived.Test.YtdlpbpikhmciaaaGreatDoorApO
import Derived.Test.YtdlpbpikhmciaaaGreatDoorRHdR
import Derived.BigQuiet
import Derived.Deep.QuietTactic
namespace Go.Proofs.YtdlpbpikhmciaaaGreatDoor
open Go.RowKit
set_option linter.unusedSimpArgs false
set_option linter.unusedVariables false
set_option maxRecDepth 1000000
theorem parsV_len (l : List Par) : (parsV l).length = l.length * 3 := by
  induction l with
  | nil => rfl
  | cons p r ih =>
    have e : parsV (p :: r) = parV p ++ parsV r := rfl
    rw [e, List.length_append, ih, List.length_cons]
    show 3 + _ = _
    omega
theorem parsV_one (l : List Par) : ∀ u ∈ parsV l, u.oneCell' = true := by
  intro u hu
  obtain ⟨p, _, hp⟩ := List.mem_flatMap.1 hu
  simp only [parV, List.mem_cons, List.not_mem_nil, or_false] at hp
  rcases hp with rfl | rfl | rfl <;> rfl
theorem addG (b o j : Nat) : (⟨b, o, none⟩ : Addr).add j = ⟨b, o + j, none⟩ := by unfold Addr.add; split <;> simp_all
theorem parAt_news {w : World} {ad : Addr} {l : List Par} (h : ParAt w (some ad) l) : ∀ j u, (parsV l)[j]? = some u → w.cell? (ad.add j) = some u := by
  intro j u hj
  have hlt := (List.getElem?_eq_some_iff.1 hj).1
  rw [parsV_len] at hlt
  obtain ⟨i, r, hi, hr, rfl⟩ : ∃ i r, i < l.length ∧ r < 3 ∧ j = i * 3 + r := ⟨j / 3, j % 3, by omega, by omega, by omega⟩
  have hp : l[i]? = some (l[i]'hi) := List.getElem?_eq_getElem hi
  obtain ⟨b, o, e, _, c0, c1, c2⟩ := h i _ hp
  injection e with e
  subst e
  obtain ⟨g0, g1, g2⟩ := parsV_get l i _ hp
  rw [addG]
  match r, hr with
  | 0, _ =>
    rw [Nat.add_zero, g0] at hj
    rw [show o + (i * 3 + 0) = o + i * 3 by omega, c0, hj]
  | 1, _ =>
    rw [g1] at hj
    rw [show o + (i * 3 + 1) = o + i * 3 + 1 by omega, c1, hj]
  | 2, _ =>
    rw [g2] at hj
    rw [show o + (i * 3 + 2) = o + i * 3 + 2 by omega, c2, hj]
def spareL : List UInt8 := [115, 112, 97, 114, 101]
theorem parAt_row {w : World} {base g cap n : Nat} {T : TypeId} {l : List Par} {xs : List Value} (h : w.ownsRow base T 3 (.slice (some ⟨g, 0, none⟩) n cap) n (parsV l ++ xs)) : ParAt w (some ⟨g, 0, none⟩) l := by
  have hlt : g < w.heap.size := (h.lt g rfl).2
  have hc := h.cells (g := g) rfl
  intro i p hp
  have hi := (List.getElem?_eq_some_iff.1 hp).1
  have hgt := parsV_get l i p hp
  refine ⟨g, 0, rfl, hlt, ?_, ?_, ?_⟩
  · have := hc (i * 3) _ (by rw [List.getElem?_append_left (by rw [parsV_len]; omega)]; exact hgt.1); rwa [addG] at this
  · have := hc (i * 3 + 1) _ (by rw [List.getElem?_append_left (by rw [parsV_len]; omega)]; exact hgt.2.1); rwa [addG] at this
  · have := hc (i * 3 + 2) _ (by rw [List.getElem?_append_left (by rw [parsV_len]; omega)]; exact hgt.2.2); rwa [addG] at this
theorem spare_cell {w : World} {base g cap n : Nat} {T : TypeId} {l : List Par} {a b c : Value} (h : w.ownsRow base T 3 (.slice (some ⟨g, 0, none⟩) n cap) n (parsV l ++ [a, b, c])) : w.cell? ⟨g, l.length * 3, none⟩ = some a := by
  have hc := h.cells (g := g) rfl
  have := hc (l.length * 3) a (by rw [List.getElem?_append_right (by rw [parsV_len]; omega), parsV_len, Nat.sub_self]; rfl)
  rwa [addG, Nat.zero_add] at this
theorem infoA18 : (Tryz.prog.info? 33).map (fun i => (i.zero, i.size, i.bytes)) = some (some (.agg #[.string ByteArray.empty, .string ByteArray.empty, .bool false]), 3, 40) := by kernel_rfl
theorem infoA18_parts : ∃ i, Tryz.prog.info? 33 = some i ∧ i.zero = some (.agg #[.string ByteArray.empty, .string ByteArray.empty, .bool false]) ∧ i.size = 3 ∧ i.bytes = 40 := by
  obtain ⟨i, hi, he⟩ := Option.map_eq_some_iff.1 infoA18
  simp only [Prod.mk.injEq] at he
  exact ⟨i, hi, he.1, he.2.1, he.2.2⟩
theorem bd_18 (n : Nat) (h : n ≤ 1048576) : 0 + n ≤ maxLen ∧ (0 + n) * 40 ≤ 140737488355328 ∧ n + 1 ≤ maxLen ∧ (n + 1) * 40 ≤ 140737488355328 := by unfold maxLen; omega
set_option maxHeartbeats 8000000 in
theorem handleRefers_any (s : ByteArray) (v : Value) (l : List Par) (w : World) (hs : s.size ≤ 1048576) (hN : totP l + l.length ≤ 1048576) (h : ParsIn w v l) :
    Calls Tryz.prog 4 #[.string s, v] w fun e w' => e = .returned (.bool true) ∧ Below w.heap.size w w' := by
  obtain ⟨ao, cap, rfl, hat⟩ := h
  obtain ⟨i0, hi0, hz0, hz1, hz2⟩ := infoA18_parts
  have HAT := Lib.hid hat; clear hat
  go_enter Tryz.func4, Tryz.ntmps4
  go_wp2_with fail
  refine (awake18_any w).mono ?_
  rintro e w1 ⟨rfl, hb1⟩
  obtain ⟨B, hB⟩ : ∃ B, w1.heap.size = B := ⟨_, rfl⟩
  have HB1 := Lib.hid (And.intro hb1 hB)
  have hat1 := HAT.out.below hb1
  have hr0 : (w1.alloc (.cells #[] 33)).ownsRow B 33 3 (.slice (some ⟨B, 0, none⟩) 0 0) 0 [] := by rw [← hB]; exact World.ownsRow_made w1 #[] 0 (Nat.le_refl _) (by simp) rfl
  have HR0 := Lib.hid hr0
  have HA1 := Lib.hid hat1
  clear hb1 hr0 hat1
  have hno : ao = none → l.length = 0 := fun e => by
    cases hl : l with
    | nil => rfl
    | cons p r =>
      obtain ⟨b, o, e2, _⟩ := HAT.out 0 p (by rw [hl]; rfl)
      rw [e] at e2
      cases e2
  have hn1 : ∀ ad, ao = some ad → ∀ j u, (parsV l)[j]? = some u → (w1.alloc (.cells #[] 33)).cell? (ad.add j) = some u := fun ad e => parAt_news (by rw [← e]; exact HA1.out.below (below1 w1 (.cells #[] 33)))
  go_wp2_with (at_builtin; refine wpList_append_opt rfl _ _ 31 rfl B 33 i0 (.agg #[.string ByteArray.empty, .string ByteArray.empty, .bool false]) 3 40 Tryz.underlying31 hi0 hz0 hz1 hz2 rfl (by decide) B 0 0 _ rfl HR0.out ao l.length cap (parsV l) rfl (parsV_len l) hno hn1 (parsV_one l) ?d1 ?d2 ?d3 ?_)
  case d1 => exact (bd_18 l.length (by omega)).1
  case d2 => exact (bd_18 l.length (by omega)).2.1
  case d3 => simp; omega
  intro v1 w2 ho2 hg2
  have hb2 : Below w.heap.size w w2 := (HB1.out.1.alloc HB1.out.1.size _).grown hg2 (by have := HB1.out.1.size; simp; omega) (fun j hj => by have : B = j := (by simpa using hj); have := HB1.out.1.size; omega)
  have hB2 : B ≤ w2.heap.size := by have := hg2.size; simp at this; omega
  have HO2 := Lib.hid ho2; have HB2 := Lib.hid (And.intro hb2 hB2)
  clear ho2 hg2 hb2 hB2 hn1 hno
  go_wp2_with (at_builtin; refine wpList_append_own _ rfl _ _ 31 rfl B 33 i0 (.agg #[.string ByteArray.empty, .string ByteArray.empty, .bool false]) 3 40 Tryz.underlying31 hi0 hz0 hz1 hz2 rfl (by decide) _ _ _ rfl (HO2.out.alloc _) ⟨w2.heap.size, 0, none⟩ 1 1 [.string ⟨spareL.toArray⟩, .string ⟨#[]⟩, .bool false] rfl rfl (cells_new _ _ _) (by simp [Value.oneCell']) ?d1 ?d2 ?d3 ?_)
  case d1 => exact (bd_18 l.length (by omega)).2.2.1
  case d2 => exact (bd_18 l.length (by omega)).2.2.2
  case d3 => have := HB2.out.2; simp; omega
  intro v2 w3 ho3 hg3 _
  have hb3 : Below w.heap.size w w3 := (HB2.out.1.alloc HB2.out.1.size _).grown hg3 (by have := HB2.out.1.size; simp; omega) (fun j hj => by have := (HO2.out.lt j hj).1; have := HB1.out.1.size; omega)
  obtain ⟨g, cap2, rfl⟩ : ∃ g cap2, v2 = .slice (some ⟨g, 0, none⟩) (l.length + 1) cap2 := by
    rcases ho3.2 with ⟨_, h0⟩ | ⟨g, cap, cur, hv, _⟩
    · omega
    · exact ⟨g, cap, hv⟩
  have hcap : l.length + 1 ≤ cap2 := by
    rcases ho3.2 with ⟨hv, _⟩ | ⟨g', cap', cur, hv, _, _, hc, _⟩
    · cases hv
    · injection hv with _ _ hv; subst hv; exact hc
  have HO3 := Lib.hid ho3; have HB3 := Lib.hid hb3
  have k0 : (0 : Int) ≤ (l.length : Int) := Int.natCast_nonneg _
  have k1 : (l.length : Int) ≤ (cap2 : Int) := by omega
  clear ho3 hg3 hb3
  have hO := orefer_any s (.slice (some ⟨g, 0, none⟩) l.length cap2) l w3 hs hN ⟨_, cap2, rfl, parAt_row HO3.out⟩
  have hRR := fun v' W h => rrefer_any s v' l W hs hN h
  obtain ⟨X1, hX1⟩ : ∃ X, (rfT l s.data.toList).1 = X := ⟨_, rfl⟩
  obtain ⟨X2, hX2⟩ : ∃ X, (rfT l s.data.toList).2 = X := ⟨_, rfl⟩
  rw [hX1, hX2] at hO hRR
  have HOR := Lib.hid hO; have HRR := Lib.hid hRR
  clear hO hRR hX1 hX2
  go_wp2_with fail
  refine (HOR.out).mono ?_
  rintro e w4 ⟨rfl, hb4⟩
  have HB4 := Lib.hid (HB3.out.trans (hb4.mono HB3.out.size))
  have HO4 := Lib.hid (own_later HO3.out hb4)
  clear hb4
  have hP4 := params18_any (.slice ao l.length cap) l w4 (by omega) ⟨_, cap, rfl, HAT.out.below HB4.out⟩
  have HP4 := Lib.hid hP4
  clear hP4
  go_wp2_with fail
  refine (HP4.out).mono ?_
  rintro e w5 ⟨v5, rfl, ho5, hb5⟩
  have hR5 := HRR.out v5 w5 (parsIn_own ho5)
  have HR5 := Lib.hid hR5
  have HB5 := Lib.hid (HB4.out.trans (hb5.mono HB4.out.size))
  have HO5 := Lib.hid (own_later HO4.out hb5)
  clear hb5 ho5 hR5
  go_wp2_with fail
  refine (HR5.out).mono ?_
  rintro e w6 ⟨rfl, hb6⟩
  have HB6 := Lib.hid (HB5.out.trans (hb6.mono HB5.out.size))
  have HO6 := Lib.hid (own_later HO5.out hb6)
  clear hb6
  go_wp2
  go_loopw [38] (fun iv wr => ∃ i : Nat, iv = .int .i64 i ∧ i ≤ l.length ∧ Below w6.heap.size w6 wr) (fun iv _ => l.length - (intOf iv).toNat)
  case atStart => exact ⟨0, rfl, Nat.zero_le _, Below.refl _ _⟩
  case round =>
    obtain ⟨i, rfl, hi, hb⟩ := hrel
    have j0 : (0 : Int) ≤ (i : Int) := Int.natCast_nonneg _
    by_cases hlt : i < l.length
    · obtain ⟨p, hp⟩ : ∃ p, l[i]? = some p := ⟨_, List.getElem?_eq_getElem hlt⟩
      have hbw := HB6.out.trans (hb.mono HB6.out.size)
      obtain ⟨ga, oa, ea, hga, c0, c1, c2⟩ := HAT.out.below hbw i p hp
      subst ea
      obtain ⟨gb, ob, eb, hgb, d0, d1, d2⟩ := parAt_row (own_later HO6.out hb) i p hp
      injection eb with eb
      injection eb with e1 e2 _
      subst e1
      subst e2
      rw [Nat.zero_add] at d0 d1 d2
      have j1 : (i : Int) < (l.length : Int) := by omega
      have j2 : (i : Int) < (l.length : Int) + 1 := by omega
      have hwi := wrap64_small i (by omega)
      obtain ⟨W7, hW7⟩ : ∃ W, wr.alloc (.cells #[.string ⟨p.1.toArray⟩, .string ⟨p.2.1.toArray⟩, .bool p.2.2] 33) = W := ⟨_, rfl⟩
      obtain ⟨fb, hfb⟩ : ∃ fb, wr.heap.size = fb := ⟨_, rfl⟩
      have hab : Below wr.heap.size wr W7 := by rw [← hW7]; exact below1 _ _
      have hF7 : BlkIs W7 fb #[.string ⟨p.1.toArray⟩, .string ⟨p.2.1.toArray⟩, .bool p.2.2] 33 := by rw [← hW7, ← hfb]; exact blkIs_new _ _ _
      have HW7 := Lib.hid hW7; have HW := Lib.hid hwi; have HB := Lib.hid (hb.trans (hab.mono hb.size)); have HP := Lib.hid hp
      have f0 := mx_later (B := 0) d0 hab
      have f1 := mx_later (B := 0) d1 hab
      have f2 := mx_later (B := 0) d2 hab
      have x0 := hF7.cell 0 _ rfl
      have x1 := hF7.cell 1 _ rfl
      have x2 := hF7.cell 2 _ rfl
      clear hW7 hwi hb hbw hab hF7 hp d0 d1 d2
      go_upto_region 9 with fail
      rw [HW7.out]
      refine wp_region_still_lit (by kernel_rfl) (by kernel_rfl) ?_
      repeat still_step
      refine wpStill_nil ?_
      go_wp2
      have hwi := HW.out
      go_roundw
      case rel => (try rw [hwi]); clear hwi; exact ⟨i + 1, by go_num, hlt, HB.out.drew⟩
      case measure => (try rw [hwi]); clear hwi; simp [intOf]; omega
    · obtain rfl : i = l.length := by omega
      have hd : decide (l.length < l.length) = false := decide_eq_false (Nat.lt_irrefl _)
      have hsp := spare_cell (own_later HO6.out hb)
      have HBE := Lib.hid (HB6.out.trans (hb.mono HB6.out.size))
      have k2 : (l.length : Int) < (l.length : Int) + 1 := by omega
      clear hb
      go_wp2
      go_ret
      exact ⟨by first | rfl | simp, HBE.out⟩
end Go.Proofs.YtdlpbpikhmciaaaGreatDoor
