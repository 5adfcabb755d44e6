/- HdL, Joi, HdS: texts of the seat, one behind the other (a claim holds at most sixty). Conditions: each theorem names its own. -/
import Derived.Test.YtdlpbpikhmciaaaGreatDoorPk09
import Derived.Test.YtdlpbpikhmciaaaGreatDoorPa02
import Derived.Test.YtdlpbpikhmciaaaGreatDoorPk00
import Derived.Test.YtdlpbpikhmciaaaGreatDoorPk05
namespace Go.Proofs.YtdlpbpikhmciaaaGreatDoor
open Go.RowKit
set_option linter.unusedSimpArgs false
set_option linter.unusedVariables false
set_option maxRecDepth 1000000
def fldV (p : Fld) : List Value := [.string ⟨p.1.toArray⟩, .string ⟨p.2.toArray⟩]
def fldsV (l : List Fld) : List Value := l.flatMap fldV
def totF : List Fld → Nat
  | [] => 0
  | p :: r => p.1.length + p.2.length + totF r
theorem totF_get (l : List Fld) (i : Nat) (p : Fld) (h : l[i]? = some p) : p.1.length + p.2.length ≤ totF l := by
  induction l generalizing i with
  | nil => simp at h
  | cons q r ih =>
    cases i with
    | zero => obtain rfl : q = p := (by simpa using h); simp only [totF]; omega
    | succ i => have := ih i (by simpa using h); simp only [totF]; omega
theorem fldsV_snoc (l : List Fld) (p : Fld) : fldsV (l ++ [p]) = fldsV l ++ fldV p := by simp [fldsV]
theorem fldsV_take (l : List Fld) (i : Nat) (p : Fld) (h : l[i]? = some p) : fldsV (l.take (i + 1)) = fldsV (l.take i) ++ [.string ⟨p.1.toArray⟩, .string ⟨p.2.toArray⟩] := by
  rw [List.take_add_one, h, Option.toList_some, fldsV_snoc]; rfl
theorem fldsV_len (l : List Fld) : (fldsV l).length = l.length * 2 := by
  induction l with
  | nil => rfl
  | cons p r ih =>
    have e : fldsV (p :: r) = fldV p ++ fldsV r := rfl
    rw [e, List.length_append, ih, List.length_cons]
    show 2 + _ = _
    omega
theorem fldsV_get (l : List Fld) (i : Nat) (p : Fld) (h : l[i]? = some p) : (fldsV l)[i * 2]? = some (.string ⟨p.1.toArray⟩) ∧ (fldsV l)[i * 2 + 1]? = some (.string ⟨p.2.toArray⟩) := by
  induction l generalizing i with
  | nil => simp at h
  | cons q r ih =>
    cases i with
    | zero =>
      obtain rfl : q = p := by simpa using h
      exact ⟨rfl, rfl⟩
    | succ i =>
      have := ih i (by simpa using h)
      have e : fldsV (q :: r) = fldV q ++ fldsV r := rfl
      have hl : (fldV q).length = 2 := rfl
      rw [e]
      refine ⟨?_, ?_⟩
      · rw [List.getElem?_append_right (by omega), hl, show (i + 1) * 2 - 2 = i * 2 from by omega]; exact this.1
      · rw [List.getElem?_append_right (by omega), hl, show (i + 1) * 2 + 1 - 2 = i * 2 + 1 from by omega]; exact this.2
def FldAt (w : World) (ao : Option Addr) (l : List Fld) : Prop := ∀ i p, l[i]? = some p → ∃ b o, ao = some ⟨b, o, none⟩ ∧ b < w.heap.size ∧
  w.cell? ⟨b, o + i * 2, none⟩ = some (.string ⟨p.1.toArray⟩) ∧ w.cell? ⟨b, o + i * 2 + 1, none⟩ = some (.string ⟨p.2.toArray⟩)
def FldsIn (w : World) (v : Value) (l : List Fld) : Prop := ∃ ao cap, v = .slice ao l.length cap ∧ FldAt w ao l
theorem FldAt.below {w w' : World} {ao : Option Addr} {l : List Fld} (h : FldAt w ao l) (hb : Below w.heap.size w w') : FldAt w' ao l := fun i p hp => by
  obtain ⟨b, o, e, lt, c0, c1⟩ := h i p hp
  exact ⟨b, o, e, Nat.lt_of_lt_of_le lt hb.size, by rw [hb.cell (p := ⟨b, o + i * 2, none⟩) lt]; exact c0, by rw [hb.cell (p := ⟨b, o + i * 2 + 1, none⟩) lt]; exact c1⟩
theorem FldsIn.below {w w' : World} {v : Value} {l : List Fld} (h : FldsIn w v l) (hb : Below w.heap.size w w') : FldsIn w' v l := by
  obtain ⟨ao, cap, rfl, h⟩ := h
  exact ⟨ao, cap, rfl, h.below hb⟩
theorem fldAt_own {w : World} {base : Nat} {T : TypeId} {v : Value} {l : List Fld} {n : Nat} (h : w.ownsRow base T 2 v n (fldsV l)) : ∃ ao cap, v = .slice ao n cap ∧ FldAt w ao l := by
  rcases h.2 with ⟨rfl, h0⟩ | ⟨g, cap, cur, rfl, hb, hg, _⟩
  · subst h0
    have hl := h.1
    rw [fldsV_len] at hl
    obtain rfl := List.eq_nil_of_length_eq_zero (show l.length = 0 by omega)
    exact ⟨none, 0, rfl, fun i p hp => by simp at hp⟩
  · have hlt : g < w.heap.size := (Array.getElem?_eq_some_iff.1 hg).1
    have hc := h.cells (g := g) rfl
    refine ⟨_, cap, rfl, fun i p hp => ⟨g, 0, rfl, hlt, ?_⟩⟩
    have hgt := fldsV_get l i p hp
    have e : ∀ j, (⟨g, 0, none⟩ : Addr).add j = ⟨g, j, none⟩ := fun j => by unfold Addr.add; split <;> simp_all
    rw [Nat.zero_add]
    refine ⟨?_, ?_⟩
    · have := hc _ _ hgt.1; rwa [e] at this
    · have := hc _ _ hgt.2; rwa [e] at this
theorem fldsIn_own {w : World} {base : Nat} {T : TypeId} {v : Value} {l : List Fld} (h : w.ownsRow base T 2 v l.length (fldsV l)) : FldsIn w v l := fldAt_own h
theorem bd_l18 (i n : Nat) (h : i < n) (hn : n ≤ 4194304) : i + 1 ≤ maxLen ∧ (i + 1) * 40 ≤ 140737488355328 ∧ (i + 1) * 32 ≤ 140737488355328 ∧ i ≤ 2199023255552 := by unfold maxLen; omega
theorem infoR18 : (Tryz.prog.info? 91).map (fun i => (i.zero, i.size, i.bytes)) = some (some (.agg #[.string ByteArray.empty, .string ByteArray.empty, .bool false]), 3, 40) := by kernel_rfl
theorem infoR18_parts : ∃ i, Tryz.prog.info? 91 = some i ∧ i.zero = some (.agg #[.string ByteArray.empty, .string ByteArray.empty, .bool false]) ∧ i.size = 3 ∧ i.bytes = 40 := by
  obtain ⟨i, hi, he⟩ := Option.map_eq_some_iff.1 infoR18
  simp only [Prod.mk.injEq] at he
  exact ⟨i, hi, he.1, he.2.1, he.2.2⟩
set_option maxHeartbeats 4000000 in
theorem params18_any (v : Value) (l : List Par) (w : World) (hN : l.length ≤ 4194304) (h : ParsIn w v l) :
    Calls Tryz.prog 14 #[v] w fun e w' => ∃ v', e = .returned v' ∧ w'.ownsRow w.heap.size 91 3 v' l.length (parsV l) ∧ Below w.heap.size w w' := by
  obtain ⟨ao, cap, rfl, hat⟩ := h
  obtain ⟨i0, hi0, hz0, hz1, hz2⟩ := infoR18_parts
  obtain ⟨L, hL⟩ : ∃ L, w.heap.size = L := ⟨_, rfl⟩
  have HL := Lib.hid hL
  have HB0 := Lib.hid (show Below L w w from Below.refl _ _)
  have HATW := Lib.hid hat; clear hat hL
  go_enter Tryz.func14, Tryz.ntmps14
  go_wp2
  go_loopw [8, 3] (fun iv v wr => ∃ i : Nat, iv = .int .i64 i ∧ i ≤ l.length ∧ wr.ownsRow L 91 3 v i (parsV (l.take i)) ∧ Below L w wr)
    (fun iv _ _ => l.length - (intOf iv).toNat)
  case atStart => exact ⟨0, rfl, Nat.zero_le _, World.ownsRow_nil _ _ _ _, HB0.out⟩
  case round =>
    obtain ⟨i, rfl, hi, hown, hb⟩ := hrel
    by_cases hlt : i < l.length
    · obtain ⟨p, hp⟩ : ∃ p, l[i]? = some p := ⟨_, List.getElem?_eq_getElem hlt⟩
      have hb' : Below w.heap.size w wr := by rw [HL.out]; exact hb
      obtain ⟨g, o, rfl, hg, c0, c1, c2⟩ := HATW.out.below hb' i p hp
      have k0 : (0 : Int) ≤ (i : Int) := Int.natCast_nonneg _
      have k1 : (i : Int) < (l.length : Int) := by omega
      have hbd := bd_l18 i l.length hlt hN
      have hwi := wrap64_small i hbd.2.2.2
      have hsn := parsV_take l i p hp
      obtain ⟨W3, hW3⟩ : ∃ W3, wr.alloc (.cells #[.string ⟨p.1.toArray⟩, .string ⟨p.2.1.toArray⟩, .bool p.2.2] 33) = W3 := ⟨_, rfl⟩
      obtain ⟨fb, hfb⟩ : ∃ fb, wr.heap.size = fb := ⟨_, rfl⟩
      have hbL := bsz hb HL
      have hF3 : BlkIs W3 fb #[.string ⟨p.1.toArray⟩, .string ⟨p.2.1.toArray⟩, .bool p.2.2] 33 := by rw [← hW3, ← hfb]; exact blkIs_new _ _ _
      have hO3 : W3.ownsRow L 91 3 u3 i (parsV (l.take i)) := by rw [← hW3]; exact hown.alloc _
      have hB3 : Below L w W3 := by rw [← hW3]; exact hb.alloc hbL _
      have hz3 : L ≤ W3.heap.size := by rw [← hW3]; simp; omega
      have HW3 := Lib.hid hW3; have HW := Lib.hid hwi; have HSN := Lib.hid hsn; have HO := Lib.hid (And.intro hO3 hB3); have HF3 := Lib.hid hF3
      clear hW3 hwi hsn hown hb hb' hF3 hO3 hB3 hbL
      go_upto_region 5 with fail
      rw [HW3.out]
      clear c0 c1 c2
      have e0 := HF3.out.cell 0 _ rfl
      have e1 := HF3.out.cell 1 _ rfl
      have e2 := HF3.out.cell 2 _ rfl
      go_wp2_with (at_builtin; refine wpList_append_own _ rfl _ _ 38 rfl L 91 i0 (.agg #[.string ByteArray.empty, .string ByteArray.empty, .bool false]) 3 40 Tryz.underlying38 hi0 hz0 hz1 hz2 rfl (by decide) _ _ _ rfl (HO.out.1.alloc _) ⟨W3.heap.size, 0, none⟩ 1 1 [.string ⟨p.1.toArray⟩, .string ⟨p.2.1.toArray⟩, .bool p.2.2] rfl rfl (cells_new _ _ _) (by simp [Value.oneCell']) hbd.1 hbd.2.1 ?d0 ?_)
      case d0 => (try simp); omega
      intro v1 w7 hI1 hg7 _
      have hb8 := (HO.out.2.alloc hz3 _).grown hg7 (by simp; omega) (fun j hj => (HO.out.1.lt j hj).1)
      have HI1 := Lib.hid hI1; have HB8 := Lib.hid hb8
      clear hI1 hb8 hg7
      go_wp2
      have hwi := HW.out
      go_roundw
      case rel => (try rw [hwi]); clear hwi; exact ⟨i + 1, by go_num, hlt, by rw [HSN.out]; exact HI1.out, HB8.out⟩
      case measure => (try rw [hwi]); clear hwi; simp [intOf]; omega
    · obtain rfl : i = l.length := by omega
      have hd : decide (l.length < l.length) = false := decide_eq_false (Nat.lt_irrefl _)
      rw [List.take_length] at hown
      have HO := Lib.hid hown; have HB := Lib.hid hb
      clear hown hb
      go_wp2
      go_ret
      rw [HL.out]
      exact ⟨_, rfl, HO.out, HB.out⟩
theorem infoF18 : (Tryz.prog.info? 59).map (fun i => (i.zero, i.size, i.bytes)) = some (some (.agg #[.string ByteArray.empty, .string ByteArray.empty]), 2, 32) := by kernel_rfl
theorem infoF18_parts : ∃ i, Tryz.prog.info? 59 = some i ∧ i.zero = some (.agg #[.string ByteArray.empty, .string ByteArray.empty]) ∧ i.size = 2 ∧ i.bytes = 32 := by
  obtain ⟨i, hi, he⟩ := Option.map_eq_some_iff.1 infoF18
  simp only [Prod.mk.injEq] at he
  exact ⟨i, hi, he.1, he.2.1, he.2.2⟩
set_option maxHeartbeats 4000000 in
theorem fields18_any (v : Value) (l : List Fld) (w : World) (hN : l.length ≤ 4194304) (h : FldsIn w v l) :
    Calls Tryz.prog 18 #[v] w fun e w' => ∃ v', e = .returned v' ∧ w'.ownsRow w.heap.size 59 2 v' l.length (fldsV l) ∧ Below w.heap.size w w' := by
  obtain ⟨ao, cap, rfl, hat⟩ := h
  obtain ⟨i0, hi0, hz0, hz1, hz2⟩ := infoF18_parts
  obtain ⟨L, hL⟩ : ∃ L, w.heap.size = L := ⟨_, rfl⟩
  have HL := Lib.hid hL
  have HB0 := Lib.hid (show Below L w w from Below.refl _ _)
  have HATW := Lib.hid hat; clear hat hL
  go_enter Tryz.func18, Tryz.ntmps18
  go_wp2
  go_loopw [8, 3] (fun iv v wr => ∃ i : Nat, iv = .int .i64 i ∧ i ≤ l.length ∧ wr.ownsRow L 59 2 v i (fldsV (l.take i)) ∧ Below L w wr)
    (fun iv _ _ => l.length - (intOf iv).toNat)
  case atStart => exact ⟨0, rfl, Nat.zero_le _, World.ownsRow_nil _ _ _ _, HB0.out⟩
  case round =>
    obtain ⟨i, rfl, hi, hown, hb⟩ := hrel
    by_cases hlt : i < l.length
    · obtain ⟨p, hp⟩ : ∃ p, l[i]? = some p := ⟨_, List.getElem?_eq_getElem hlt⟩
      have hb' : Below w.heap.size w wr := by rw [HL.out]; exact hb
      obtain ⟨g, o, rfl, hg, c0, c1⟩ := HATW.out.below hb' i p hp
      have k0 : (0 : Int) ≤ (i : Int) := Int.natCast_nonneg _
      have k1 : (i : Int) < (l.length : Int) := by omega
      have hbd := bd_l18 i l.length hlt hN
      have hwi := wrap64_small i hbd.2.2.2
      have hsn := fldsV_take l i p hp
      obtain ⟨W3, hW3⟩ : ∃ W3, wr.alloc (.cells #[.string ⟨p.1.toArray⟩, .string ⟨p.2.toArray⟩] 43) = W3 := ⟨_, rfl⟩
      obtain ⟨fb, hfb⟩ : ∃ fb, wr.heap.size = fb := ⟨_, rfl⟩
      have hbL := bsz hb HL
      have hF3 : BlkIs W3 fb #[.string ⟨p.1.toArray⟩, .string ⟨p.2.toArray⟩] 43 := by rw [← hW3, ← hfb]; exact blkIs_new _ _ _
      have hO3 : W3.ownsRow L 59 2 u3 i (fldsV (l.take i)) := by rw [← hW3]; exact hown.alloc _
      have hB3 : Below L w W3 := by rw [← hW3]; exact hb.alloc hbL _
      have hz3 : L ≤ W3.heap.size := by rw [← hW3]; simp; omega
      have HW3 := Lib.hid hW3; have HW := Lib.hid hwi; have HSN := Lib.hid hsn; have HO := Lib.hid (And.intro hO3 hB3); have HF3 := Lib.hid hF3
      clear hW3 hwi hsn hown hb hb' hF3 hO3 hB3 hbL
      go_upto_region 5 with fail
      rw [HW3.out]
      clear c0 c1
      have e0 := HF3.out.cell 0 _ rfl
      have e1 := HF3.out.cell 1 _ rfl
      go_wp2_with (at_builtin; refine wpList_append_own _ rfl _ _ 48 rfl L 59 i0 (.agg #[.string ByteArray.empty, .string ByteArray.empty]) 2 32 Tryz.underlying48 hi0 hz0 hz1 hz2 rfl (by decide) _ _ _ rfl (HO.out.1.alloc _) ⟨W3.heap.size, 0, none⟩ 1 1 [.string ⟨p.1.toArray⟩, .string ⟨p.2.toArray⟩] rfl rfl (cells_new _ _ _) (by simp [Value.oneCell']) hbd.1 hbd.2.2.1 ?d0 ?_)
      case d0 => (try simp); omega
      intro v1 w7 hI1 hg7 _
      have hb8 := (HO.out.2.alloc hz3 _).grown hg7 (by simp; omega) (fun j hj => (HO.out.1.lt j hj).1)
      have HI1 := Lib.hid hI1; have HB8 := Lib.hid hb8
      clear hI1 hb8 hg7
      go_wp2
      have hwi := HW.out
      go_roundw
      case rel => (try rw [hwi]); clear hwi; exact ⟨i + 1, by go_num, hlt, by rw [HSN.out]; exact HI1.out, HB8.out⟩
      case measure => (try rw [hwi]); clear hwi; simp [intOf]; omega
    · obtain rfl : i = l.length := by omega
      have hd : decide (l.length < l.length) = false := decide_eq_false (Nat.lt_irrefl _)
      rw [List.take_length] at hown
      have HO := Lib.hid hown; have HB := Lib.hid hb
      clear hown hb
      go_wp2
      go_ret
      rw [HL.out]
      exact ⟨_, rfl, HO.out, HB.out⟩
end Go.Proofs.YtdlpbpikhmciaaaGreatDoor
namespace Go.Proofs.YtdlpbpikhmciaaaGreatDoor
open Go.RowKit
set_option linter.unusedSimpArgs false
set_option linter.unusedVariables false
set_option maxRecDepth 1000000
/-- strings.Join of a row of the call's own. -/
theorem join_own {w : World} {base : Nat} {v : Value} (q : List (List UInt8)) (sep : ByteArray) (h : w.ownsRow base 9 1 v q.length (strV q)) (hN : q.length ≤ 140737488355328) (hlen : (Lib.join q sep.data.toList).length ≤ 140737488355328) :
    Calls Tryz.prog 109 #[v, .string sep] w fun e w' => e = .returned (.string ⟨(Lib.join q sep.data.toList).toArray⟩) ∧ Below w.heap.size w w' := by
  by_cases hq : q = []
  · subst hq
    have e : ∃ a c, v = .slice a 0 c := by
      rcases h.2 with ⟨rfl, _⟩ | ⟨g, cap, cur, rfl, _⟩
      · exact ⟨none, 0, rfl⟩
      · exact ⟨_, _, rfl⟩
    obtain ⟨a, c, rfl⟩ := e
    exact (Tryz.strings_Join_none a c sep w).mono fun e w' ⟨he, hw⟩ => ⟨he, hw ▸ Below.refl _ _⟩
  · have hcap : ∃ g cap, v = .slice (some ⟨g, 0, none⟩) q.length cap ∧ q.length ≤ cap ∧ g < w.heap.size := by
      have hl : 0 < q.length := List.length_pos_iff.2 hq
      rcases h.2 with ⟨_, h0⟩ | ⟨g, cap, cur, rfl, hb, hg, hnc, hcm, hcs, hct⟩
      · omega
      · exact ⟨g, cap, rfl, hnc, (Array.getElem?_eq_some_iff.1 hg).1⟩
    obtain ⟨g, cap, rfl, hc, hg⟩ := hcap
    have hmap : (q.map fun p => (⟨p.toArray⟩ : ByteArray)).map (·.data.toList) = q := by rw [List.map_map]; exact List.map_id' q
    have hl : (q.map fun p => (⟨p.toArray⟩ : ByteArray)).length = q.length := List.length_map _
    have := Tryz.strings_Join g 0 cap (q.map fun p => (⟨p.toArray⟩ : ByteArray)) sep w (fun j x hx => by
      obtain ⟨p, hp, rfl⟩ := List.getElem?_map .. ▸ hx |> Option.map_eq_some_iff.1
      have hcl := h.cells (g := g) rfl
      have := hcl j (.string ⟨p.toArray⟩) (by simp [strV, hp])
      rwa [show (⟨g, 0, none⟩ : Addr).add j = ⟨g, 0 + j, none⟩ from by unfold Addr.add; split <;> simp_all] at this) hg (by rw [hl]; exact hN) (by rw [hl]; exact hc) (by rw [hmap]; exact hlen)
    rw [hmap, hl] at this
    exact this
end Go.Proofs.YtdlpbpikhmciaaaGreatDoor
namespace Go.Proofs.YtdlpbpikhmciaaaGreatDoor
open Go.RowKit
set_option linter.unusedSimpArgs false
set_option linter.unusedVariables false
set_option maxRecDepth 1000000
def sameF (a b : List UInt8) : Bool := lowL a == lowL b
/-- The values of a name. -/
def allF (n : List UInt8) : List Fld → List (List UInt8)
  | [] => []
  | p :: r => if sameF p.1 n then p.2 :: allF n r else allF n r
theorem allF_snoc (n : List UInt8) (p : Fld) : ∀ l : List Fld, allF n (l ++ [p]) = allF n l ++ if sameF p.1 n then [p.2] else []
  | [] => by simp only [List.nil_append, allF]
  | q :: r => by
    simp only [List.cons_append, allF, allF_snoc n p r]
    split <;> simp
theorem allF_take (n : List UInt8) (l : List Fld) (i : Nat) (p : Fld) (h : l[i]? = some p) : allF n (l.take (i + 1)) = allF n (l.take i) ++ if sameF p.1 n then [p.2] else [] := by
  rw [List.take_add_one, h, Option.toList_some, allF_snoc]
theorem allF_len (n : List UInt8) : ∀ l : List Fld, (allF n l).length ≤ l.length
  | [] => Nat.le_refl _
  | p :: r => by
    have := allF_len n r
    simp only [allF, List.length_cons]
    split <;> (try simp only [List.length_cons]) <;> omega
theorem join_cons2 (a b : List UInt8) (r : List (List UInt8)) : Lib.join (a :: b :: r) [44, 32] = a ++ ([44, 32] ++ Lib.join (b :: r) [44, 32]) := by
  simp [Lib.join, List.intercalate]
theorem join_len : ∀ q : List (List UInt8), (Lib.join q [44, 32]).length ≤ (q.map List.length).sum + 2 * q.length
  | [] => by simp [Lib.join]
  | [a] => by simp [Lib.join]
  | a :: b :: r => by
    have := join_len (b :: r)
    rw [join_cons2]
    simp only [List.length_append, List.map_cons, List.sum_cons, List.length_cons, List.length_nil] at this ⊢
    omega
theorem allF_sum (n : List UInt8) : ∀ l : List Fld, ((allF n l).map List.length).sum ≤ totF l
  | [] => Nat.le_refl _
  | p :: r => by
    have := allF_sum n r
    simp only [allF, totF]
    split <;> (try simp only [List.map_cons, List.sum_cons]) <;> omega
theorem strV_len (l : List (List UInt8)) : (strV l).length = l.length := List.length_map _
theorem info_str18 : (Tryz.prog.info? 9).map (fun i => (i.zero, i.size, i.bytes)) = some (some (.string ByteArray.empty), 1, 16) := by kernel_rfl
theorem info_str18_parts : ∃ i, Tryz.prog.info? 9 = some i ∧ i.zero = some (.string ByteArray.empty) ∧ i.size = 1 ∧ i.bytes = 16 := by
  obtain ⟨i, hi, he⟩ := Option.map_eq_some_iff.1 info_str18
  simp only [Prod.mk.injEq] at he
  exact ⟨i, hi, he.1, he.2.1, he.2.2⟩
theorem bd_all (k n : Nat) (h : k ≤ n) (hn : n ≤ 4194304) : k + 1 ≤ maxLen ∧ (k + 1) * 16 ≤ 140737488355328 ∧ k ≤ 2199023255552 := by unfold maxLen; omega
set_option maxHeartbeats 2000000 in
theorem r6lower_any (s : ByteArray) (w : World) (hs : s.size ≤ 1099511627776) :
    Calls Tryz.prog 161 #[.string s] w fun e w' => e = .returned (.string ⟨(lowL s.data.toList).toArray⟩) ∧ Below w.heap.size w w' := by
  have hr0 := lowAt_string w 5 s
  have hb0 := bytesBelow w 5 s
  have hcv := Lib.run_convert_string_bytes (P := Tryz.prog) w 9 81 5 s Tryz.underlying9 Tryz.underlying81 Tryz.underlying5
  obtain ⟨L, hL⟩ : ∃ L, w.heap.size = L := ⟨_, rfl⟩
  rw [hL] at hr0 hb0 hcv
  obtain ⟨W0, hW0⟩ : ∃ W0, Lib.bytesWorld w 5 s = W0 := ⟨_, rfl⟩
  rw [hW0] at hr0 hb0 hcv
  have HR0 := Lib.hid hr0; have HB0 := Lib.hid hb0
  clear hr0 hb0 hW0
  have HL := Lib.hid hL; clear hL
  go_enter Tryz.func161, Tryz.ntmps161
  go_wp2
  go_loopw [4] (fun iv wr => ∃ i : Nat, iv = .int .i64 i ∧ i ≤ s.size ∧ LowAt wr L s.size (lowF s.data.toList i) ∧ Below L w wr) (fun iv _ => s.size - (intOf iv).toNat)
  case atStart => exact ⟨0, rfl, Nat.zero_le _, HR0.out, HB0.out⟩
  case round =>
    clear HR0 HB0 hcv
    obtain ⟨i, rfl, hi, hr, hb⟩ := hrel
    by_cases hlt : i < s.size
    · obtain ⟨c, hc⟩ : ∃ c, s[i]'hlt = c := ⟨_, rfl⟩
      have hget := list_get s i hlt
      rw [hc] at hget
      clear hc
      have cell := hr.cellAt hget hlt
      have free := hr.free i hlt
      obtain ⟨n, hn⟩ : ∃ n, c.toNat = n := ⟨_, rfl⟩
      have ln : n < 256 := by rw [← hn]; exact c.toBitVec.isLt
      rw [hn] at cell
      have k0 : (0 : Int) ≤ (i : Int) := Int.natCast_nonneg _
      have k1 : (i : Int) < (s.size : Int) := by omega
      have hwi := w64o i (le_oo i s.size hi hs)
      have HW := Lib.hid hwi; clear hwi
      by_cases hup : 65 ≤ n ∧ n ≤ 90
      · have hr2 := hr.set hget hlt
        rw [low_up c n hn hup.1 hup.2] at hr2
        have hb2 : Below L w (wr.setCell ⟨L, i, none⟩ (.int .u8 ((n : Int) + 32))) := hb.setCell (p := ⟨L, i, none⟩) (Nat.le_refl _) _
        have i1 : (65 : Int) ≤ (n : Int) := by omega
        have i2 : (n : Int) ≤ 90 := by omega
        have HX := Lib.hid (And.intro hr2 hb2)
        clear hr2 hb2 hr hb hget hn
        go_wp2
        have hwi := HW.out
        go_roundw
        case rel => (try rw [hwi]); clear hwi; exact ⟨i + 1, by go_num, by omega, HX.out.1, HX.out.2⟩
        case measure => (try rw [hwi]); clear hwi; simp [intOf]; omega
      · have hr2 := hr.keep hget (low_same c n hn hup)
        have HX := Lib.hid (And.intro hr2 hb)
        clear hr2 hb hr hget hn
        have hcase : n < 65 ∨ (65 ≤ n ∧ 90 < n) := by omega
        rcases hcase with h1 | ⟨h1, h2⟩
        · have i1 : ¬ (65 : Int) ≤ (n : Int) := by omega
          go_wp2
          have hwi := HW.out
          go_roundw
          case rel => (try rw [hwi]); clear hwi; exact ⟨i + 1, by go_num, by omega, HX.out.1, HX.out.2⟩
          case measure => (try rw [hwi]); clear hwi; simp [intOf]; omega
        · have i1 : (65 : Int) ≤ (n : Int) := by omega
          have i2 : ¬ (n : Int) ≤ 90 := by omega
          go_wp2
          have hwi := HW.out
          go_roundw
          case rel => (try rw [hwi]); clear hwi; exact ⟨i + 1, by go_num, by omega, HX.out.1, HX.out.2⟩
          case measure => (try rw [hwi]); clear hwi; simp [intOf]; omega
    · obtain rfl : i = s.size := by omega
      have hd : decide (s.size < s.size) = false := decide_eq_false (Nat.lt_irrefl _)
      have hlen : (lowL s.data.toList).length = s.size := by rw [lowL_len, size_list]
      have hcv := run_str_cells wr 81 5 Tryz.underlying81 Tryz.underlying5 L 0 (grownCap w s.size 0 5) s.size (lowL s.data.toList) hlen hr.done 9 Tryz.underlying9
      have HB := Lib.hid hb
      clear hr hb hlen
      go_wp2
      go_ret
      rw [HL.out]
      exact ⟨rfl, HB.out⟩
set_option maxHeartbeats 2000000 in
theorem osame_any (a b : List UInt8) (w : World) (ha : a.length ≤ 1099511627776) (hb : b.length ≤ 1099511627776) :
    Calls Tryz.prog 108 #[.string ⟨a.toArray⟩, .string ⟨b.toArray⟩] w fun e w' => e = .returned (.bool (sameF a b)) ∧ Below w.heap.size w w' := by
  have h1 := fun w => olower_any ⟨a.toArray⟩ w (by rw [size_mk]; exact ha)
  have h2 := fun w => olower_any ⟨b.toArray⟩ w (by rw [size_mk]; exact hb)
  rw [show (⟨a.toArray⟩ : ByteArray).data.toList = a from rfl] at h1
  rw [show (⟨b.toArray⟩ : ByteArray).data.toList = b from rfl] at h2
  obtain ⟨x, hx⟩ : ∃ x, lowL a = x := ⟨_, rfl⟩
  obtain ⟨y, hy⟩ : ∃ y, lowL b = y := ⟨_, rfl⟩
  rw [hx] at h1
  rw [hy] at h2
  have hr : (x == y) = sameF a b := by unfold sameF; rw [hx, hy]
  have H1 := Lib.hid h1; have H2 := Lib.hid h2; have HR := Lib.hid hr
  clear h1 h2 hx hy hr ha hb
  go_enter Tryz.func108, Tryz.ntmps108
  go_wp2_with fail
  refine (H1.out _).mono ?_
  rintro e w1 ⟨rfl, hb1⟩
  go_wp2_with fail
  refine (H2.out _).mono ?_
  rintro e w2 ⟨rfl, hb2⟩
  have HB := Lib.hid (hb1.trans (hb2.mono hb1.size))
  clear hb1 hb2
  go_wp2
  go_ret
  rw [← HR.out]
  exact ⟨rfl, HB.out⟩
set_option maxHeartbeats 2000000 in
theorem r6alike_any (a b : List UInt8) (w : World) (ha : a.length ≤ 1099511627776) (hb : b.length ≤ 1099511627776) :
    Calls Tryz.prog 110 #[.string ⟨a.toArray⟩, .string ⟨b.toArray⟩] w fun e w' => e = .returned (.bool (sameF a b)) ∧ Below w.heap.size w w' := by
  have h1 := fun w => r6lower_any ⟨a.toArray⟩ w (by rw [size_mk]; exact ha)
  have h2 := fun w => r6lower_any ⟨b.toArray⟩ w (by rw [size_mk]; exact hb)
  rw [show (⟨a.toArray⟩ : ByteArray).data.toList = a from rfl] at h1
  rw [show (⟨b.toArray⟩ : ByteArray).data.toList = b from rfl] at h2
  obtain ⟨x, hx⟩ : ∃ x, lowL a = x := ⟨_, rfl⟩
  obtain ⟨y, hy⟩ : ∃ y, lowL b = y := ⟨_, rfl⟩
  rw [hx] at h1
  rw [hy] at h2
  have hr : (x == y) = sameF a b := by unfold sameF; rw [hx, hy]
  have H1 := Lib.hid h1; have H2 := Lib.hid h2; have HR := Lib.hid hr
  clear h1 h2 hx hy hr ha hb
  go_enter Tryz.func110, Tryz.ntmps110
  go_wp2_with fail
  refine (H1.out _).mono ?_
  rintro e w1 ⟨rfl, hb1⟩
  go_wp2_with fail
  refine (H2.out _).mono ?_
  rintro e w2 ⟨rfl, hb2⟩
  have HB := Lib.hid (hb1.trans (hb2.mono hb1.size))
  clear hb1 hb2
  go_wp2
  go_ret
  rw [← HR.out]
  exact ⟨rfl, HB.out⟩
set_option maxHeartbeats 8000000 in
theorem oall_any (v : Value) (l : List Fld) (n : List UInt8) (w : World) (hN : l.length ≤ 4194304) (hT : totF l ≤ 4194304) (hn : n.length ≤ 1099511627776) (h : FldsIn w v l) :
    Calls Tryz.prog 76 #[v, .string ⟨n.toArray⟩] w fun e w' => ∃ v', e = .returned v' ∧ w'.ownsRow w.heap.size 9 1 v' (allF n l).length (strV (allF n l)) ∧ Below w.heap.size w w' := by
  obtain ⟨ao, cap, rfl, hat⟩ := h
  obtain ⟨i0, hi0, hz0, hz1, hz2⟩ := info_str18_parts
  obtain ⟨L, hL⟩ : ∃ L, w.heap.size = L := ⟨_, rfl⟩
  have HL := Lib.hid hL
  have HB0 := Lib.hid (show Below L w w from Below.refl _ _)
  have HSM := Lib.hid (fun (a : List UInt8) W (ha : a.length ≤ 1099511627776) => osame_any a n W ha hn)
  have HATW := Lib.hid hat; clear hat hL hn
  go_enter Tryz.func76, Tryz.ntmps76
  go_wp2
  go_loopw [10, 5] (fun iv v wr => ∃ i : Nat, iv = .int .i64 i ∧ i ≤ l.length ∧ wr.ownsRow L 9 1 v (allF n (l.take i)).length (strV (allF n (l.take i))) ∧ Below L w wr)
    (fun iv _ _ => l.length - (intOf iv).toNat)
  case atStart => exact ⟨0, rfl, Nat.zero_le _, World.ownsRow_nil _ _ _ _, HB0.out⟩
  case round =>
    obtain ⟨i, rfl, hi, hown, hb⟩ := hrel
    by_cases hlt : i < l.length
    · obtain ⟨p, hp⟩ : ∃ p, l[i]? = some p := ⟨_, List.getElem?_eq_getElem hlt⟩
      have hb' : Below w.heap.size w wr := by rw [HL.out]; exact hb
      obtain ⟨g, o, rfl, hg, c0, c1⟩ := HATW.out.below hb' i p hp
      have k0 : (0 : Int) ≤ (i : Int) := Int.natCast_nonneg _
      have k1 : (i : Int) < (l.length : Int) := by omega
      obtain ⟨A, hA⟩ : ∃ A, allF n (l.take i) = A := ⟨_, rfl⟩
      have hAl : A.length ≤ i := by rw [← hA]; refine Nat.le_trans (allF_len n _) ?_; rw [List.length_take]; omega
      have hbd := bd_all A.length l.length (by omega) hN
      have hwi := wrap64_small i (by omega)
      have hsn := allF_take n l i p hp
      have htl := totF_get l i p hp
      rw [hA] at hsn hown
      obtain ⟨W3, hW3⟩ : ∃ W3, wr.alloc (.cells #[.string ⟨p.1.toArray⟩, .string ⟨p.2.toArray⟩] 43) = W3 := ⟨_, rfl⟩
      obtain ⟨fb, hfb⟩ : ∃ fb, wr.heap.size = fb := ⟨_, rfl⟩
      have hbL := bsz hb HL
      have hF3 : BlkIs W3 fb #[.string ⟨p.1.toArray⟩, .string ⟨p.2.toArray⟩] 43 := by rw [← hW3, ← hfb]; exact blkIs_new _ _ _
      have hO3 : W3.ownsRow L 9 1 u5 A.length (strV A) := by rw [← hW3]; exact hown.alloc _
      have hB3 : Below L w W3 := by rw [← hW3]; exact hb.alloc hbL _
      have hz3 : L ≤ W3.heap.size := by rw [← hW3]; simp; omega
      have hsm := HSM.out p.1 W3 (by omega)
      have HW3 := Lib.hid hW3; have HW := Lib.hid hwi; have HO := Lib.hid (And.intro hO3 (And.intro hB3 hz3)); have HF3 := Lib.hid hF3; have HA := Lib.hid hA; have HBD := Lib.hid hbd
      clear hW3 hwi hown hb hb' hF3 hO3 hB3 hbL hz3 hA hbd htl
      go_upto_region 5 with fail
      rw [HW3.out]
      clear c0 c1
      have e0 := HF3.out.cell 0 _ rfl
      cases hs : sameF p.1 n with
      | false =>
        rw [hs] at hsm hsn
        have HSMI := Lib.hid hsm; have HSN := Lib.hid hsn
        clear hsm hsn hs
        go_wp2_with fail
        refine (HSMI.out).mono ?_
        rintro e w4 ⟨rfl, hb4⟩
        have HX := Lib.hid (And.intro (own_later HO.out.1 hb4) (HO.out.2.1.trans (hb4.mono HO.out.2.2)))
        clear hb4
        go_wp2
        have hwi := HW.out
        go_roundw
        case rel => (try rw [hwi]); clear hwi; exact ⟨i + 1, by go_num, hlt, by rw [HSN.out]; simpa using HX.out.1, HX.out.2⟩
        case measure => (try rw [hwi]); clear hwi; simp [intOf]; omega
      | true =>
        rw [hs] at hsm hsn
        have HSMI := Lib.hid hsm; have HSN := Lib.hid hsn
        clear hsm hsn hs
        go_wp2_with fail
        refine (HSMI.out).mono ?_
        rintro e w4 ⟨rfl, hb4⟩
        have HX := Lib.hid (And.intro (own_later HO.out.1 hb4) (And.intro (HO.out.2.1.trans (hb4.mono HO.out.2.2)) (Nat.le_trans HO.out.2.2 hb4.size)))
        have e1 := (HF3.out.later hb4).cell 1 _ rfl
        have hz4 := HX.out.2.2
        clear hb4 e0
        go_wp2_with (at_builtin; refine wpList_append_own _ rfl _ _ 104 rfl L 9 i0 (.string ByteArray.empty) 1 16 Tryz.underlying104 hi0 hz0 hz1 hz2 rfl (by decide) _ _ _ rfl (HX.out.1.alloc _) ⟨w4.heap.size, 0, none⟩ 1 1 [.string ⟨p.2.toArray⟩] rfl rfl (cells_new _ _ _) (by simp [Value.oneCell']) HBD.out.1 HBD.out.2.1 ?d0 ?_)
        case d0 => (try simp); omega
        intro v1 w7 hI1 hg7 _
        have hb8 := (HX.out.2.1.alloc hz4 _).grown hg7 (by simp; omega) (fun j hj => (HX.out.1.lt j hj).1)
        have HI1 := Lib.hid hI1; have HB8 := Lib.hid hb8
        clear hI1 hb8 hg7
        go_wp2
        have hwi := HW.out
        go_roundw
        case rel =>
          (try rw [hwi]); clear hwi
          refine ⟨i + 1, by go_num, hlt, ?_, HB8.out⟩
          rw [HSN.out]
          simp only [if_true]
          rw [strV_snoc, List.length_append]
          exact HI1.out
        case measure => (try rw [hwi]); clear hwi; simp [intOf]; omega
    · obtain rfl : i = l.length := by omega
      have hd : decide (l.length < l.length) = false := decide_eq_false (Nat.lt_irrefl _)
      rw [List.take_length] at hown
      have HO := Lib.hid hown; have HB := Lib.hid hb
      clear hown hb
      go_wp2
      go_ret
      rw [HL.out]
      exact ⟨_, rfl, HO.out, HB.out⟩
set_option maxHeartbeats 8000000 in
theorem rall_any (v : Value) (l : List Fld) (n : List UInt8) (w : World) (hN : l.length ≤ 4194304) (hT : totF l ≤ 4194304) (hn : n.length ≤ 1099511627776) (h : FldsIn w v l) :
    Calls Tryz.prog 78 #[v, .string ⟨n.toArray⟩] w fun e w' => ∃ v', e = .returned v' ∧ w'.ownsRow w.heap.size 9 1 v' (allF n l).length (strV (allF n l)) ∧ Below w.heap.size w w' := by
  obtain ⟨ao, cap, rfl, hat⟩ := h
  obtain ⟨i0, hi0, hz0, hz1, hz2⟩ := info_str18_parts
  obtain ⟨L, hL⟩ : ∃ L, w.heap.size = L := ⟨_, rfl⟩
  have HL := Lib.hid hL
  have HB0 := Lib.hid (show Below L w w from Below.refl _ _)
  have HSM := Lib.hid (fun (a : List UInt8) W (ha : a.length ≤ 1099511627776) => r6alike_any a n W ha hn)
  have HATW := Lib.hid hat; clear hat hL hn
  go_enter Tryz.func78, Tryz.ntmps78
  go_wp2
  go_loopw [10, 5] (fun iv v wr => ∃ i : Nat, iv = .int .i64 i ∧ i ≤ l.length ∧ wr.ownsRow L 9 1 v (allF n (l.take i)).length (strV (allF n (l.take i))) ∧ Below L w wr)
    (fun iv _ _ => l.length - (intOf iv).toNat)
  case atStart => exact ⟨0, rfl, Nat.zero_le _, World.ownsRow_nil _ _ _ _, HB0.out⟩
  case round =>
    obtain ⟨i, rfl, hi, hown, hb⟩ := hrel
    by_cases hlt : i < l.length
    · obtain ⟨p, hp⟩ : ∃ p, l[i]? = some p := ⟨_, List.getElem?_eq_getElem hlt⟩
      have hb' : Below w.heap.size w wr := by rw [HL.out]; exact hb
      obtain ⟨g, o, rfl, hg, c0, c1⟩ := HATW.out.below hb' i p hp
      have k0 : (0 : Int) ≤ (i : Int) := Int.natCast_nonneg _
      have k1 : (i : Int) < (l.length : Int) := by omega
      obtain ⟨A, hA⟩ : ∃ A, allF n (l.take i) = A := ⟨_, rfl⟩
      have hAl : A.length ≤ i := by rw [← hA]; refine Nat.le_trans (allF_len n _) ?_; rw [List.length_take]; omega
      have hbd := bd_all A.length l.length (by omega) hN
      have hwi := wrap64_small i (by omega)
      have hsn := allF_take n l i p hp
      have htl := totF_get l i p hp
      rw [hA] at hsn hown
      obtain ⟨W3, hW3⟩ : ∃ W3, wr.alloc (.cells #[.string ⟨p.1.toArray⟩, .string ⟨p.2.toArray⟩] 59) = W3 := ⟨_, rfl⟩
      obtain ⟨fb, hfb⟩ : ∃ fb, wr.heap.size = fb := ⟨_, rfl⟩
      have hbL := bsz hb HL
      have hF3 : BlkIs W3 fb #[.string ⟨p.1.toArray⟩, .string ⟨p.2.toArray⟩] 59 := by rw [← hW3, ← hfb]; exact blkIs_new _ _ _
      have hO3 : W3.ownsRow L 9 1 u5 A.length (strV A) := by rw [← hW3]; exact hown.alloc _
      have hB3 : Below L w W3 := by rw [← hW3]; exact hb.alloc hbL _
      have hz3 : L ≤ W3.heap.size := by rw [← hW3]; simp; omega
      have hsm := HSM.out p.1 W3 (by omega)
      have HW3 := Lib.hid hW3; have HW := Lib.hid hwi; have HO := Lib.hid (And.intro hO3 (And.intro hB3 hz3)); have HF3 := Lib.hid hF3; have HA := Lib.hid hA; have HBD := Lib.hid hbd
      clear hW3 hwi hown hb hb' hF3 hO3 hB3 hbL hz3 hA hbd htl
      go_upto_region 5 with fail
      rw [HW3.out]
      clear c0 c1
      have e0 := HF3.out.cell 0 _ rfl
      cases hs : sameF p.1 n with
      | false =>
        rw [hs] at hsm hsn
        have HSMI := Lib.hid hsm; have HSN := Lib.hid hsn
        clear hsm hsn hs
        go_wp2_with fail
        refine (HSMI.out).mono ?_
        rintro e w4 ⟨rfl, hb4⟩
        have HX := Lib.hid (And.intro (own_later HO.out.1 hb4) (HO.out.2.1.trans (hb4.mono HO.out.2.2)))
        clear hb4
        go_wp2
        have hwi := HW.out
        go_roundw
        case rel => (try rw [hwi]); clear hwi; exact ⟨i + 1, by go_num, hlt, by rw [HSN.out]; simpa using HX.out.1, HX.out.2⟩
        case measure => (try rw [hwi]); clear hwi; simp [intOf]; omega
      | true =>
        rw [hs] at hsm hsn
        have HSMI := Lib.hid hsm; have HSN := Lib.hid hsn
        clear hsm hsn hs
        go_wp2_with fail
        refine (HSMI.out).mono ?_
        rintro e w4 ⟨rfl, hb4⟩
        have HX := Lib.hid (And.intro (own_later HO.out.1 hb4) (And.intro (HO.out.2.1.trans (hb4.mono HO.out.2.2)) (Nat.le_trans HO.out.2.2 hb4.size)))
        have e1 := (HF3.out.later hb4).cell 1 _ rfl
        have hz4 := HX.out.2.2
        clear hb4 e0
        go_wp2_with (at_builtin; refine wpList_append_own _ rfl _ _ 104 rfl L 9 i0 (.string ByteArray.empty) 1 16 Tryz.underlying104 hi0 hz0 hz1 hz2 rfl (by decide) _ _ _ rfl (HX.out.1.alloc _) ⟨w4.heap.size, 0, none⟩ 1 1 [.string ⟨p.2.toArray⟩] rfl rfl (cells_new _ _ _) (by simp [Value.oneCell']) HBD.out.1 HBD.out.2.1 ?d0 ?_)
        case d0 => (try simp); omega
        intro v1 w7 hI1 hg7 _
        have hb8 := (HX.out.2.1.alloc hz4 _).grown hg7 (by simp; omega) (fun j hj => (HX.out.1.lt j hj).1)
        have HI1 := Lib.hid hI1; have HB8 := Lib.hid hb8
        clear hI1 hb8 hg7
        go_wp2
        have hwi := HW.out
        go_roundw
        case rel =>
          (try rw [hwi]); clear hwi
          refine ⟨i + 1, by go_num, hlt, ?_, HB8.out⟩
          rw [HSN.out]
          simp only [if_true]
          rw [strV_snoc, List.length_append]
          exact HI1.out
        case measure => (try rw [hwi]); clear hwi; simp [intOf]; omega
    · obtain rfl : i = l.length := by omega
      have hd : decide (l.length < l.length) = false := decide_eq_false (Nat.lt_irrefl _)
      rw [List.take_length] at hown
      have HO := Lib.hid hown; have HB := Lib.hid hb
      clear hown hb
      go_wp2
      go_ret
      rw [HL.out]
      exact ⟨_, rfl, HO.out, HB.out⟩
end Go.Proofs.YtdlpbpikhmciaaaGreatDoor
