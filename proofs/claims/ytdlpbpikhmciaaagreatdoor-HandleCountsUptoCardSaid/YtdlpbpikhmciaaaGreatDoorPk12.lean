/- CkN, HdL, Joi: texts of the seat, one behind the other (a claim holds at most sixty). Conditions: each theorem names its own. -/
import Derived.Test.YtdlpbpikhmciaaaGreatDoorPk04
import Derived.Test.YtdlpbpikhmciaaaGreatDoorPk11
import Derived.Test.YtdlpbpikhmciaaaGreatDoorPk09
import Derived.Test.YtdlpbpikhmciaaaGreatDoorPa02
import Derived.Test.YtdlpbpikhmciaaaGreatDoorPk00
namespace Go.Proofs.YtdlpbpikhmciaaaGreatDoor
open Go.RowKit
set_option linter.unusedSimpArgs false
set_option linter.unusedVariables false
set_option maxRecDepth 1000000
/-- What digits say, and the number of what is wrong. -/
def ckV (l : List UInt8) : Nat × Nat := if decV l ≤ 999999999 then (decV l, 0) else (0, 12)
theorem ckV_big (l : List UInt8) (h : decide (999999999 < decV l) = true) : ckV l = (0, 12) := by
  unfold ckV; rw [if_neg (by have := of_decide_eq_true h; omega)]
theorem ckV_ok (l : List UInt8) (h : decide (999999999 < decV l) = false) : ckV l = (decV l, 0) := by
  unfold ckV; rw [if_pos (by have := of_decide_eq_false h; omega)]
set_option maxHeartbeats 4000000 in
theorem cknumber_any (s : ByteArray) (w : World) (hs1 : 1 ≤ s.size) (hs : s.size ≤ 4096) (hd : s.data.toList.all qdg = true) :
    Calls Tryz.prog 141 #[.string s, .int .i64 999999999, .int .i64 10] w fun e w' => e = .returned (.tuple #[.int .i64 ((ckV s.data.toList).1 : Nat), .int .i64 ((ckV s.data.toList).2 : Nat)]) ∧ Below w.heap.size w w' := by
  have hne := full_o s (by omega)
  have hne2 := full_o2 s (by omega)
  have HS := Lib.hid (And.intro hs1 (And.intro hs hd))
  clear hs1 hs hd
  go_enter Tryz.func141, Tryz.ntmps141
  go_wp2
  go_loopw [18, 8, 9] (fun iv nv bv wr => ∃ (i N : Nat) (bz : Bool), iv = .int .i64 i ∧ i ≤ s.size ∧ nv = .int .i64 (N : Int) ∧ bv = .bool bz ∧ N ≤ 999999999 ∧ (bz = false → N = decV (s.data.toList.take i)) ∧ decide (999999999 < decV (s.data.toList.take i)) = bz ∧ Below w.heap.size w wr) (fun iv _ _ _ => s.size - (intOf iv).toNat)
  case atStart => exact ⟨0, 0, false, rfl, Nat.zero_le _, rfl, rfl, by decide, fun _ => rfl, rfl, Below.refl _ _⟩
  case round =>
    obtain ⟨i, N, bz, rfl, hi, rfl, rfl, hN, hNv, hbz, hb⟩ := hrel
    by_cases hlt : i < s.size
    · obtain ⟨c, hc⟩ : ∃ c, s[i]'hlt = c := ⟨_, rfl⟩
      have hget := list_get s i hlt
      rw [hc] at hget
      have hq : qdg c = true := List.all_eq_true.1 HS.out.2.2 _ (List.mem_of_getElem? hget)
      obtain ⟨j, hj⟩ : ∃ j, i + 1 = j := ⟨_, rfl⟩
      have f1 : (i : Int) + 1 = (j : Int) := by omega
      have hx := ext_1n s i j hj hlt c hc
      have k0 : (0 : Int) ≤ (i : Int) := Int.natCast_nonneg _
      have k1 : (i : Int) < (s.size : Int) := by omega
      have k2 : (i : Int) ≤ (j : Int) := by omega
      have k3 : (j : Int) ≤ (s.size : Int) := by omega
      have hjb : j ≤ 2199023255552 := by have := HS.out.2.1; omega
      obtain ⟨d, hd⟩ : ∃ d, low c = d := ⟨_, rfl⟩
      have HL1 := Lib.hid (lower_1 c d hd)
      have hdv := decV_take s.data.toList i c hget
      have hz := hex_yes c hq
      rw [hd] at hz
      have h9 := qdg_9 c hq
      obtain ⟨x, hxx⟩ : ∃ x, c.toNat - 48 = x := ⟨_, rfl⟩
      rw [hxx] at hz h9 hdv
      have HHC := Lib.hid (hex_call d x hz)
      obtain ⟨V, hV⟩ : ∃ V, decV (s.data.toList.take i) = V := ⟨_, rfl⟩
      rw [hV] at hdv hNv hbz
      have x0 : (0 : Int) ≤ (x : Int) := Int.natCast_nonneg _
      have x1 : (x : Int) < 10 := by omega
      have x2 : (x : Int) ≤ 9 := by omega
      have N0 : (0 : Int) ≤ (N : Int) := Int.natCast_nonneg _
      have N1 : (N : Int) ≤ 999999999 := by omega
      cases bz with
      | true =>
        have hbig : decide (999999999 < decV (s.data.toList.take j)) = true := by
          rw [← hj, hdv]
          have := of_decide_eq_true hbz
          exact decide_eq_true (by omega)
        have k4 : (j : Int) ≤ 8192 := by have := HS.out.2.1; omega
        have HX := Lib.hid (And.intro hj (And.intro hN (And.intro hbig hb)))
        clear hbig hN hb hbz hNv hdv hV hj hc hget hq hd hz h9 hxx hjb
        go_wp2_with fail
        refine (HL1.out _).mono ?_
        rintro e w1 ⟨rfl, hb1⟩
        have HB2 := Lib.hid (HX.out.2.2.2.trans (hb1.mono HX.out.2.2.2.size))
        clear hb1
        go_wp2_with fail
        refine (HHC.out _).mono ?_
        rintro e w2 ⟨rfl, rfl⟩
        go_wp2
        go_roundw
        case rel => exact ⟨j, N, true, rfl, by have := HX.out.1; omega, rfl, rfl, HX.out.2.1, (fun h => by cases h), HX.out.2.2.1, HB2.out⟩
        case measure => clear f1; have := HX.out.1; simp [intOf]; omega
      | false =>
        have hNV : N = V := hNv rfl
        obtain ⟨M, hM⟩ : ∃ M, N * 10 + x = M := ⟨_, rfl⟩
        have hMV : decV (s.data.toList.take j) = M := by rw [← hj, hdv, ← hNV, hM]
        by_cases hbg : 99999999 < N
        · have n1 : (99999999 : Int) < (N : Int) := by omega
          have n3 : decide ((99999999 : Int) < (N : Int)) = true := decide_eq_true n1
          have hbig : decide (999999999 < decV (s.data.toList.take j)) = true := by
            rw [hMV]; exact decide_eq_true (by omega)
          have k4 : (j : Int) ≤ 8192 := by have := HS.out.2.1; omega
          have HX := Lib.hid (And.intro hj (And.intro hN (And.intro hbig hb)))
          clear hbig hN hb hbz hNv hdv hV hj hc hget hq hd hz h9 hxx hjb hM hMV hNV hbg
          go_wp2_with fail
          refine (HL1.out _).mono ?_
          rintro e w1 ⟨rfl, hb1⟩
          have HB2 := Lib.hid (HX.out.2.2.2.trans (hb1.mono HX.out.2.2.2.size))
          clear hb1
          go_wp2_with fail
          refine (HHC.out _).mono ?_
          rintro e w2 ⟨rfl, rfl⟩
          go_wp2
          go_roundw
          case rel => exact ⟨j, N, true, rfl, by have := HX.out.1; omega, rfl, rfl, HX.out.2.1, (fun h => by cases h), HX.out.2.2.1, HB2.out⟩
          case measure => clear f1; have := HX.out.1; simp [intOf]; omega
        · have n1 : (N : Int) ≤ 99999999 := by omega
          have n0 : ¬ (99999999 : Int) < (N : Int) := by omega
          have n3 : decide ((99999999 : Int) < (N : Int)) = false := decide_eq_false n0
          have n4 : (N : Int) * 10 ≤ 999999999 - (x : Int) := by omega
          have n5 : decide ((999999999 : Int) - (x : Int) < (N : Int) * 10) = false := decide_eq_false (by omega)
          have hsm : decide (999999999 < decV (s.data.toList.take j)) = false := by
            rw [hMV]; exact decide_eq_false (by omega)
          have hM9 : M ≤ 999999999 := by omega
          have hMi : (N : Int) * 10 + (x : Int) = (M : Int) := by omega
          have k4 : (j : Int) ≤ 8192 := by have := HS.out.2.1; omega
          have HX := Lib.hid (And.intro hj (And.intro hM9 (And.intro hsm (And.intro hb (And.intro hMV.symm hMi)))))
          clear hsm hN hb hbz hNv hdv hV hj hc hget hq hd hz h9 hxx hjb hM hMV hNV hbg hM9 hMi
          go_wp2_with fail
          refine (HL1.out _).mono ?_
          rintro e w1 ⟨rfl, hb1⟩
          have HB2 := Lib.hid (HX.out.2.2.2.1.trans (hb1.mono HX.out.2.2.2.1.size))
          clear hb1
          go_wp2_with fail
          refine (HHC.out _).mono ?_
          rintro e w2 ⟨rfl, rfl⟩
          go_wp2
          go_roundw
          case rel => exact ⟨j, M, false, rfl, by have := HX.out.1; omega, by rw [HX.out.2.2.2.2.2], rfl, HX.out.2.1, fun _ => HX.out.2.2.2.2.1, HX.out.2.2.1, HB2.out⟩
          case measure => clear f1; have := HX.out.1; simp [intOf]; omega
    · obtain rfl : i = s.size := by omega
      rw [List.take_of_length_le (by rw [size_list]; exact Nat.le_refl _)] at hNv hbz
      cases bz with
      | true =>
        have HX := Lib.hid (And.intro (ckV_big _ hbz) hb)
        clear hNv hbz hb hN
        go_wp2
        go_ret2
        rw [HX.out.1]
        exact ⟨rfl, HX.out.2⟩
      | false =>
        have HX := Lib.hid (And.intro (ckV_ok _ hbz) (And.intro hb (hNv rfl)))
        clear hNv hbz hb hN
        go_wp2
        go_ret2
        rw [HX.out.1, ← HX.out.2.2]
        exact ⟨rfl, HX.out.2.1⟩
set_option maxHeartbeats 1000000 in
theorem ckdecimal_any (s : ByteArray) (w : World) (hs1 : 1 ≤ s.size) (hs : s.size ≤ 4096) (hd : s.data.toList.all qdg = true) :
    Calls Tryz.prog 92 #[.string s, .int .i64 999999999] w fun e w' => e = .returned (.tuple #[.int .i64 ((ckV s.data.toList).1 : Nat), .int .i64 ((ckV s.data.toList).2 : Nat)]) ∧ Below w.heap.size w w' := by
  have HN := Lib.hid (cknumber_any s w hs1 hs hd)
  clear hs1 hs hd
  go_enter Tryz.func92, Tryz.ntmps92
  go_wp2_with fail
  refine (HN.out).mono ?_
  rintro e w1 ⟨rfl, hb⟩
  go_wp2
  go_ret2
  exact ⟨rfl, hb⟩
end Go.Proofs.YtdlpbpikhmciaaaGreatDoor
namespace Go.Proofs.YtdlpbpikhmciaaaGreatDoor
open Go.RowKit
set_option linter.unusedSimpArgs false
set_option linter.unusedVariables false
set_option maxRecDepth 1000000
def fldV (p : Fld) : List Value := [.string ⟨p.1.toArray⟩, .string ⟨p.2.toArray⟩]
def fldsV (l : List Fld) : List Value := l.flatMap fldV
def totF : List Fld → Nat
  | [] => 0
  | p :: r => p.1.length + p.2.length + totF r
theorem totF_get (l : List Fld) (i : Nat) (p : Fld) (h : l[i]? = some p) : p.1.length + p.2.length ≤ totF l := by
  induction l generalizing i with
  | nil => simp at h
  | cons q r ih =>
    cases i with
    | zero => obtain rfl : q = p := (by simpa using h); simp only [totF]; omega
    | succ i => have := ih i (by simpa using h); simp only [totF]; omega
theorem fldsV_snoc (l : List Fld) (p : Fld) : fldsV (l ++ [p]) = fldsV l ++ fldV p := by simp [fldsV]
theorem fldsV_take (l : List Fld) (i : Nat) (p : Fld) (h : l[i]? = some p) : fldsV (l.take (i + 1)) = fldsV (l.take i) ++ [.string ⟨p.1.toArray⟩, .string ⟨p.2.toArray⟩] := by
  rw [List.take_add_one, h, Option.toList_some, fldsV_snoc]; rfl
theorem fldsV_len (l : List Fld) : (fldsV l).length = l.length * 2 := by
  induction l with
  | nil => rfl
  | cons p r ih =>
    have e : fldsV (p :: r) = fldV p ++ fldsV r := rfl
    rw [e, List.length_append, ih, List.length_cons]
    show 2 + _ = _
    omega
theorem fldsV_get (l : List Fld) (i : Nat) (p : Fld) (h : l[i]? = some p) : (fldsV l)[i * 2]? = some (.string ⟨p.1.toArray⟩) ∧ (fldsV l)[i * 2 + 1]? = some (.string ⟨p.2.toArray⟩) := by
  induction l generalizing i with
  | nil => simp at h
  | cons q r ih =>
    cases i with
    | zero =>
      obtain rfl : q = p := by simpa using h
      exact ⟨rfl, rfl⟩
    | succ i =>
      have := ih i (by simpa using h)
      have e : fldsV (q :: r) = fldV q ++ fldsV r := rfl
      have hl : (fldV q).length = 2 := rfl
      rw [e]
      refine ⟨?_, ?_⟩
      · rw [List.getElem?_append_right (by omega), hl, show (i + 1) * 2 - 2 = i * 2 from by omega]; exact this.1
      · rw [List.getElem?_append_right (by omega), hl, show (i + 1) * 2 + 1 - 2 = i * 2 + 1 from by omega]; exact this.2
def FldAt (w : World) (ao : Option Addr) (l : List Fld) : Prop := ∀ i p, l[i]? = some p → ∃ b o, ao = some ⟨b, o, none⟩ ∧ b < w.heap.size ∧
  w.cell? ⟨b, o + i * 2, none⟩ = some (.string ⟨p.1.toArray⟩) ∧ w.cell? ⟨b, o + i * 2 + 1, none⟩ = some (.string ⟨p.2.toArray⟩)
def FldsIn (w : World) (v : Value) (l : List Fld) : Prop := ∃ ao cap, v = .slice ao l.length cap ∧ FldAt w ao l
theorem FldAt.below {w w' : World} {ao : Option Addr} {l : List Fld} (h : FldAt w ao l) (hb : Below w.heap.size w w') : FldAt w' ao l := fun i p hp => by
  obtain ⟨b, o, e, lt, c0, c1⟩ := h i p hp
  exact ⟨b, o, e, Nat.lt_of_lt_of_le lt hb.size, by rw [hb.cell (p := ⟨b, o + i * 2, none⟩) lt]; exact c0, by rw [hb.cell (p := ⟨b, o + i * 2 + 1, none⟩) lt]; exact c1⟩
theorem FldsIn.below {w w' : World} {v : Value} {l : List Fld} (h : FldsIn w v l) (hb : Below w.heap.size w w') : FldsIn w' v l := by
  obtain ⟨ao, cap, rfl, h⟩ := h
  exact ⟨ao, cap, rfl, h.below hb⟩
theorem fldAt_own {w : World} {base : Nat} {T : TypeId} {v : Value} {l : List Fld} {n : Nat} (h : w.ownsRow base T 2 v n (fldsV l)) : ∃ ao cap, v = .slice ao n cap ∧ FldAt w ao l := by
  rcases h.2 with ⟨rfl, h0⟩ | ⟨g, cap, cur, rfl, hb, hg, _⟩
  · subst h0
    have hl := h.1
    rw [fldsV_len] at hl
    obtain rfl := List.eq_nil_of_length_eq_zero (show l.length = 0 by omega)
    exact ⟨none, 0, rfl, fun i p hp => by simp at hp⟩
  · have hlt : g < w.heap.size := (Array.getElem?_eq_some_iff.1 hg).1
    have hc := h.cells (g := g) rfl
    refine ⟨_, cap, rfl, fun i p hp => ⟨g, 0, rfl, hlt, ?_⟩⟩
    have hgt := fldsV_get l i p hp
    have e : ∀ j, (⟨g, 0, none⟩ : Addr).add j = ⟨g, j, none⟩ := fun j => by unfold Addr.add; split <;> simp_all
    rw [Nat.zero_add]
    refine ⟨?_, ?_⟩
    · have := hc _ _ hgt.1; rwa [e] at this
    · have := hc _ _ hgt.2; rwa [e] at this
theorem fldsIn_own {w : World} {base : Nat} {T : TypeId} {v : Value} {l : List Fld} (h : w.ownsRow base T 2 v l.length (fldsV l)) : FldsIn w v l := fldAt_own h
theorem bd_l18 (i n : Nat) (h : i < n) (hn : n ≤ 4194304) : i + 1 ≤ maxLen ∧ (i + 1) * 40 ≤ 140737488355328 ∧ (i + 1) * 32 ≤ 140737488355328 ∧ i ≤ 2199023255552 := by unfold maxLen; omega
theorem infoR18 : (Tryz.prog.info? 91).map (fun i => (i.zero, i.size, i.bytes)) = some (some (.agg #[.string ByteArray.empty, .string ByteArray.empty, .bool false]), 3, 40) := by kernel_rfl
theorem infoR18_parts : ∃ i, Tryz.prog.info? 91 = some i ∧ i.zero = some (.agg #[.string ByteArray.empty, .string ByteArray.empty, .bool false]) ∧ i.size = 3 ∧ i.bytes = 40 := by
  obtain ⟨i, hi, he⟩ := Option.map_eq_some_iff.1 infoR18
  simp only [Prod.mk.injEq] at he
  exact ⟨i, hi, he.1, he.2.1, he.2.2⟩
set_option maxHeartbeats 4000000 in
theorem params18_any (v : Value) (l : List Par) (w : World) (hN : l.length ≤ 4194304) (h : ParsIn w v l) :
    Calls Tryz.prog 14 #[v] w fun e w' => ∃ v', e = .returned v' ∧ w'.ownsRow w.heap.size 91 3 v' l.length (parsV l) ∧ Below w.heap.size w w' := by
  obtain ⟨ao, cap, rfl, hat⟩ := h
  obtain ⟨i0, hi0, hz0, hz1, hz2⟩ := infoR18_parts
  obtain ⟨L, hL⟩ : ∃ L, w.heap.size = L := ⟨_, rfl⟩
  have HL := Lib.hid hL
  have HB0 := Lib.hid (show Below L w w from Below.refl _ _)
  have HATW := Lib.hid hat; clear hat hL
  go_enter Tryz.func14, Tryz.ntmps14
  go_wp2
  go_loopw [8, 3] (fun iv v wr => ∃ i : Nat, iv = .int .i64 i ∧ i ≤ l.length ∧ wr.ownsRow L 91 3 v i (parsV (l.take i)) ∧ Below L w wr)
    (fun iv _ _ => l.length - (intOf iv).toNat)
  case atStart => exact ⟨0, rfl, Nat.zero_le _, World.ownsRow_nil _ _ _ _, HB0.out⟩
  case round =>
    obtain ⟨i, rfl, hi, hown, hb⟩ := hrel
    by_cases hlt : i < l.length
    · obtain ⟨p, hp⟩ : ∃ p, l[i]? = some p := ⟨_, List.getElem?_eq_getElem hlt⟩
      have hb' : Below w.heap.size w wr := by rw [HL.out]; exact hb
      obtain ⟨g, o, rfl, hg, c0, c1, c2⟩ := HATW.out.below hb' i p hp
      have k0 : (0 : Int) ≤ (i : Int) := Int.natCast_nonneg _
      have k1 : (i : Int) < (l.length : Int) := by omega
      have hbd := bd_l18 i l.length hlt hN
      have hwi := wrap64_small i hbd.2.2.2
      have hsn := parsV_take l i p hp
      obtain ⟨W3, hW3⟩ : ∃ W3, wr.alloc (.cells #[.string ⟨p.1.toArray⟩, .string ⟨p.2.1.toArray⟩, .bool p.2.2] 33) = W3 := ⟨_, rfl⟩
      obtain ⟨fb, hfb⟩ : ∃ fb, wr.heap.size = fb := ⟨_, rfl⟩
      have hbL := bsz hb HL
      have hF3 : BlkIs W3 fb #[.string ⟨p.1.toArray⟩, .string ⟨p.2.1.toArray⟩, .bool p.2.2] 33 := by rw [← hW3, ← hfb]; exact blkIs_new _ _ _
      have hO3 : W3.ownsRow L 91 3 u3 i (parsV (l.take i)) := by rw [← hW3]; exact hown.alloc _
      have hB3 : Below L w W3 := by rw [← hW3]; exact hb.alloc hbL _
      have hz3 : L ≤ W3.heap.size := by rw [← hW3]; simp; omega
      have HW3 := Lib.hid hW3; have HW := Lib.hid hwi; have HSN := Lib.hid hsn; have HO := Lib.hid (And.intro hO3 hB3); have HF3 := Lib.hid hF3
      clear hW3 hwi hsn hown hb hb' hF3 hO3 hB3 hbL
      go_upto_region 5 with fail
      rw [HW3.out]
      clear c0 c1 c2
      have e0 := HF3.out.cell 0 _ rfl
      have e1 := HF3.out.cell 1 _ rfl
      have e2 := HF3.out.cell 2 _ rfl
      go_wp2_with (at_builtin; refine wpList_append_own _ rfl _ _ 38 rfl L 91 i0 (.agg #[.string ByteArray.empty, .string ByteArray.empty, .bool false]) 3 40 Tryz.underlying38 hi0 hz0 hz1 hz2 rfl (by decide) _ _ _ rfl (HO.out.1.alloc _) ⟨W3.heap.size, 0, none⟩ 1 1 [.string ⟨p.1.toArray⟩, .string ⟨p.2.1.toArray⟩, .bool p.2.2] rfl rfl (cells_new _ _ _) (by simp [Value.oneCell']) hbd.1 hbd.2.1 ?d0 ?_)
      case d0 => (try simp); omega
      intro v1 w7 hI1 hg7 _
      have hb8 := (HO.out.2.alloc hz3 _).grown hg7 (by simp; omega) (fun j hj => (HO.out.1.lt j hj).1)
      have HI1 := Lib.hid hI1; have HB8 := Lib.hid hb8
      clear hI1 hb8 hg7
      go_wp2
      have hwi := HW.out
      go_roundw
      case rel => (try rw [hwi]); clear hwi; exact ⟨i + 1, by go_num, hlt, by rw [HSN.out]; exact HI1.out, HB8.out⟩
      case measure => (try rw [hwi]); clear hwi; simp [intOf]; omega
    · obtain rfl : i = l.length := by omega
      have hd : decide (l.length < l.length) = false := decide_eq_false (Nat.lt_irrefl _)
      rw [List.take_length] at hown
      have HO := Lib.hid hown; have HB := Lib.hid hb
      clear hown hb
      go_wp2
      go_ret
      rw [HL.out]
      exact ⟨_, rfl, HO.out, HB.out⟩
theorem infoF18 : (Tryz.prog.info? 59).map (fun i => (i.zero, i.size, i.bytes)) = some (some (.agg #[.string ByteArray.empty, .string ByteArray.empty]), 2, 32) := by kernel_rfl
theorem infoF18_parts : ∃ i, Tryz.prog.info? 59 = some i ∧ i.zero = some (.agg #[.string ByteArray.empty, .string ByteArray.empty]) ∧ i.size = 2 ∧ i.bytes = 32 := by
  obtain ⟨i, hi, he⟩ := Option.map_eq_some_iff.1 infoF18
  simp only [Prod.mk.injEq] at he
  exact ⟨i, hi, he.1, he.2.1, he.2.2⟩
set_option maxHeartbeats 4000000 in
theorem fields18_any (v : Value) (l : List Fld) (w : World) (hN : l.length ≤ 4194304) (h : FldsIn w v l) :
    Calls Tryz.prog 18 #[v] w fun e w' => ∃ v', e = .returned v' ∧ w'.ownsRow w.heap.size 59 2 v' l.length (fldsV l) ∧ Below w.heap.size w w' := by
  obtain ⟨ao, cap, rfl, hat⟩ := h
  obtain ⟨i0, hi0, hz0, hz1, hz2⟩ := infoF18_parts
  obtain ⟨L, hL⟩ : ∃ L, w.heap.size = L := ⟨_, rfl⟩
  have HL := Lib.hid hL
  have HB0 := Lib.hid (show Below L w w from Below.refl _ _)
  have HATW := Lib.hid hat; clear hat hL
  go_enter Tryz.func18, Tryz.ntmps18
  go_wp2
  go_loopw [8, 3] (fun iv v wr => ∃ i : Nat, iv = .int .i64 i ∧ i ≤ l.length ∧ wr.ownsRow L 59 2 v i (fldsV (l.take i)) ∧ Below L w wr)
    (fun iv _ _ => l.length - (intOf iv).toNat)
  case atStart => exact ⟨0, rfl, Nat.zero_le _, World.ownsRow_nil _ _ _ _, HB0.out⟩
  case round =>
    obtain ⟨i, rfl, hi, hown, hb⟩ := hrel
    by_cases hlt : i < l.length
    · obtain ⟨p, hp⟩ : ∃ p, l[i]? = some p := ⟨_, List.getElem?_eq_getElem hlt⟩
      have hb' : Below w.heap.size w wr := by rw [HL.out]; exact hb
      obtain ⟨g, o, rfl, hg, c0, c1⟩ := HATW.out.below hb' i p hp
      have k0 : (0 : Int) ≤ (i : Int) := Int.natCast_nonneg _
      have k1 : (i : Int) < (l.length : Int) := by omega
      have hbd := bd_l18 i l.length hlt hN
      have hwi := wrap64_small i hbd.2.2.2
      have hsn := fldsV_take l i p hp
      obtain ⟨W3, hW3⟩ : ∃ W3, wr.alloc (.cells #[.string ⟨p.1.toArray⟩, .string ⟨p.2.toArray⟩] 43) = W3 := ⟨_, rfl⟩
      obtain ⟨fb, hfb⟩ : ∃ fb, wr.heap.size = fb := ⟨_, rfl⟩
      have hbL := bsz hb HL
      have hF3 : BlkIs W3 fb #[.string ⟨p.1.toArray⟩, .string ⟨p.2.toArray⟩] 43 := by rw [← hW3, ← hfb]; exact blkIs_new _ _ _
      have hO3 : W3.ownsRow L 59 2 u3 i (fldsV (l.take i)) := by rw [← hW3]; exact hown.alloc _
      have hB3 : Below L w W3 := by rw [← hW3]; exact hb.alloc hbL _
      have hz3 : L ≤ W3.heap.size := by rw [← hW3]; simp; omega
      have HW3 := Lib.hid hW3; have HW := Lib.hid hwi; have HSN := Lib.hid hsn; have HO := Lib.hid (And.intro hO3 hB3); have HF3 := Lib.hid hF3
      clear hW3 hwi hsn hown hb hb' hF3 hO3 hB3 hbL
      go_upto_region 5 with fail
      rw [HW3.out]
      clear c0 c1
      have e0 := HF3.out.cell 0 _ rfl
      have e1 := HF3.out.cell 1 _ rfl
      go_wp2_with (at_builtin; refine wpList_append_own _ rfl _ _ 48 rfl L 59 i0 (.agg #[.string ByteArray.empty, .string ByteArray.empty]) 2 32 Tryz.underlying48 hi0 hz0 hz1 hz2 rfl (by decide) _ _ _ rfl (HO.out.1.alloc _) ⟨W3.heap.size, 0, none⟩ 1 1 [.string ⟨p.1.toArray⟩, .string ⟨p.2.toArray⟩] rfl rfl (cells_new _ _ _) (by simp [Value.oneCell']) hbd.1 hbd.2.2.1 ?d0 ?_)
      case d0 => (try simp); omega
      intro v1 w7 hI1 hg7 _
      have hb8 := (HO.out.2.alloc hz3 _).grown hg7 (by simp; omega) (fun j hj => (HO.out.1.lt j hj).1)
      have HI1 := Lib.hid hI1; have HB8 := Lib.hid hb8
      clear hI1 hb8 hg7
      go_wp2
      have hwi := HW.out
      go_roundw
      case rel => (try rw [hwi]); clear hwi; exact ⟨i + 1, by go_num, hlt, by rw [HSN.out]; exact HI1.out, HB8.out⟩
      case measure => (try rw [hwi]); clear hwi; simp [intOf]; omega
    · obtain rfl : i = l.length := by omega
      have hd : decide (l.length < l.length) = false := decide_eq_false (Nat.lt_irrefl _)
      rw [List.take_length] at hown
      have HO := Lib.hid hown; have HB := Lib.hid hb
      clear hown hb
      go_wp2
      go_ret
      rw [HL.out]
      exact ⟨_, rfl, HO.out, HB.out⟩
end Go.Proofs.YtdlpbpikhmciaaaGreatDoor
namespace Go.Proofs.YtdlpbpikhmciaaaGreatDoor
open Go.RowKit
set_option linter.unusedSimpArgs false
set_option linter.unusedVariables false
set_option maxRecDepth 1000000
/-- strings.Join of a row of the call's own. -/
theorem join_own {w : World} {base : Nat} {v : Value} (q : List (List UInt8)) (sep : ByteArray) (h : w.ownsRow base 9 1 v q.length (strV q)) (hN : q.length ≤ 140737488355328) (hlen : (Lib.join q sep.data.toList).length ≤ 140737488355328) :
    Calls Tryz.prog 109 #[v, .string sep] w fun e w' => e = .returned (.string ⟨(Lib.join q sep.data.toList).toArray⟩) ∧ Below w.heap.size w w' := by
  by_cases hq : q = []
  · subst hq
    have e : ∃ a c, v = .slice a 0 c := by
      rcases h.2 with ⟨rfl, _⟩ | ⟨g, cap, cur, rfl, _⟩
      · exact ⟨none, 0, rfl⟩
      · exact ⟨_, _, rfl⟩
    obtain ⟨a, c, rfl⟩ := e
    exact (Tryz.strings_Join_none a c sep w).mono fun e w' ⟨he, hw⟩ => ⟨he, hw ▸ Below.refl _ _⟩
  · have hcap : ∃ g cap, v = .slice (some ⟨g, 0, none⟩) q.length cap ∧ q.length ≤ cap ∧ g < w.heap.size := by
      have hl : 0 < q.length := List.length_pos_iff.2 hq
      rcases h.2 with ⟨_, h0⟩ | ⟨g, cap, cur, rfl, hb, hg, hnc, hcm, hcs, hct⟩
      · omega
      · exact ⟨g, cap, rfl, hnc, (Array.getElem?_eq_some_iff.1 hg).1⟩
    obtain ⟨g, cap, rfl, hc, hg⟩ := hcap
    have hmap : (q.map fun p => (⟨p.toArray⟩ : ByteArray)).map (·.data.toList) = q := by rw [List.map_map]; exact List.map_id' q
    have hl : (q.map fun p => (⟨p.toArray⟩ : ByteArray)).length = q.length := List.length_map _
    have := Tryz.strings_Join g 0 cap (q.map fun p => (⟨p.toArray⟩ : ByteArray)) sep w (fun j x hx => by
      obtain ⟨p, hp, rfl⟩ := List.getElem?_map .. ▸ hx |> Option.map_eq_some_iff.1
      have hcl := h.cells (g := g) rfl
      have := hcl j (.string ⟨p.toArray⟩) (by simp [strV, hp])
      rwa [show (⟨g, 0, none⟩ : Addr).add j = ⟨g, 0 + j, none⟩ from by unfold Addr.add; split <;> simp_all] at this) hg (by rw [hl]; exact hN) (by rw [hl]; exact hc) (by rw [hmap]; exact hlen)
    rw [hmap, hl] at this
    exact this
end Go.Proofs.YtdlpbpikhmciaaaGreatDoor
