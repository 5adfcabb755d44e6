/- The walks of octet.number and octet.Decimal on three bytes, at most 1000: their digits' value. Conditions: three bytes. -/
import Derived.Test.YthnniiakmjonjaaDoorOct7
import Derived.Test.YthnniiakmjonjaaDoorQuP
namespace Go.Proofs.YthnniiakmjonjaaDoor
open Go.RowKit
set_option linter.unusedSimpArgs false
set_option linter.unusedVariables false
set_option maxRecDepth 1000000
def numV (l : List UInt8) : Value := if l.all qdg = true then .tuple #[.int .i64 ((decV l : Nat) : Int), .int .i64 0] else .tuple #[.int .i64 0, .int .i64 11]
theorem numV_yes (l : List UInt8) (h : l.all qdg = true) : numV l = .tuple #[.int .i64 ((decV l : Nat) : Int), .int .i64 0] := by unfold numV; rw [if_pos h]
theorem numV_no (l : List UInt8) (h : l.all qdg = false) : numV l = .tuple #[.int .i64 0, .int .i64 11] := by unfold numV; rw [if_neg (by rw [h]; simp)]
theorem lower_1 (c d : UInt8) (hd : low c = d) (w : World) : Calls Tryd.prog 82 #[.string ⟨#[c]⟩] w fun e w' => e = .returned (.string ⟨#[d]⟩) ∧ Below w.heap.size w w' := by
  have h := olower_any ⟨#[c]⟩ w (show 1 ≤ 1099511627776 from by decide)
  rwa [show lowL (⟨#[c]⟩ : ByteArray).data.toList = [low c] from rfl, hd] at h
theorem hex_call (d : UInt8) (z : Int) (hz : Lib.indexByte hexT d = z) (w : World) : Calls Tryd.prog 132 #[.string ⟨#[48, 49, 50, 51, 52, 53, 54, 55, 56, 57, 97, 98, 99, 100, 101, 102]⟩, .int .u8 (d.toNat : Int)] w fun e w' => e = .returned (.int .i64 z) ∧ w' = w := by
  have h := Tryd.strings_IndexByte ⟨#[48, 49, 50, 51, 52, 53, 54, 55, 56, 57, 97, 98, 99, 100, 101, 102]⟩ (d.toNat : Int) w
  rw [show ((d.toNat : Int).toNat).toUInt8 = d from by simp] at h
  rwa [show (⟨#[48, 49, 50, 51, 52, 53, 54, 55, 56, 57, 97, 98, 99, 100, 101, 102]⟩ : ByteArray).data.toList = hexT from rfl, hz] at h
theorem ext_1n (t : ByteArray) (i j : Nat) (hj : i + 1 = j) (h : i < t.size) (c : UInt8) (hc : t[i]'h = c) : t.extract i j = ⟨#[c]⟩ := by
  rw [ext_mk, ← hj, Nat.add_sub_cancel_left, drop_get t i h, hc]; rfl
theorem decV_take (l : List UInt8) (i : Nat) (c : UInt8) (h : l[i]? = some c) : decV (l.take (i + 1)) = decV (l.take i) * 10 + (c.toNat - 48) := by
  rw [List.take_add_one, h, Option.toList_some, decV_snoc]
theorem decV_99 (l : List UInt8) (i : Nat) (hl : l.length = 3) (hi : i < 3) (h : (l.take i).all qdg = true) : decV (l.take i) ≤ 99 := by
  have h1 := decV_lt i (l.take i) (by rw [List.length_take]; omega) h
  have h2 : 10 ^ i ≤ 10 ^ 2 := Nat.pow_le_pow_right (by decide) (by omega)
  omega
theorem w64n (n : Nat) (h : n ≤ 2199023255552) : wrap64 (n : Int) = (n : Int) := by unfold wrap64; omega
theorem qdg_9 (c : UInt8) (h : qdg c = true) : c.toNat - 48 ≤ 9 := by
  unfold qdg at h
  rw [decide_eq_true_eq] at h
  omega
set_option maxHeartbeats 4000000 in
theorem number_3 (s : ByteArray) (w : World) (hs : s.size = 3) :
    Calls Tryd.prog 100 #[.string s, .int .i64 1000, .int .i64 10] w fun e w' => e = .returned (numV s.data.toList) ∧ Below w.heap.size w w' := by
  have hne := full_o s (by omega)
  have hne2 := full_o2 s (by omega)
  have hl3 : s.data.toList.length = 3 := by rw [size_list]; exact hs
  have HL3 := Lib.hid hl3; clear hl3
  have s3 : (s.size : Int) = 3 := by omega
  have HS := Lib.hid hs
  clear hs
  go_enter Tryd.func100, Tryd.ntmps100
  go_wp2
  go_loopw [18, 8, 9] (fun iv nv bv wr => ∃ i : Nat, iv = .int .i64 i ∧ i ≤ 3 ∧ (s.data.toList.take i).all qdg = true ∧ nv = .int .i64 ((decV (s.data.toList.take i) : Nat) : Int) ∧ bv = .bool false ∧ Below w.heap.size w wr) (fun iv _ _ _ => 3 - (intOf iv).toNat)
  case atStart => exact ⟨0, rfl, Nat.zero_le _, rfl, rfl, rfl, Below.refl _ _⟩
  case round =>
    obtain ⟨i, rfl, hi, hall, rfl, rfl, hb⟩ := hrel
    by_cases hlt : i < 3
    · have his : i < s.size := by rw [HS.out]; exact hlt
      obtain ⟨c, hc⟩ : ∃ c, s[i]'his = c := ⟨_, rfl⟩
      have hget := list_get s i his
      rw [hc] at hget
      obtain ⟨j, hj⟩ : ∃ j, i + 1 = j := ⟨_, rfl⟩
      have f1 : (i : Int) + 1 = (j : Int) := by omega
      have hx := ext_1n s i j hj his c hc
      have k0 : (0 : Int) ≤ (i : Int) := Int.natCast_nonneg _
      have k1 : (i : Int) < 3 := by omega
      have k2 : (i : Int) ≤ (j : Int) := by omega
      have k3 : (j : Int) ≤ 3 := by omega
      have hjb : j ≤ 2199023255552 := by omega
      obtain ⟨d, hd⟩ : ∃ d, low c = d := ⟨_, rfl⟩
      have hl1 := lower_1 c d hd
      have HL1 := Lib.hid hl1
      have hn99 := decV_99 s.data.toList i HL3.out hlt hall
      have hdv := decV_take s.data.toList i c hget
      obtain ⟨N, hN⟩ : ∃ N, decV (s.data.toList.take i) = N := ⟨_, rfl⟩
      rw [hN] at hn99 hdv ⊢
      clear hl1 hN hc
      cases hq : qdg c with
      | true =>
        have hz := hex_yes c hq
        rw [hd] at hz
        have h9 := qdg_9 c hq
        have hall2 := all_take qdg _ i c hget hall hq
        obtain ⟨x, hxx⟩ : ∃ x, c.toNat - 48 = x := ⟨_, rfl⟩
        rw [hxx] at hz h9 hdv
        have hhc := hex_call d x hz
        have HDV := Lib.hid hdv
        clear hz hdv
        have n1 : (N : Int) ≤ 100 := by omega
        have n2 : (N : Int) * 10 ≤ 1000 - (x : Int) := by omega
        have n3 : decide ((1000 : Int) - (x : Int) < (N : Int) * 10) = false := decide_eq_false (by omega)
        have x0 : (0 : Int) ≤ (x : Int) := Int.natCast_nonneg _
        have x1 : (x : Int) < 10 := by omega
        have hwj := w64n j hjb
        have HX := Lib.hid (And.intro hall2 (And.intro HDV.out (And.intro hj hb)))
        have HHC := Lib.hid hhc
        clear hall2 hj hb hhc h9 hall hget hq hd hxx hn99 hjb
        go_wp2_with fail
        refine (HL1.out _).mono ?_
        rintro e w1 ⟨rfl, hb1⟩
        have hb2 := HX.out.2.2.2.trans (hb1.mono HX.out.2.2.2.size)
        have HB2 := Lib.hid hb2
        clear hb1 hb2
        go_wp2_with fail
        refine (HHC.out _).mono ?_
        rintro e w2 ⟨rfl, rfl⟩
        go_wp2
        clear hwj
        go_roundw
        case rel => exact ⟨j, rfl, by have := HX.out.2.2.1; omega, by rw [← HX.out.2.2.1]; exact HX.out.1, by rw [← HX.out.2.2.1, HX.out.2.1]; first | rfl | (congr 1; omega) | simp, by first | rfl | trivial, HB2.out⟩
        case measure => simp [intOf]; omega
      | false =>
        have hz := hex_no c hq
        obtain ⟨z, hzz⟩ : ∃ z, Lib.indexByte hexT (low c) = z := ⟨_, rfl⟩
        rw [hzz] at hz
        rw [hd] at hzz
        have hhc := hex_call d z hzz
        have hr := numV_no s.data.toList (all_not qdg _ i c hget hq)
        have hwj := w64n j hjb
        have HX := Lib.hid (And.intro hr hb)
        have HHC := Lib.hid hhc
        clear hr hb hhc hzz hall hget hq hd hdv hn99
        go_wp2_with fail
        refine (HL1.out _).mono ?_
        rintro e w1 ⟨rfl, hb1⟩
        have hb2 := HX.out.2.trans (hb1.mono HX.out.2.size)
        have HB2 := Lib.hid hb2
        clear hb1 hb2
        go_wp2_with fail
        refine (HHC.out _).mono ?_
        rintro e w2 ⟨rfl, rfl⟩
        rcases hz with hz | hz
        · go_wp2
          go_ret2
          rw [HX.out.1]
          exact ⟨rfl, HB2.out⟩
        · have hz2 : ¬ z < 0 := by omega
          have hz3 : decide (z < 0) = false := decide_eq_false hz2
          go_wp2
          go_ret2
          rw [HX.out.1]
          exact ⟨rfl, HB2.out⟩
    · obtain rfl : i = 3 := by omega
      rw [List.take_of_length_le (by rw [HL3.out]; exact Nat.le_refl _)] at hall ⊢
      have hr := numV_yes _ hall
      have HX := Lib.hid (And.intro hr hb)
      clear hr hb hall
      go_wp2
      go_ret2
      rw [HX.out.1]
      exact ⟨rfl, HX.out.2⟩
theorem decimal_3 (s : ByteArray) (w : World) (hs : s.size = 3) :
    Calls Tryd.prog 57 #[.string s, .int .i64 1000] w fun e w' => e = .returned (numV s.data.toList) ∧ Below w.heap.size w w' := by
  have h := number_3 s w hs
  have hv : ∃ a b : Value, numV s.data.toList = .tuple #[a, b] := by
    unfold numV
    split
    · exact ⟨_, _, rfl⟩
    · exact ⟨_, _, rfl⟩
  obtain ⟨a, b, hv⟩ := hv
  rw [hv] at h ⊢
  have H := Lib.hid h
  clear h hv
  go_enter Tryd.func57, Tryd.ntmps57
  go_wp2_with fail
  refine (H.out).mono ?_
  rintro e w1 ⟨rfl, hb⟩
  go_wp2
  go_ret2
  exact ⟨rfl, hb⟩
end Go.Proofs.YthnniiakmjonjaaDoor
