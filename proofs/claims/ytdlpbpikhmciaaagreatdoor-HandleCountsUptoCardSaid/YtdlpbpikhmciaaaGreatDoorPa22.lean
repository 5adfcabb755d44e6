/- The walk of turnpikelaw18.HandleCounts: true. Conditions: the name is small; the tables hold what the texts lay. -/
import Derived.Test.YtdlpbpikhmciaaaGreatDoorPa14
import Derived.Test.YtdlpbpikhmciaaaGreatDoorPa19
import Derived.Test.YtdlpbpikhmciaaaGreatDoorPa20
import Derived.Test.YtdlpbpikhmciaaaGreatDoorPa21
namespace Go.Proofs.YtdlpbpikhmciaaaGreatDoor
open Go.RowKit
set_option linter.unusedSimpArgs false
set_option linter.unusedVariables false
set_option maxRecDepth 1000000
theorem checkC_any (n : List UInt8) (w : World) (hn : isTok n = true) (hl : n.length ≤ 1048576) (hg : SgAt w) : Calls Tryz.prog 9 #[.agg (hdC 8 ⟨n.toArray⟩ ⟨#[]⟩ ⟨#[]⟩ 0 0)] w fun e w' => e = .returned (.int .i64 0) ∧ Below w.heap.size w w' := by
  refine (ocheck8_any true 0 0 ⟨n.toArray⟩ ⟨#[]⟩ ⟨#[]⟩ w (fun W hb => ?_)).mono ?_
  · have := lit6_any 8 0 0 ⟨n.toArray⟩ ⟨#[]⟩ ⟨#[]⟩ W (by rw [size_mk]; omega) (hg.below hb)
    rw [show (⟨n.toArray⟩ : ByteArray).data.toList = n from rfl, hn] at this
    exact this
  · rintro e w' ⟨rfl, hb⟩
    refine ⟨ret_int ?_, hb⟩
    simp only [toL]
    generalize decide ((⟨n.toArray⟩ : ByteArray).data.toList = []) = b
    cases b <;> decide
theorem answerC_any (n ds : List UInt8) (m : Int) (fa : Option Addr) (fl fc : Nat) (w : World) (hf : FldsIn w (.slice fa fl fc) [(ckN, hdL n ds)]) (hn : isTok n = true) (hd : ds.all qdg = true) (hd0 : ds ≠ []) (hl : n.length ≤ 4000) (hl2 : ds.length ≤ 10) (hm : w.cell? ⟨4, 0, none⟩ = some (.int .i64 m)) (hg : SgAt w) (hP : PowAt w) (hD : DaysAt w) :
    Calls Tryz.prog 24 #[.agg (hdC 8 ⟨n.toArray⟩ ⟨#[]⟩ ⟨#[]⟩ 0 0), .agg (asC ⟨#[71, 69, 84]⟩ ⟨#[47]⟩ 0 0 (.slice fa fl fc)), .pointer none] w (RespIs 200 [] [(ctL, tpL), (scN, ckSet n (Lib.decDigits (ckNext ds)))] (Lib.decDigits (ckNext ds) ++ [10]) w) :=
  oanswer8_any 0 0 0 0 200 ⟨n.toArray⟩ ⟨#[]⟩ ⟨#[]⟩ ⟨#[71, 69, 84]⟩ ⟨#[47]⟩ fa none fl fc [] (Lib.decDigits (ckNext ds) ++ [10]) [(ctL, tpL), (scN, ckSet n (Lib.decDigits (ckNext ds)))] w (fun W hb => checkC_any n W hn (by omega) (hg.below hb))
    (fun W p hW hP2 => vcount_any p n ds ⟨#[71, 69, 84]⟩ ⟨#[47]⟩ 0 0 m fa fl fc (.pointer none) W hP2 (hf.below hW) hn hd hd0 hl hl2 (ck_cell hm hW) (hg.below hW) (hP.below hW) (hD.below hW))
/-- The remainder of the steps. -/
theorem steps_mod (n : Int) (h0 : -9223372036854775808 ≤ n) (h1 : n ≤ 9223372036854775807) : ∃ x : Int, Int.tmod n 20 = x ∧ -19 ≤ x ∧ x ≤ 19 ∧ ∃ z : Nat, z < 20 ∧ Int.tmod (x + 20) 20 = (z : Int) := by
  have a1 := Int.natAbs_tmod n 20
  have r1 : (Int.tmod n 20).natAbs < 20 := by rw [a1]; exact Nat.mod_lt _ (by decide)
  refine ⟨_, rfl, by omega, by omega, ?_⟩
  have p1 : 0 ≤ Int.tmod n 20 + 20 := by omega
  have e2 := Int.tmod_eq_emod_of_nonneg p1 (b := 20)
  rw [e2]
  refine ⟨((Int.tmod n 20 + 20) % 20).toNat, ?_, ?_⟩ <;> omega
theorem w64c (z : Int) (h0 : -9007199254740992 ≤ z) (h1 : z ≤ 9007199254740992) : wrap64 z = z ∧ IntKind.i64.wrap z = z := by
  constructor
  · unfold wrap64; omega
  · rw [IntKind.wrap_i64]; omega
theorem handleCounts_no (c : ByteArray) (fr st : Int) (w : World) (hs : c.size ≤ 1048576) (h : isTok c.data.toList = false ∨ (isTok c.data.toList = true ∧ (4000 < c.size ∨ (c.size ≤ 4000 ∧ (fr < 0 ∨ (0 ≤ fr ∧ 999999999 < fr)))))) :
    Calls Tryz.prog 6 #[.string c, .int .i64 fr, .int .i64 st] w fun e w' => e = .returned (.bool true) ∧ Below w.heap.size w w' := by
  have ht := fun W => rtoken_any c W (by omega)
  rcases h with h | ⟨h, h1⟩
  · rw [h] at ht
    have HT := Lib.hid ht
    clear ht h hs
    go_enter Tryz.func6, Tryz.ntmps6
    go_wp2_with fail
    refine (awake18_any w).mono ?_
    rintro e w1 ⟨rfl, hb1⟩
    go_wp2_with fail
    refine (HT.out _).mono ?_
    rintro e w2 ⟨rfl, rfl⟩
    go_wp2
    go_ret
    exact ⟨rfl, hb1⟩
  · rw [h] at ht
    have HT := Lib.hid ht
    clear ht h hs
    rcases h1 with h1 | ⟨h1, h2⟩
    · have g0 : (4000 : Int) < (c.size : Int) := by omega
      have g1 : decide ((4000 : Int) < (c.size : Int)) = true := decide_eq_true g0
      go_enter Tryz.func6, Tryz.ntmps6
      go_wp2_with fail
      refine (awake18_any w).mono ?_
      rintro e w1 ⟨rfl, hb1⟩
      go_wp2_with fail
      refine (HT.out _).mono ?_
      rintro e w2 ⟨rfl, rfl⟩
      go_wp2
      go_ret
      exact ⟨rfl, hb1⟩
    · have g0 : ¬ (4000 : Int) < (c.size : Int) := by omega
      have g1 : decide ((4000 : Int) < (c.size : Int)) = false := decide_eq_false g0
      rcases h2 with h2 | ⟨h2, h3⟩
      · have k1 : decide (fr < 0) = true := decide_eq_true h2
        go_enter Tryz.func6, Tryz.ntmps6
        go_wp2_with fail
        refine (awake18_any w).mono ?_
        rintro e w1 ⟨rfl, hb1⟩
        go_wp2_with fail
        refine (HT.out _).mono ?_
        rintro e w2 ⟨rfl, rfl⟩
        go_wp2
        go_ret
        exact ⟨rfl, hb1⟩
      · have k0 : ¬ fr < 0 := by omega
        have k1 : decide (fr < 0) = false := decide_eq_false k0
        have k2 : decide (999999999 < fr) = true := decide_eq_true h3
        go_enter Tryz.func6, Tryz.ntmps6
        go_wp2_with fail
        refine (awake18_any w).mono ?_
        rintro e w1 ⟨rfl, hb1⟩
        go_wp2_with fail
        refine (HT.out _).mono ?_
        rintro e w2 ⟨rfl, rfl⟩
        go_wp2
        go_ret
        exact ⟨rfl, hb1⟩
theorem ckNext_dec (N : Nat) (h : N ≤ 999999999) : ckNext (Lib.decDigits N) = N + 1 := by
  unfold ckNext ckV
  rw [dec_decV, if_pos h]
abbrev asK (fs : Value) : Array Value := asC ⟨#[71, 69, 84]⟩ ⟨#[47]⟩ 0 0 fs
set_option maxHeartbeats 16000000 in
theorem handleCounts_yes (name : List UInt8) (F : Nat) (st : Int) (m : Int) (w : World) (hn : isTok name = true) (hl : name.length ≤ 4000) (hF : F ≤ 999999999) (h0 : -9223372036854775808 ≤ st) (h1 : st ≤ 9223372036854775807) (hm : w.cell? ⟨4, 0, none⟩ = some (.int .i64 m)) (hg : SgAt w) (hP : PowAt w) (hD : DaysAt w) :
    Calls Tryz.prog 6 #[.string ⟨name.toArray⟩, .int .i64 (F : Int), .int .i64 st] w fun e w' => e = .returned (.bool true) ∧ Below w.heap.size w w' := by
  obtain ⟨x, hx, x0, x1, z, hz, hzz⟩ := steps_mod st h0 h1
  have ht := fun W => rtoken_any ⟨name.toArray⟩ W (by rw [size_mk]; omega)
  rw [show (⟨name.toArray⟩ : ByteArray).data.toList = name from rfl, hn] at ht
  have HT := Lib.hid ht
  have HDG := Lib.hid (fun (N : Nat) (W : World) (h : N ≤ 1000000000) => rdigitsN_any N W (by omega))
  have HANS := Lib.hid (fun (ds : List UInt8) (ga : Nat) (W : World) (hb : Below w.heap.size w W) (hf : FldsIn W (.slice (some ⟨ga, 0, none⟩) 1 1) [(ckN, hdL name ds)]) (hd : ds.all qdg = true) (hd0 : ds ≠ []) (hl2 : ds.length ≤ 10) => answerC_any name ds m (some ⟨ga, 0, none⟩) 1 1 W hf hn hd hd0 hl hl2 (ck_cell hm hb) (hg.below hb) (hP.below hb) (hD.below hb))
  have HX := Lib.hid (And.intro x0 x1); have HZ := Lib.hid (And.intro hx hzz)
  have g0 : ¬ (4000 : Int) < (name.length : Int) := by omega
  have g1 : decide ((4000 : Int) < (name.length : Int)) = false := decide_eq_false g0
  have g2 : ¬ (F : Int) < 0 := by omega
  have g3 : decide ((F : Int) < 0) = false := decide_eq_false g2
  have g4 : ¬ (999999999 : Int) < (F : Int) := by omega
  have g5 : decide ((999999999 : Int) < (F : Int)) = false := decide_eq_false g4
  obtain ⟨A, hA⟩ : ∃ A, name ++ [61] = A := ⟨_, rfl⟩
  have hAl : A.length = name.length + 1 := by rw [← hA]; simp
  have e1 : (⟨name.toArray⟩ : ByteArray) ++ ⟨#[61]⟩ = ⟨A.toArray⟩ := ck_ba name [61] A hA
  have n1 : ¬ 9223372036854775807 < name.length + 1 := by omega
  have HA := Lib.hid hA
  have HL := Lib.hid (And.intro hl (And.intro hF hAl))
  obtain ⟨Z0, hZ0⟩ : ∃ Z, Lib.decDigits F = Z := ⟨_, rfl⟩
  have hZl := dec_len10 F (by omega)
  obtain ⟨C0, hC0⟩ : ∃ C, ckL name (Lib.decDigits F) = C := ⟨_, rfl⟩
  rw [hZ0] at hZl
  have e2 : (⟨A.toArray⟩ : ByteArray) ++ ⟨Z0.toArray⟩ = ⟨C0.toArray⟩ := ck_ba A Z0 C0 (by rw [← hA, ← hC0, hZ0]; simp [ckL])
  have n2 : ¬ 9223372036854775807 < A.length + Z0.length := by omega
  have HC0 := Lib.hid hC0
  have hdg0 := HDG.out F
  rw [hZ0] at hdg0
  have HDG0 := Lib.hid hdg0
  clear ht hA hAl hZ0 hZl hC0 hdg0 hx hzz x0 x1 hn hl h0 h1 hm hg hP hD
  go_enter Tryz.func6, Tryz.ntmps6
  go_wp2_with fail
  refine (awake18_any w).mono ?_
  rintro e w1 ⟨rfl, hb1⟩
  go_wp2_with fail
  refine (HT.out _).mono ?_
  rintro e w2 ⟨rfl, rfl⟩
  have t1 := HZ.out.1
  have t2 := HZ.out.2
  obtain ⟨t3, t4⟩ := w64c (x + 20) (by have := HX.out; omega) (by have := HX.out; omega)
  obtain ⟨t5, t6⟩ := w64c (z : Int) (by omega) (by omega)
  obtain ⟨t7, t8⟩ := w64c x (by have := HX.out; omega) (by have := HX.out; omega)
  go_upto_region 6 with fail
  clear t1 t2 t3 t4 t5 t6 t7 t8
  go_wp2_with fail
  refine (HDG0.out _ (by have := HL.out.2.1; omega)).mono ?_
  rintro e w3 ⟨rfl, hb3⟩
  have HB3 := Lib.hid (hb1.trans (hb3.mono hb1.size))
  clear hb1 hb3
  obtain ⟨Z1, hZ1⟩ : ∃ Z, z + 1 = Z := ⟨_, rfl⟩
  have z2 : (z : Int) + 1 = (Z1 : Int) := by omega
  have z3 : (Z1 : Int) ≤ 20 := by omega
  have z4 : (0 : Int) ≤ (Z1 : Int) := by omega
  have HZ1 := Lib.hid hz
  clear hZ1 hz
  go_wp2
  go_loopw [42, 7] (fun iv cv wr => ∃ (i : Nat) (CL : List UInt8), iv = .int .i64 (i : Int) ∧ cv = .string ⟨CL.toArray⟩ ∧ CL = ckL name (Lib.decDigits (F + i)) ∧ i ≤ Z1 ∧ F + i ≤ 1000000000 ∧ Below w.heap.size w wr) (fun iv _ _ => Z1 - (intOf iv).toNat)
  case atStart => exact ⟨0, C0, rfl, rfl, HC0.out.symm, Nat.zero_le _, by have := HL.out.2.1; omega, HB3.out⟩
  case round =>
    clear HB3 HC0 HDG0 e2 n2 HT
    obtain ⟨i, CL, rfl, rfl, hCL, hi, hFi, hb⟩ := hrel
    by_cases hlt : i < Z1
    · obtain ⟨N, hN⟩ : ∃ N, F + i = N := ⟨_, rfl⟩
      rw [hN] at hFi hCL
      obtain ⟨N1, hN1⟩ : ∃ M, N + 1 = M := ⟨_, rfl⟩
      have hdl := dec_len10 N hFi
      have hda := dec_all N
      have hd0 := dec_ne N
      obtain ⟨ds, hds⟩ : ∃ d, Lib.decDigits N = d := ⟨_, rfl⟩
      rw [hds] at hCL hdl hda hd0
      have hCLl : CL.length ≤ 4011 := by rw [hCL]; have := HL.out.1; simp [ckL]; omega
      obtain ⟨HB, hHB⟩ : ∃ H, (⟨(hdL name ds).toArray⟩ : ByteArray) = H := ⟨_, rfl⟩
      have e3 : (⟨#[111, 116, 104, 101, 114, 59, 32]⟩ : ByteArray) ++ ⟨CL.toArray⟩ = HB := by rw [← hHB, hCL]; exact ck_ba [111, 116, 104, 101, 114, 59, 32] (ckL name ds) (hdL name ds) rfl
      have n3 : ¬ 9223372036854775807 < 7 + CL.length := by omega
      have k0 : (0 : Int) ≤ (i : Int) := Int.natCast_nonneg _
      have k1 : (i : Int) < (Z1 : Int) := by omega
      obtain ⟨B, hB⟩ : ∃ B, wr.heap.size = B := ⟨_, rfl⟩
      obtain ⟨K, hK⟩ : ∃ K, B + 1 = K := ⟨_, rfl⟩
      obtain ⟨W2, hW2⟩ : ∃ W, (wr.alloc (.cells #[.string ⟨#[67, 111, 111, 107, 105, 101]⟩, .string HB] 43)).alloc (.cells (asK (.slice (some ⟨B, 0, none⟩) 1 1)) 68) = W := ⟨_, rfl⟩
      have hb12 : Below wr.heap.size wr W2 := by rw [← hW2]; exact (below1 _ _).alloc (by simp) _
      have hb2 : Below w.heap.size w W2 := hb.trans (hb12.mono hb.size)
      have hB2 : BlkIs W2 B #[.string ⟨#[67, 111, 111, 107, 105, 101]⟩, .string HB] 43 := by rw [← hW2, ← hB]; exact (blkIs_new _ _ _).alloc _
      have hK2 : BlkIs W2 K (asK (.slice (some ⟨B, 0, none⟩) 1 1)) 68 := by rw [← hW2, ← hK, ← hB]; have := blkIs_new (wr.alloc (.cells #[.string ⟨#[67, 111, 111, 107, 105, 101]⟩, .string HB] 43)) (asK (.slice (some ⟨wr.heap.size, 0, none⟩) 1 1)) 68; rw [World.size_alloc] at this; exact this
      have hans := HANS.out ds B W2 hb2 (ck_fin (n := 1) rfl hB2 (by rw [← hHB]; rfl)) hda hd0 hdl
      have a0 := hK2.cell 0 _ rfl
      have a1 := hK2.cell 1 _ rfl
      have a2 := hK2.cell 2 _ rfl
      have a3 := hK2.cell 3 _ rfl
      have a4 := hK2.cell 4 _ rfl
      have a5 := hK2.cell 5 _ rfl
      have a6 := hK2.cell 6 _ rfl
      have a7 := hK2.cell 7 _ rfl
      have a8 := hK2.cell 8 _ rfl
      have a9 := hK2.cell 9 _ rfl
      have a10 := hK2.cell 10 _ rfl
      have a11 := hK2.cell 11 _ rfl
      have a12 := hK2.cell 12 _ rfl
      have a13 := hK2.cell 13 _ rfl
      have a14 := hK2.cell 14 _ rfl
      obtain ⟨Y, hY⟩ : ∃ Y, Lib.decDigits (ckNext ds) = Y := ⟨_, rfl⟩
      rw [hY] at hans
      obtain ⟨S, hS⟩ : ∃ S, ckSet name Y = S := ⟨_, rfl⟩
      obtain ⟨Y1, hY1⟩ : ∃ Y1, Y ++ [10] = Y1 := ⟨_, rfl⟩
      rw [hS, hY1] at hans
      have f1 : (F : Int) + (i : Int) = (N : Int) := by omega
      have f2 : (N : Int) + 1 = (N1 : Int) := by omega
      have f3 : (N1 : Int) ≤ 1000000001 := by omega
      have f4 : (N : Int) ≤ 1000000000 := by omega
      have f5 : (0 : Int) ≤ (N : Int) := Int.natCast_nonneg _
      have f6 : (0 : Int) ≤ (N1 : Int) := Int.natCast_nonneg _
      have HW2 := Lib.hid hW2; have HANS2 := Lib.hid hans; have HI2 := Lib.hid hb2
      have HE := Lib.hid (And.intro hN (And.intro hN1 (And.intro hds (And.intro hY (And.intro hS (And.intro hY1 (And.intro hCL hi)))))))
      have HFI := Lib.hid hFi
      clear hW2 hb12 hb2 hB2 hK2 hans hN hN1 hds hY hS hY1 hCL hdl hda hd0 hCLl hHB hi hFi hb hlt
      go_upto_region 11 with fail
      rw [HW2.out]
      go_wp2_with fail
      refine (HANS2.out).mono ?_
      rintro e w3 ⟨fv, rfl, hF3, hb3⟩
      obtain ⟨q3, cap3, rfl, p0, p1⟩ := hF3.at 1 _ rfl
      obtain ⟨Q, hQ⟩ : ∃ Q, w3.heap.size = Q := ⟨_, rfl⟩
      obtain ⟨W4, hW4⟩ : ∃ W, w3.alloc (.cells (rC 200 ⟨#[]⟩ (.slice (some ⟨q3, 0, none⟩) 2 cap3) ⟨Y1.toArray⟩) 46) = W := ⟨_, rfl⟩
      have hb34 : Below w3.heap.size w3 W4 := by rw [← hW4]; exact below1 _ _
      have hb4 : Below w.heap.size w W4 := (HI2.out.trans (hb3.mono HI2.out.size)).trans (hb34.mono (HI2.out.trans (hb3.mono HI2.out.size)).size)
      have hQ4 : BlkIs W4 Q (rC 200 ⟨#[]⟩ (.slice (some ⟨q3, 0, none⟩) 2 cap3) ⟨Y1.toArray⟩) 46 := by rw [← hW4, ← hQ]; exact blkIs_new _ _ _
      have p1' : W4.cell? ⟨q3, 3, none⟩ = some (.string ⟨S.toArray⟩) := ck_cell p1 hb34
      have HW4 := Lib.hid hW4; have HI4 := Lib.hid (And.intro hb4 (And.intro hQ4 p1'))
      clear hF3 hb3 p0 p1 hW4 hb34 hb4 hQ4 p1' HI2 HANS2 HW2 a0 a1 a2 a3 a4 a5 a6 a7 a8 a9 a10 a11 a12 a13 a14 e3 n3 hB hK
      go_upto_region 12 with fail
      rw [HW4.out]
      clear hQ
      by_cases hbg : 1000000000 < N1
      · have b1 : (1000000000 : Int) < (N1 : Int) := by omega
        have b2 : decide ((1000000000 : Int) < (N1 : Int)) = true := decide_eq_true b1
        have HB := Lib.hid HI4.out.1
        clear hbg HI4
        go_wp2
        go_ret
        exact ⟨rfl, HB.out⟩
      · have b1 : ¬ (1000000000 : Int) < (N1 : Int) := by omega
        have b2 : decide ((1000000000 : Int) < (N1 : Int)) = false := decide_eq_false b1
        have hYN : Lib.decDigits N1 = Y := by
          rw [← HE.out.2.2.2.1, ← HE.out.2.2.1, ckNext_dec N (by have := HE.out.2.1; omega), HE.out.2.1]
        have hYl := dec_len10 N1 (by omega)
        rw [hYN] at hYl
        have hdg := fun W => HDG.out N1 W (by omega)
        rw [hYN] at hdg
        obtain ⟨C1, hC1⟩ : ∃ C, ckL name Y = C := ⟨_, rfl⟩
        have hC1l : C1.length ≤ 4011 := by rw [← hC1]; have := HL.out.1; simp [ckL]; omega
        have e4 : (⟨Y.toArray⟩ : ByteArray) ++ ⟨#[10]⟩ = ⟨Y1.toArray⟩ := ck_ba Y [10] Y1 HE.out.2.2.2.2.2.1
        have e5 : (⟨A.toArray⟩ : ByteArray) ++ ⟨Y.toArray⟩ = ⟨C1.toArray⟩ := ck_ba A Y C1 (by rw [← HA.out, ← hC1]; simp [ckL])
        have e6 : (⟨C1.toArray⟩ : ByteArray) ++ ⟨#[59, 32, 80, 97, 116, 104, 61, 47]⟩ = ⟨S.toArray⟩ := ck_ba C1 [59, 32, 80, 97, 116, 104, 61, 47] S (by rw [← hC1, ← HE.out.2.2.2.2.1]; rfl)
        have n4 : ¬ 9223372036854775807 < Y.length + 1 := by omega
        have n5 : ¬ 9223372036854775807 < A.length + Y.length := by have := HL.out; omega
        have n6 : ¬ 9223372036854775807 < C1.length + 8 := by omega
        have q0 := HI4.out.2.1.cell 0 _ rfl
        have q2 := HI4.out.2.1.cell 2 _ rfl
        have q3' := HI4.out.2.1.cell 3 _ rfl
        have p1 := HI4.out.2.2
        have HDG1 := Lib.hid hdg
        have HC1 := Lib.hid (And.intro hC1 hYN)
        clear hYN hYl hdg hC1 hC1l hbg
        go_wp2_with fail
        refine (HDG1.out _).mono ?_
        rintro e w5 ⟨rfl, hb5⟩
        have HI5 := Lib.hid (And.intro (HI4.out.1.trans (hb5.mono HI4.out.1.size)) (And.intro (HI4.out.2.1.later hb5) (ck_cell HI4.out.2.2 hb5)))
        clear hb5 HI4 q0 q2 q3' p1
        have q0 := HI5.out.2.1.cell 0 _ rfl
        have q2 := HI5.out.2.1.cell 2 _ rfl
        have q3' := HI5.out.2.1.cell 3 _ rfl
        have p1 := HI5.out.2.2
        obtain ⟨j, hj⟩ : ∃ j, i + 1 = j := ⟨_, rfl⟩
        have j1 : (i : Int) + 1 = (j : Int) := by omega
        have j2 : (j : Int) ≤ (Z1 : Int) := by omega
        have HJ := Lib.hid hj
        clear hj
        go_wp2
        go_roundw
        case rel => exact ⟨j, C1, rfl, rfl, by rw [← HC1.out.1, show F + j = N1 by have := HE.out.1; have := HE.out.2.1; have := HJ.out; omega, HC1.out.2], by omega, by have := HE.out.1; have := HE.out.2.1; have := HJ.out; omega, HI5.out.1⟩
        case measure => have := HJ.out; simp [intOf]; omega
    · obtain rfl : i = Z1 := by omega
      have HB := Lib.hid hb
      clear hb hCL
      go_wp2
      go_ret
      exact ⟨rfl, HB.out⟩
end Go.Proofs.YtdlpbpikhmciaaaGreatDoor
