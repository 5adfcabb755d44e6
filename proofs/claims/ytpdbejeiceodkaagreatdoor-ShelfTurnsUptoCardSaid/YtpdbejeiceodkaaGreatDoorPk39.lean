/- TgRd, TurnP, LawSTn: texts of the seat, one behind the other (a claim holds at most sixty). Conditions: each theorem names its own. -/
import Derived.Test.YtpdbejeiceodkaaGreatDoorPk22
import Derived.Test.YtpdbejeiceodkaaGreatDoorPk37
import Derived.Test.YtpdbejeiceodkaaGreatDoorPk38
namespace Go.Proofs.YtpdbejeiceodkaaGreatDoor
open Go.RowKit
set_option linter.unusedSimpArgs false
set_option linter.unusedVariables false
set_option maxRecDepth 1000000
theorem oisbyte_any (a : Nat) (w : World) (h0 : 35 ≤ a) (h1 : a ≤ 126) : Calls Tryz.prog 97 #[.int .u8 (a : Int)] w fun e w' => e = .returned (.bool true) ∧ w' = w := by
  have b0 : ((a : Int) == 33) = false := by simp; omega
  have b1 : (35 : Int) ≤ (a : Int) := by omega
  have b2 : (a : Int) ≤ 126 := by omega
  clear h0 h1
  go_enter Tryz.func97, Tryz.ntmps97
  go_wp2
  go_ret
  exact ⟨rfl, rfl⟩
abbrev zTg : Array Value := #[.bool false, .string ⟨#[]⟩]
theorem results_tagT {fn : Func} {p u v : Tmp} (h : fn.results = #[.cell p 72, .tmp u, .tmp v]) (tmps : Array Value) (w : World) (g : Nat) (cs : Array Value) (fr : Nat × Nat)
    (hp : tmps.getD p undef = .pointer (some ⟨g, 0, none⟩)) (hg : w.heap[g]? = some (.cells cs 72 fr)) (hs : cs.size = 2) :
    (results fn tmps).run Tryz.prog w = .ok (.tuple #[.agg cs, tmps.getD u undef, tmps.getD v undef]) w := by
  have e : (results fn tmps).run Tryz.prog w = ((asAddr (tmps.getD p undef)).run Tryz.prog w).andThen fun a w₁ => ((loadVar 72 a).run Tryz.prog w₁).andThen fun x w₂ => .ok (.tuple #[x, tmps.getD u undef, tmps.getD v undef]) w₂ := by
    simp only [results, h]
    simp [Sem.run_bind, Result.andThen]
  rw [e, hp]
  have := run_loadVar_row (P := Tryz.prog) w g 72 72 cs fr _ hg Tryz.underlying72 rfl (by rw [hs]; kernel_rfl)
  simp [asAddr, this, Result.andThen]
def okT (c : UInt8) : Prop := 35 ≤ c.toNat ∧ c.toNat ≤ 126
theorem tg_mid (B : List UInt8) (i : Nat) (h1 : 1 ≤ i) (h2 : i < B.length + 1) : (34 :: (B ++ [34]))[i]? = B[i - 1]? := by
  obtain ⟨j, rfl⟩ : ∃ j, i = j + 1 := ⟨i - 1, by omega⟩
  rw [List.getElem?_cons_succ, List.getElem?_append_left (by omega)]
  rfl
theorem tg_end (B : List UInt8) : (34 :: (B ++ [34]))[B.length + 1]? = some 34 := by
  rw [List.getElem?_cons_succ, List.getElem?_append_right (Nat.le_refl _), Nat.sub_self]; rfl
set_option maxHeartbeats 4000000 in
theorem oread_tag (B : List UInt8) (w : World) (hB : B.length ≤ 250) (hok : ∀ c ∈ B, okT c) : Calls Tryz.prog 63 #[.string ⟨(34 :: (B ++ [34])).toArray⟩] w fun e w' => e = .returned (.tuple #[.agg #[.bool false, .string ⟨B.toArray⟩], .int .i64 ((B.length + 2 : Nat) : Int), .bool true]) ∧ Below w.heap.size w w' := by
  have hpre := Tryz.strings_HasPrefix ⟨(34 :: (B ++ [34])).toArray⟩ ⟨#[87]⟩ w
  obtain ⟨s, hs⟩ : ∃ s : ByteArray, ⟨(34 :: (B ++ [34])).toArray⟩ = s := ⟨_, rfl⟩
  have hsl : s.data.toList = 34 :: (B ++ [34]) := by rw [← hs]
  have hsz : s.size = B.length + 2 := by rw [← size_list, hsl]; simp
  have HPR := Lib.hid (show ∀ W, Calls Tryz.prog 96 #[.string s, .string ⟨#[87]⟩] W fun e w' => e = .returned (.bool false) ∧ w' = W from fun W => by have := Tryz.strings_HasPrefix s ⟨#[87]⟩ W; rw [hsl] at this; exact this)
  rw [hs]
  have hcut : s.extract 1 (B.length + 1) = ⟨B.toArray⟩ := ba_ext (by rw [ext_mk, hsl]; simp)
  obtain ⟨p, hp⟩ : ∃ p, w.heap.size = p := ⟨_, rfl⟩
  obtain ⟨q, hq⟩ : ∃ q, p + 1 = q := ⟨_, rfl⟩
  obtain ⟨W2, hW2⟩ : ∃ W2, (w.alloc (.cells zTg 72)).alloc (.cells zTg 72) = W2 := ⟨_, rfl⟩
  have hb2 : Below w.heap.size w W2 := by rw [← hW2]; exact ((Below.refl _ w).alloc (Nat.le_refl _) _).alloc (by simp) _
  have hP2 : BlkIs W2 p zTg 72 := by rw [← hW2, ← hp]; exact (blkIs_new w _ _).alloc _
  have hQ2 : BlkIs W2 q zTg 72 := by
    have := blkIs_new (w.alloc (.cells zTg 72)) zTg 72
    rw [World.size_alloc, hW2, hp, hq] at this
    exact this
  have hpq : p ≠ q := by omega
  have hq1 : w.heap.size ≤ q := by omega
  have hQ3 := hQ2.set 1 (.string ⟨B.toArray⟩)
  have hP3 : BlkIs (W2.setCell ⟨q, 1, none⟩ (.string ⟨B.toArray⟩)) p zTg 72 := hP2.setOther _ _ hpq
  obtain ⟨W3, hW3⟩ : ∃ W3, W2.setCell ⟨q, 1, none⟩ (.string ⟨B.toArray⟩) = W3 := ⟨_, rfl⟩
  have hb3 : Below w.heap.size w W3 := by rw [← hW3]; exact hb2.setCell (p := ⟨q, 1, none⟩) hq1 _
  rw [hW3] at hQ3 hP3
  have hF := (hP3.set 0 (.bool false)).set 1 (.string ⟨B.toArray⟩)
  have hbF : Below w.heap.size w ((W3.setCell ⟨p, 0, none⟩ (.bool false)).setCell ⟨p, 1, none⟩ (.string ⟨B.toArray⟩)) := (hb3.setCell (p := ⟨p, 0, none⟩) (Nat.le_of_eq hp) _).setCell (p := ⟨p, 1, none⟩) (Nat.le_of_eq hp) _
  have HW2 := Lib.hid (And.intro hW2 hW3); have HQ := Lib.hid (And.intro hQ2 (And.intro hP3 hQ3)); have HF := Lib.hid (And.intro hF hbF); have HPQ := Lib.hid (And.intro hp hq)
  have HOK := Lib.hid hok; have HSL := Lib.hid hsl; have HCUT := Lib.hid hcut
  have HIB := Lib.hid oisbyte_any
  clear hW2 hW3 hb2 hP2 hQ2 hQ3 hP3 hb3 hF hbF hpq hq1 hsl hs hcut hok hpre hp hq
  go_enter Tryz.func63, Tryz.ntmps63
  go_upto_region 3 with fail
  rw [HW2.out.1, HPQ.out.1, HPQ.out.2]
  go_wp2_with fail
  refine (HPR.out W2).mono ?_
  rintro e w3 ⟨rfl, hw3⟩
  subst hw3
  have h0 : s[0]'(by omega) = 34 := by
    have := list_get s 0 (by omega)
    rw [HSL.out] at this
    simpa using this.symm
  have n0 : ¬ (s.size : Int) ≤ 0 := by omega
  go_wp2
  go_loopw [6] (fun iv wr => ∃ i : Nat, iv = .int .i64 i ∧ 1 ≤ i ∧ i ≤ B.length + 1 ∧ wr = w3) (fun iv _ => s.size - (intOf iv).toNat)
  case atStart => exact ⟨1, rfl, Nat.le_refl _, Nat.le_add_left _ _, rfl⟩
  case round =>
    obtain ⟨i, rfl, hi1, hi, rfl⟩ := hrel
    have i0 : (0 : Int) ≤ (i : Int) := Int.natCast_nonneg _
    have hil : i < s.size := by omega
    have i1 : (i : Int) < (s.size : Int) := by omega
    have hget := list_get s i hil
    obtain ⟨c, hc⟩ : ∃ c, s[i]'hil = c := ⟨_, rfl⟩
    rw [hc, HSL.out] at hget
    by_cases hend : i = B.length + 1
    case neg =>
      have hlt : i < B.length + 1 := by omega
      rw [tg_mid B i hi1 hlt] at hget
      have hk := HOK.out c (List.mem_of_getElem? hget)
      obtain ⟨a, ha⟩ : ∃ a, c.toNat = a := ⟨_, rfl⟩
      have hk' : 35 ≤ a ∧ a ≤ 126 := by rw [← ha]; exact hk
      have b0 : ((a : Int) == 34) = false := by simp; omega
      have b1 : ¬ (256 : Int) ≤ (i : Int) - 1 := by omega
      have HI := Lib.hid (HIB.out a wr hk'.1 hk'.2)
      have hwi := wrap64_small i (by omega)
      have HWI := Lib.hid (And.intro hwi hlt)
      clear hwi hlt hk hk' hget hend HOK
      go_wp2_with fail
      refine (HI.out).mono ?_
      rintro e w4 ⟨rfl, hw4⟩
      subst hw4
      go_wp2
      have hwi := HWI.out.1
      go_roundw
      case rel => (try rw [hwi]); clear hwi; exact ⟨i + 1, by go_num, by omega, by have := HWI.out.2; omega, by first | rfl | trivial⟩
      case measure => (try rw [hwi]); clear hwi; simp [intOf]; omega
    have hget2 := hget
    rw [hend, tg_end] at hget2
    injection hget2 with hget2
    subst hget2
    have hcut' : s.extract 1 i = ⟨B.toArray⟩ := by rw [hend]; exact HCUT.out
    have hwe : (i : Int) + 1 = ((B.length + 2 : Nat) : Int) := by omega
    have g1 : (1 : Int) ≤ (i : Int) := by omega
    have g2 : (i : Int) ≤ (s.size : Int) := by omega
    have HE := Lib.hid (And.intro hcut' hwe)
    have x1 : wr.cell? ⟨q, 1, none⟩ = some (.string ⟨#[]⟩) := HQ.out.1.cell 1 _ rfl
    have y1 := HQ.out.1.free 1
    clear HOK hget hend hcut' hwe hi1 hi
    go_upto_region 19 with fail
    rw [HE.out.1, HW2.out.2]
    clear x1 y1
    have z0 : W3.cell? ⟨q, 0, none⟩ = some (.bool false) := HQ.out.2.2.cell 0 _ rfl
    have z1 : W3.cell? ⟨q, 1, none⟩ = some (.string ⟨B.toArray⟩) := HQ.out.2.2.cell 1 _ rfl
    have v0 : W3.cell? ⟨p, 0, none⟩ = some (.bool false) := HQ.out.2.1.cell 0 _ rfl
    have v1 : W3.cell? ⟨p, 1, none⟩ = some (.string ⟨#[]⟩) := HQ.out.2.1.cell 1 _ rfl
    have y0 := HQ.out.2.1.free 0
    have y1 := HQ.out.2.1.free 1
    go_wp2
    refine bodyPost_ret (v := .tuple #[.agg #[.bool false, .string ⟨B.toArray⟩], .int .i64 ((i : Int) + 1), .bool true]) ?r rfl ⟨by rw [HE.out.2], HF.out.2⟩
    case r => exact results_tagT (p := 2) (u := 3) (v := 4) rfl _ _ p _ (0, 0) rfl HF.out.1 rfl
set_option maxHeartbeats 4000000 in
theorem oparse_tag (B : List UInt8) (w : World) (hB : B.length ≤ 250) (hok : ∀ c ∈ B, okT c) : Calls Tryz.prog 34 #[.string ⟨(34 :: (B ++ [34])).toArray⟩] w fun e w' => e = .returned (.tuple #[.agg #[.bool false, .string ⟨B.toArray⟩], .int .i64 0, .int .i64 0]) ∧ Below w.heap.size w w' := by
  have HR := Lib.hid (fun W => oread_tag B W hB hok)
  obtain ⟨s, hs⟩ : ∃ s : ByteArray, ⟨(34 :: (B ++ [34])).toArray⟩ = s := ⟨_, rfl⟩
  have hsz : s.size = B.length + 2 := by rw [← hs, size_mk]; simp
  rw [hs] at HR ⊢
  obtain ⟨p, hp⟩ : ∃ p, w.heap.size = p := ⟨_, rfl⟩
  obtain ⟨W2, hW2⟩ : ∃ W2, w.alloc (.cells zTg 72) = W2 := ⟨_, rfl⟩
  have hb2 : Below w.heap.size w W2 := by rw [← hW2]; exact (Below.refl _ w).alloc (Nat.le_refl _) _
  have hP2 : BlkIs W2 p zTg 72 := by rw [← hW2, ← hp]; exact blkIs_new _ _ _
  obtain ⟨E, hE⟩ : ∃ E : Nat, B.length + 2 = E := ⟨_, rfl⟩
  rw [hE] at HR hsz
  have HW2 := Lib.hid hW2; have HP2 := Lib.hid (And.intro hb2 hP2); have HPP := Lib.hid hp
  clear hW2 hb2 hP2 hs hE hok hp
  go_enter Tryz.func34, Tryz.ntmps34
  go_upto_region 1 with fail
  rw [HW2.out, HPP.out]
  go_wp2_with fail
  refine (HR.out W2).mono ?_
  rintro e w3 ⟨rfl, hb3⟩
  obtain ⟨W4, hW4⟩ : ∃ W4, w3.alloc (.cells #[.bool false, .string ⟨B.toArray⟩] 72) = W4 := ⟨_, rfl⟩
  obtain ⟨q, hq⟩ : ∃ q, w3.heap.size = q := ⟨_, rfl⟩
  have hQ4 : BlkIs W4 q #[.bool false, .string ⟨B.toArray⟩] 72 := by rw [← hW4, ← hq]; exact blkIs_new _ _ _
  have hP4 : BlkIs W4 p zTg 72 := by rw [← hW4]; exact (HP2.out.2.later hb3).alloc _
  have hw3 := HP2.out.1.trans (hb3.mono HP2.out.1.size)
  have hb4 : Below w.heap.size w W4 := by rw [← hW4]; exact hw3.alloc hw3.size _
  have hF := (hP4.set 0 (.bool false)).set 1 (.string ⟨B.toArray⟩)
  have hbF : Below w.heap.size w ((W4.setCell ⟨p, 0, none⟩ (.bool false)).setCell ⟨p, 1, none⟩ (.string ⟨B.toArray⟩)) := (hb4.setCell (p := ⟨p, 0, none⟩) (Nat.le_of_eq HPP.out) _).setCell (p := ⟨p, 1, none⟩) (Nat.le_of_eq HPP.out) _
  have HW4 := Lib.hid hW4; have HQQ := Lib.hid hq; have HF := Lib.hid (And.intro hF hbF); have HB4 := Lib.hid (And.intro hQ4 hP4)
  have hd : decide (E < s.size) = false := decide_eq_false (by omega)
  clear hW4 hq hF hbF hQ4 hP4 hb4 hw3 hb3
  go_upto_region 2 with fail
  rw [HW4.out, HQQ.out]
  have z0 : W4.cell? ⟨q, 0, none⟩ = some (.bool false) := HB4.out.1.cell 0 _ rfl
  have z1 : W4.cell? ⟨q, 1, none⟩ = some (.string ⟨B.toArray⟩) := HB4.out.1.cell 1 _ rfl
  have v0 : W4.cell? ⟨p, 0, none⟩ = some (.bool false) := HB4.out.2.cell 0 _ rfl
  have v1 : W4.cell? ⟨p, 1, none⟩ = some (.string ⟨#[]⟩) := HB4.out.2.cell 1 _ rfl
  have y0 := HB4.out.2.free 0
  have y1 := HB4.out.2.free 1
  go_wp2
  refine bodyPost_ret (v := .tuple #[.agg #[.bool false, .string ⟨B.toArray⟩], .int .i64 0, .int .i64 0]) ?r rfl ⟨rfl, HF.out.2⟩
  case r => exact results_tagT (p := 2) (u := 3) (v := 4) rfl _ _ p _ (0, 0) rfl HF.out.1 rfl
end Go.Proofs.YtpdbejeiceodkaaGreatDoor
namespace Go.Proofs.YtpdbejeiceodkaaGreatDoor
open Go.RowKit
set_option linter.unusedSimpArgs false
set_option linter.unusedVariables false
set_option maxRecDepth 1000000
theorem hx_inj (a b : Nat) (ha : a < 16) (hb : b < 16) (h : hx a = hx b) : a = b := by
  have : ∀ a : Fin 16, ∀ b : Fin 16, hx a = hx b → a = b := by decide
  have := this ⟨a, ha⟩ ⟨b, hb⟩ h
  exact congrArg Fin.val this
theorem hx_ok (a : Nat) (ha : a < 16) : okT (hx a) := by
  have : ∀ a : Fin 16, 35 ≤ (hx a).toNat ∧ (hx a).toNat ≤ 126 := by decide
  exact this ⟨a, ha⟩
theorem hexL_inj : ∀ l m : List UInt8, hexL l = hexL m → l = m
  | [], [], _ => rfl
  | [], c :: r, h => by rw [hexL, hexL] at h; cases h
  | c :: r, [], h => by rw [hexL, hexL] at h; cases h
  | c :: r, d :: q, h => by
    rw [hexL, hexL] at h
    injection h with h1 h
    injection h with h2 h
    have lc : c.toNat < 256 := c.toBitVec.isLt
    have ld : d.toNat < 256 := d.toBitVec.isLt
    have e1 := hx_inj _ _ (by omega) (by omega) h1
    have e2 := hx_inj _ _ (by omega) (by omega) h2
    have e : c = d := UInt8.toNat_inj.1 (by omega)
    rw [e, hexL_inj r q h]
theorem hexL_ok : ∀ (l : List UInt8), ∀ c ∈ hexL l, okT c
  | [], c, h => by rw [hexL] at h; cases h
  | d :: r, c, h => by
    have ld : d.toNat < 256 := d.toBitVec.isLt
    rw [hexL] at h
    rcases List.mem_cons.1 h with rfl | h
    · exact hx_ok _ (by omega)
    rcases List.mem_cons.1 h with rfl | h
    · exact hx_ok _ (by omega)
    exact hexL_ok r c h
theorem dec_ok (n : Nat) : ∀ c ∈ Lib.decDigits n, okT c := by
  induction n using Nat.strongRecOn with
  | ind n ih =>
    intro c h
    rw [Lib.decDigits] at h
    have one : ∀ d, d < 10 → okT (UInt8.ofNat (48 + d)) := by
      intro d hd
      have : ∀ d : Fin 10, 35 ≤ (UInt8.ofNat (48 + d)).toNat ∧ (UInt8.ofNat (48 + d)).toNat ≤ 126 := by decide
      exact this ⟨d, hd⟩
    by_cases h1 : n < 10
    · rw [dif_pos h1] at h
      rw [List.mem_singleton.1 h]
      exact one n h1
    · rw [dif_neg h1] at h
      rcases List.mem_append.1 h with h | h
      · exact ih _ (by omega) c h
      · rw [List.mem_singleton.1 h]
        exact one _ (by omega)
/-- What stands between a tag's quotes. -/
def tagB (f : Fil) : List UInt8 := hexL (beL (fnv (tgT f)) 8) ++ 45 :: Lib.decDigits f.b.length
theorem tagL_B (f : Fil) : tagL f = 34 :: (tagB f ++ [34]) := by unfold tagL tagB; simp
theorem tagB_ok (f : Fil) : ∀ c ∈ tagB f, okT c := by
  intro c h
  unfold tagB at h
  rcases List.mem_append.1 h with h | h
  · exact hexL_ok _ c h
  rcases List.mem_cons.1 h with rfl | h
  · exact ⟨by decide, by decide⟩
  · exact dec_ok _ c h
theorem tagB_len (f : Fil) (h : f.b.length ≤ 1073741824) : (tagB f).length ≤ 250 := by
  unfold tagB
  have := dec_len20 19 f.b.length (Nat.lt_of_le_of_lt h (by decide))
  rw [List.length_append, List.length_cons, hexL_len, beL_len]
  omega
theorem up256 (X Y N M : Nat) (hM : N * 256 = M) (h1 : X / M = Y / M) (h2 : X / N % 256 = Y / N % 256) : X / N = Y / N := by
  have a := Nat.div_div_eq_div_mul X N 256
  have b := Nat.div_div_eq_div_mul Y N 256
  rw [hM] at a b
  have c := Nat.div_add_mod (X / N) 256
  have d := Nat.div_add_mod (Y / N) 256
  rw [← c, ← d, a, b, h1, h2]
theorem be1_eq (X Y k : Nat) (h : be1 X k = be1 Y k) : X / 2 ^ (56 - 8 * k) % 256 = Y / 2 ^ (56 - 8 * k) % 256 := by
  have this : ((be1 X k).toNat : Int) = ((be1 Y k).toNat : Int) := by rw [h]
  rw [← be1_int, ← be1_int] at this
  have e1 : ((X / 2 ^ (56 - 8 * k) % 256 : Nat) : Int) = (X : Int) / 2 ^ (56 - 8 * k) % 256 := by simp
  have e2 : ((Y / 2 ^ (56 - 8 * k) % 256 : Nat) : Int) = (Y : Int) / 2 ^ (56 - 8 * k) % 256 := by simp
  rw [← e1, ← e2] at this
  exact Int.ofNat.inj this
theorem beL_inj (X Y : Nat) (hX : X < 18446744073709551616) (hY : Y < 18446744073709551616) (h : beL X 8 = beL Y 8) : X = Y := by
  have e : ∀ k, k < 8 → be1 X k = be1 Y k := by
    have h' : [be1 X 0, be1 X 1, be1 X 2, be1 X 3, be1 X 4, be1 X 5, be1 X 6, be1 X 7] = [be1 Y 0, be1 Y 1, be1 Y 2, be1 Y 3, be1 Y 4, be1 Y 5, be1 Y 6, be1 Y 7] := h
    simp only [List.cons.injEq, and_true] at h'
    intro k hk
    rcases kk8 k hk with rfl | rfl | rfl | rfl | rfl | rfl | rfl | rfl
    · exact h'.1
    · exact h'.2.1
    · exact h'.2.2.1
    · exact h'.2.2.2.1
    · exact h'.2.2.2.2.1
    · exact h'.2.2.2.2.2.1
    · exact h'.2.2.2.2.2.2.1
    · exact h'.2.2.2.2.2.2.2
  have q0 := be1_eq X Y 0 (e 0 (by decide))
  have t0 : X / 2 ^ 64 = Y / 2 ^ 64 := by rw [Nat.div_eq_of_lt hX, Nat.div_eq_of_lt hY]
  have t1 := up256 X Y (2 ^ 56) (2 ^ 64) (by decide) t0 (be1_eq X Y 0 (e 0 (by decide)))
  have t2 := up256 X Y (2 ^ 48) (2 ^ 56) (by decide) t1 (be1_eq X Y 1 (e 1 (by decide)))
  have t3 := up256 X Y (2 ^ 40) (2 ^ 48) (by decide) t2 (be1_eq X Y 2 (e 2 (by decide)))
  have t4 := up256 X Y (2 ^ 32) (2 ^ 40) (by decide) t3 (be1_eq X Y 3 (e 3 (by decide)))
  have t5 := up256 X Y (2 ^ 24) (2 ^ 32) (by decide) t4 (be1_eq X Y 4 (e 4 (by decide)))
  have t6 := up256 X Y (2 ^ 16) (2 ^ 24) (by decide) t5 (be1_eq X Y 5 (e 5 (by decide)))
  have t7 := up256 X Y (2 ^ 8) (2 ^ 16) (by decide) t6 (be1_eq X Y 6 (e 6 (by decide)))
  have t8 := up256 X Y (2 ^ 0) (2 ^ 8) (by decide) t7 (be1_eq X Y 7 (e 7 (by decide)))
  simpa using t8
def turF (f : Fil) (k : Nat) (d : UInt8) : Fil := ⟨f.p, f.m, f.c, f.l, f.b.set k d, f.t⟩
theorem tag_turn (f : Fil) (k : Nat) (d : UInt8) (hk : k < f.b.length) (hne : f.b[k] ≠ d) : tagL (turF f k d) ≠ tagL f := by
  intro e
  unfold tagL at e
  injection e with _ e
  have hl := List.append_inj_left e (by rw [hexL_len, hexL_len, beL_len, beL_len])
  have h1 := beL_inj _ _ (fnv_lt' _) (fnv_lt' _) (hexL_inj _ _ hl)
  obtain ⟨P, hP⟩ : ∃ P, f.m ++ 0 :: (f.c ++ 0 :: (f.l ++ [0])) = P := ⟨_, rfl⟩
  have e1 : tgT f = P ++ f.b := by rw [← hP]; simp [tgT]
  have e2 : tgT (turF f k d) = P ++ f.b.set k d := by rw [← hP]; simp [tgT, turF]
  have e3 : P ++ f.b.set k d = (P ++ f.b).set (P.length + k) d := by rw [List.set_append, if_neg (by omega), Nat.add_sub_cancel_left]
  rw [e1, e2, e3] at h1
  refine fnv_turn (P ++ f.b) (P.length + k) (by rw [List.length_append]; omega) d ?_ h1.symm
  rw [List.getElem_append_right (by omega)]
  simpa using hne
theorem fck_one (f : Fil) : fck [] [f] = if rgt f = false then (0, 170) else (0, 0) := by
  cases hr : rgt f <;> simp [fck, hr]
theorem fck_turn (f : Fil) (k : Nat) (d : UInt8) : fck [] [turF f k d] = fck [] [f] := by rw [fck_one, fck_one]; rfl
end Go.Proofs.YtpdbejeiceodkaaGreatDoor
namespace Go.Proofs.YtpdbejeiceodkaaGreatDoor
open Go.RowKit
set_option linter.unusedSimpArgs false
set_option linter.unusedVariables false
set_option maxRecDepth 1000000
theorem bytesWorld_frozen (w : World) (e : TypeId) (s : ByteArray) (j : Nat) (hj : j < s.size) : (Lib.bytesWorld w e s).frozen? ⟨w.heap.size, j, none⟩ = false := by
  have hn : s.size ≤ (Lib.bytesCells w e s).size := by
    unfold Lib.bytesCells; rw [Array.size_append, Array.size_map]; exact Nat.le_add_right _ _
  unfold World.frozen?
  rw [Lib.bytesWorld_at_new]
  show (decide ((Lib.bytesCells w e s).size ≤ j) && decide (j < (Lib.bytesCells w e s).size + 1)) = false
  rw [decide_eq_false (by omega)]; rfl
theorem bytesWorld_below (w : World) (e : TypeId) (s : ByteArray) : Below w.heap.size w (Lib.bytesWorld w e s) :=
  ⟨rfl, rfl, rfl, by rw [Lib.bytesWorld_size]; omega, fun k hk => Lib.bytesWorld_at_old w e s k hk⟩
theorem set_cells (w : World) (s : ByteArray) (k : Nat) (hk : k < s.size) (b : UInt8) (e : TypeId) : ∀ j (h : j < (s.data.toList.set k b).length), ((Lib.bytesWorld w e s).setCell ⟨w.heap.size, k, none⟩ (.int .u8 (b.toNat : Int))).cell? ⟨w.heap.size, 0 + j, none⟩ = some (.int .u8 ((s.data.toList.set k b)[j]'h).toNat) := by
  intro j h
  have hj : j < s.size := by rw [List.length_set, size_list] at h; exact h
  have hc := Lib.bytesWorld_cell w e s k hk
  rw [Nat.zero_add, List.getElem_set]
  by_cases e1 : k = j
  · subst e1
    rw [if_pos rfl, World.cell?_setCell_same _ _ _ hc]
  · rw [if_neg e1, World.cell?_setCell_other _ _ _ _ (by intro e; injection e with _ e _; omega), Lib.bytesWorld_cell w e s j hj]
    have : s.data.toList.getD j 0 = s.data.toList[j]'(by rw [size_list]; exact hj) := by simp [List.getD, hj]
    rw [this]
theorem filsIn_one {W : World} {g : Nat} {f : Fil} (h : BlkIs W g (fC f.p f.m f.c f.l f.b f.t) 46) : FilsIn W (.slice (some ⟨g, 0, none⟩) 1 1) [f] := by
  refine ⟨_, 1, rfl, fun i p hp => ?_⟩
  have hi : i = 0 := by
    have := (List.getElem?_eq_some_iff.1 hp).1
    simp at this; exact this
  subst hi
  obtain rfl : f = p := by simpa using hp
  exact ⟨g, 0, rfl, h.cell 0 _ rfl, h.cell 1 _ rfl, h.cell 2 _ rfl, h.cell 3 _ rfl, h.cell 4 _ rfl, h.cell 5 _ rfl, h.lt⟩
set_option maxHeartbeats 16000000 in
theorem shelfTurns_any (f : Fil) (i : Int) (d : UInt8) (mm : Int) (w : World) (hN : filLen f ≤ 1073741000) (hx : w.cell? ⟨0, 0, none⟩ = some (.int .i64 mm)) (hg : SgAt w) (hP : PowAt w) :
    Calls Tryz.prog 11 #[.agg (fC f.p f.m f.c f.l f.b f.t), .int .i64 i, .int .u8 (d.toNat : Int)] w fun e w' => e = .returned (.bool true) ∧ Below w.heap.size w w' := by
  have HMD := Lib.hid (fun v W (hb : Below w.heap.size w W) (h : FilsIn W v [f]) => made17_any v [f] mm W (by simp only [totG, List.length_singleton]; omega) h (mx_later (B := 0) hx hb) (hg.below hb))
  have HNW := Lib.hid (fun (k : Nat) v W (hb : Below w.heap.size w W) (h : FilsIn W v [turF f k d]) => onew_any v [turF f k d] mm W (by have : filLen (turF f k d) = filLen f := (by simp [filLen, turF]); simp only [totG, List.length_singleton]; omega) h (mx_later (B := 0) hx hb) (hg.below hb))
  have HTG := Lib.hid (fun (s : Nat) (f' : Fil) W (hb : Below w.heap.size w W) (h : ShIs W w.heap.size s [f']) (hf : filLen f' ≤ 1073741824) => show Calls Tryz.prog 31 #[.pointer (some ⟨s, 0, none⟩), .int .i64 0] W fun e w' => e = .returned (.tuple #[.string ⟨(tagL f').toArray⟩, .bool true]) ∧ Below W.heap.size W w' from by
    obtain ⟨g, cap, m, h1, h2⟩ := h.file 0 f' rfl
    exact otagS s 1 0 g cap (.map (some m)) f' W h1 (by decide) h2 hf (hP.below hb))
  have HLN := Lib.hid hN
  have hck : fck [] [f] = (if rgt f = false then (0, 170) else (0, 0)) := fck_one f
  unfold MadP at HMD
  unfold NwPost at HNW
  obtain ⟨⟨R1, R2⟩, hR⟩ : ∃ r, fck [] [f] = r := ⟨_, rfl⟩
  rw [hR] at HMD
  have HRT := Lib.hid (show ∀ k, fck [] [turF f k d] = (R1, R2) from fun k => by rw [fck_turn, hR])
  clear hx hg hP hN hck hR
  obtain ⟨W2, hW2⟩ : ∃ W2, w.alloc (.cells (fC f.p f.m f.c f.l f.b f.t) 46) = W2 := ⟨_, rfl⟩
  obtain ⟨W3, hW3⟩ : ∃ W3, W2.alloc (.cells (fC f.p f.m f.c f.l f.b f.t) 46) = W3 := ⟨_, rfl⟩
  obtain ⟨fb, hfb⟩ : ∃ fb, w.heap.size = fb := ⟨_, rfl⟩
  have hF2 : BlkIs W2 fb (fC f.p f.m f.c f.l f.b f.t) 46 := by rw [← hW2, ← hfb]; exact blkIs_new _ _ _
  have hb2 : Below w.heap.size w W2 := by rw [← hW2]; exact (Below.refl _ w).alloc (Nat.le_refl _) _
  have hF3 : BlkIs W3 fb (fC f.p f.m f.c f.l f.b f.t) 46 := by rw [← hW3]; exact hF2.alloc _
  have hb3 : Below w.heap.size w W3 := by rw [← hW3]; exact hb2.alloc hb2.size _
  have hl3 : FilsIn W3 (.slice (some ⟨W2.heap.size, 0, none⟩) 1 1) [f] := filsIn_one (by rw [← hW3]; exact blkIs_new _ _ _)
  have HW := Lib.hid (And.intro hW2 hW3); have HF2 := Lib.hid hF2; have H3 := Lib.hid (And.intro hF3 (And.intro hb3 hl3)); have HFB := Lib.hid hfb
  clear hW2 hW3 hF2 hb2 hF3 hb3 hl3 hfb
  go_enter Tryz.func11, Tryz.ntmps11
  go_upto_region 1 with fail
  rw [HW.out.1, HFB.out]
  have c0 : W2.cell? ⟨fb, 0, none⟩ = some (.string ⟨f.p.toArray⟩) := HF2.out.cell 0 _ rfl
  have c1 : W2.cell? ⟨fb, 1, none⟩ = some (.string ⟨f.m.toArray⟩) := HF2.out.cell 1 _ rfl
  have c2 : W2.cell? ⟨fb, 2, none⟩ = some (.string ⟨f.c.toArray⟩) := HF2.out.cell 2 _ rfl
  have c3 : W2.cell? ⟨fb, 3, none⟩ = some (.string ⟨f.l.toArray⟩) := HF2.out.cell 3 _ rfl
  have c4 : W2.cell? ⟨fb, 4, none⟩ = some (.string ⟨f.b.toArray⟩) := HF2.out.cell 4 _ rfl
  have c5 : W2.cell? ⟨fb, 5, none⟩ = some (.int .i64 f.t) := HF2.out.cell 5 _ rfl
  go_wp2_with fail
  rw [HW.out.2]
  refine (HMD.out _ W3 H3.out.2.1 H3.out.2.2).mono ?_
  rintro e w4 ⟨pv, rfl, hb4, heq⟩
  clear c0 c1 c2 c3 c4 c5
  have HB4 := Lib.hid (H3.out.2.1.trans (hb4.mono H3.out.2.1.size))
  have HF4 := Lib.hid (H3.out.1.later hb4)
  by_cases h0 : R2 = 0
  case neg =>
    have b3 : decide (R2 = 0) = false := decide_eq_false h0
    rw [b3]
    clear heq h0 b3 hb4
    go_wp2
    go_ret
    exact ⟨rfl, HB4.out⟩
  obtain ⟨s, hs1, hs2⟩ := heq h0
  subst hs1
  subst h0
  have b3 : decide (0 = 0) = true := rfl
  rw [b3]
  have HS := Lib.hid (hs2.mono H3.out.2.1.size)
  clear hs2 b3 heq hb4
  have hTG := tagL_B f
  have hBok := tagB_ok f
  have hBl := tagB_len f (by have := HLN.out; unfold filLen at this; omega)
  obtain ⟨TB, hTB⟩ : ∃ T, tagB f = T := ⟨_, rfl⟩
  rw [hTB] at hTG hBok hBl
  have HPA := Lib.hid (fun W => oparse_tag TB W hBl hBok)
  rw [← hTG] at HPA
  have HT := Lib.hid (HTG.out s f w4 HB4.out HS.out (by have := HLN.out; omega))
  obtain ⟨TG, hTGe⟩ : ∃ T, tagL f = T := ⟨_, rfl⟩
  rw [hTGe] at HT HPA
  have HTGE := Lib.hid hTGe
  clear hTG hBok hBl hTB hTGe
  go_wp2_with fail
  refine (HT.out).mono ?_
  rintro e w5 ⟨rfl, hb5⟩
  have HB5 := Lib.hid (HB4.out.trans (hb5.mono HB4.out.size))
  have HF5 := Lib.hid (HF4.out.later hb5)
  clear hb5 HT
  go_wp2_with fail
  refine (HPA.out w5).mono ?_
  rintro e w6 ⟨rfl, hb6⟩
  obtain ⟨W7, hW7⟩ : ∃ W, w6.alloc (.cells #[.bool false, .string ⟨TB.toArray⟩] 72) = W := ⟨_, rfl⟩
  obtain ⟨tb, htb⟩ : ∃ tb, w6.heap.size = tb := ⟨_, rfl⟩
  have hT7 : BlkIs W7 tb #[.bool false, .string ⟨TB.toArray⟩] 72 := by rw [← hW7, ← htb]; exact blkIs_new _ _ _
  have hF7 : BlkIs W7 fb (fC f.p f.m f.c f.l f.b f.t) 46 := by rw [← hW7]; exact (HF5.out.later hb6).alloc _
  have hb7 : Below w.heap.size w W7 := by rw [← hW7]; have := HB5.out.trans (hb6.mono HB5.out.size); exact this.alloc this.size _
  have HW7 := Lib.hid hW7; have HTB := Lib.hid htb; have H7 := Lib.hid (And.intro hT7 (And.intro hF7 hb7))
  clear hW7 htb hT7 hF7 hb7 hb6 HPA
  go_upto_region 6 with fail
  rw [HW7.out, HTB.out]
  have t0 : W7.cell? ⟨tb, 0, none⟩ = some (.bool false) := H7.out.1.cell 0 _ rfl
  have c4 : W7.cell? ⟨fb, 4, none⟩ = some (.string ⟨f.b.toArray⟩) := H7.out.2.1.cell 4 _ rfl
  go_upto_region 8 with fail
  clear t0
  by_cases hi0 : i < 0
  · go_wp2
    go_ret
    exact ⟨rfl, H7.out.2.2⟩
  have i0 : (0 : Int) ≤ i := by omega
  by_cases hi1 : (f.b.length : Int) ≤ i
  · go_wp2
    go_ret
    exact ⟨rfl, H7.out.2.2⟩
  have i1 : i < (f.b.length : Int) := by omega
  obtain ⟨k, rfl⟩ : ∃ k : Nat, i = (k : Int) := ⟨i.toNat, by omega⟩
  have hk : k < f.b.length := by omega
  obtain ⟨bs, hbs⟩ : ∃ bs : ByteArray, ⟨f.b.toArray⟩ = bs := ⟨_, rfl⟩
  have hbl : bs.data.toList = f.b := by rw [← hbs]
  have hsz : bs.size = f.b.length := by rw [← size_list, hbl]
  have hks : k < bs.size := by omega
  have i2 : (k : Int) < (bs.size : Int) := by omega
  have hget := list_get bs k hks
  rw [hbl] at hget
  obtain ⟨c, hc⟩ : ∃ c, bs[k]'hks = c := ⟨_, rfl⟩
  rw [hc] at hget
  rw [hbs] at c4
  have hcf : f.b[k] = c := by have := (List.getElem?_eq_some_iff.1 hget).2; exact this
  by_cases hcd : c = d
  · subst hcd
    clear hget hcf hbl
    go_wp2
    go_ret
    exact ⟨rfl, H7.out.2.2⟩
  have hne : f.b[k] ≠ d := by rw [hcf]; exact hcd
  have htt := tag_turn f k d hk hne
  rw [HTGE.out] at htt
  have bcd : ((c.toNat : Int) == (d.toNat : Int)) = false := by
    have : c.toNat ≠ d.toNat := fun e => hcd (UInt8.toNat_inj.1 e)
    simp; omega
  have HNWk := Lib.hid (HNW.out k)
  have HRk := Lib.hid (HRT.out k)
  have HTT := Lib.hid htt; have HBL := Lib.hid (And.intro hbs hbl)
  clear hget hcf htt hne hcd
  obtain ⟨W8, hW8⟩ : ∃ W, W7.alloc (.cells (fC f.p f.m f.c f.l f.b f.t) 46) = W := ⟨_, rfl⟩
  obtain ⟨gb, hgb⟩ : ∃ gb, W7.heap.size = gb := ⟨_, rfl⟩
  have hG8 : BlkIs W8 gb (fC f.p f.m f.c f.l f.b f.t) 46 := by rw [← hW8, ← hgb]; exact blkIs_new _ _ _
  have hF8 : BlkIs W8 fb (fC f.p f.m f.c f.l f.b f.t) 46 := by rw [← hW8]; exact H7.out.2.1.alloc _
  have hb8 : Below w.heap.size w W8 := by rw [← hW8]; exact H7.out.2.2.alloc H7.out.2.2.size _
  have HW8 := Lib.hid hW8; have H8 := Lib.hid (And.intro hG8 (And.intro hF8 hb8)); have HGB := Lib.hid hgb
  clear hW8 hgb hG8 hF8 hb8 HNW HRT
  clear hbs hbl
  go_upto_region 10 with fail
  rw [← HBL.out.1] at c4 ⊢
  have c0 : W7.cell? ⟨fb, 0, none⟩ = some (.string ⟨f.p.toArray⟩) := H7.out.2.1.cell 0 _ rfl
  have c1 : W7.cell? ⟨fb, 1, none⟩ = some (.string ⟨f.m.toArray⟩) := H7.out.2.1.cell 1 _ rfl
  have c2 : W7.cell? ⟨fb, 2, none⟩ = some (.string ⟨f.c.toArray⟩) := H7.out.2.1.cell 2 _ rfl
  have c3 : W7.cell? ⟨fb, 3, none⟩ = some (.string ⟨f.l.toArray⟩) := H7.out.2.1.cell 3 _ rfl
  have c5 : W7.cell? ⟨fb, 5, none⟩ = some (.int .i64 f.t) := H7.out.2.1.cell 5 _ rfl
  go_upto_region 11 with fail
  rw [HW8.out, HGB.out]
  clear c0 c1 c2 c3 c4 c5
  have c4 : W8.cell? ⟨fb, 4, none⟩ = some (.string ⟨f.b.toArray⟩) := H8.out.2.1.cell 4 _ rfl
  obtain ⟨gq, hgq⟩ : ∃ g, W8.heap.size = g := ⟨_, rfl⟩
  obtain ⟨CP, hCP⟩ : ∃ c, grownCap W8 f.b.length 0 5 = c := ⟨_, rfl⟩
  obtain ⟨Wb, hWb⟩ : ∃ W, Lib.bytesWorld W8 5 ⟨f.b.toArray⟩ = W := ⟨_, rfl⟩
  have hks' : k < (⟨f.b.toArray⟩ : ByteArray).size := by rw [size_mk]; exact hk
  have hcv : (convert 9 76 (.string ⟨f.b.toArray⟩)).run Tryz.prog W8 = .ok (.slice (some ⟨gq, 0, none⟩) f.b.length CP) Wb := by
    have := Lib.run_convert_string_bytes (P := Tryz.prog) W8 9 76 5 ⟨f.b.toArray⟩ Tryz.underlying9 Tryz.underlying76 Tryz.underlying5
    rw [hWb, hgq] at this
    rw [← hCP]
    exact this
  have hcell := Lib.bytesWorld_cell W8 5 ⟨f.b.toArray⟩ k hks'
  have hfz := bytesWorld_frozen W8 5 ⟨f.b.toArray⟩ k hks'
  have hset := set_cells W8 ⟨f.b.toArray⟩ k hks' d 5
  have hbl := (bytesWorld_below W8 5 ⟨f.b.toArray⟩).setCell (p := ⟨W8.heap.size, k, none⟩) (Nat.le_refl _) (.int .u8 (d.toNat : Int))
  rw [hWb, hgq] at hcell hfz hset
  rw [hWb] at hbl
  obtain ⟨W9, hW9⟩ : ∃ W, Wb.setCell ⟨gq, k, none⟩ (.int .u8 (d.toNat : Int)) = W := ⟨_, rfl⟩
  rw [hgq] at hbl
  rw [hW9] at hset hbl
  have hbl8 : Below W8.heap.size W8 W9 := by rw [hgq]; exact hbl
  have hst := run_str_cells (P := Tryz.prog) W9 76 5 Tryz.underlying76 Tryz.underlying5 gq 0 CP f.b.length (f.b.set k d) (by simp) (fun j h => hset j h) 9 Tryz.underlying9
  have hG9 : BlkIs W9 gb (fC f.p f.m f.c f.l f.b f.t) 46 := H8.out.1.later hbl8
  have hF9 : Below w.heap.size w W9 := H8.out.2.2.trans (hbl8.mono H8.out.2.2.size)
  have hgw : w.heap.size ≤ gb := by have := H7.out.2.2.size; rw [HGB.out] at this; exact this
  have hG10 := hG9.set 4 (.string ⟨(f.b.set k d).toArray⟩)
  obtain ⟨Wc, hWc⟩ : ∃ W, W9.setCell ⟨gb, 4, none⟩ (.string ⟨(f.b.set k d).toArray⟩) = W := ⟨_, rfl⟩
  have hb10 : Below w.heap.size w Wc := by rw [← hWc]; exact hF9.setCell (p := ⟨gb, 4, none⟩) hgw _
  rw [hWc] at hG10
  have hG11 : BlkIs Wc gb (fC f.p f.m f.c f.l (f.b.set k d) f.t) 46 := hG10
  have HW9 := Lib.hid hW9; have HWc := Lib.hid hWc; have H9 := Lib.hid hG9; have HC := Lib.hid (And.intro hG11 hb10); have HST := Lib.hid hst
  have k0 : (0 : Int) ≤ (k : Int) := Int.natCast_nonneg _
  have k1 : (k : Int) < (f.b.length : Int) := by omega
  clear hW9 hWc hG9 hF9 hgw hG10 hG11 hb10 hbl hbl8 hset hst hWb hCP hgq hks'
  go_upto_region 13 with fail
  rw [HW9.out]
  clear hcv hcell hfz c4
  have hst := HST.out
  have x4 : W9.cell? ⟨gb, 4, none⟩ = some (.string ⟨f.b.toArray⟩) := H9.out.cell 4 _ rfl
  have y4 := H9.out.free 4
  go_upto_region 14 with fail
  rw [HWc.out]
  clear hst x4 y4
  have c0 : Wc.cell? ⟨gb, 0, none⟩ = some (.string ⟨f.p.toArray⟩) := HC.out.1.cell 0 _ rfl
  have c1 : Wc.cell? ⟨gb, 1, none⟩ = some (.string ⟨f.m.toArray⟩) := HC.out.1.cell 1 _ rfl
  have c2 : Wc.cell? ⟨gb, 2, none⟩ = some (.string ⟨f.c.toArray⟩) := HC.out.1.cell 2 _ rfl
  have c3 : Wc.cell? ⟨gb, 3, none⟩ = some (.string ⟨f.l.toArray⟩) := HC.out.1.cell 3 _ rfl
  have c4 : Wc.cell? ⟨gb, 4, none⟩ = some (.string ⟨(f.b.set k d).toArray⟩) := HC.out.1.cell 4 _ rfl
  have c5 : Wc.cell? ⟨gb, 5, none⟩ = some (.int .i64 f.t) := HC.out.1.cell 5 _ rfl
  obtain ⟨Wd, hWd⟩ : ∃ W, Wc.alloc (.cells (fC f.p f.m f.c f.l (f.b.set k d) f.t) 46) = W := ⟨_, rfl⟩
  have hbd : Below w.heap.size w Wd := by rw [← hWd]; exact HC.out.2.alloc HC.out.2.size _
  have hld : FilsIn Wd (.slice (some ⟨Wc.heap.size, 0, none⟩) 1 1) [turF f k d] := filsIn_one (f := turF f k d) (by rw [← hWd]; exact blkIs_new _ _ _)
  have hnw := HNWk.out _ Wd hbd hld
  rw [HRk.out] at hnw
  have HNW := Lib.hid hnw; have HWd := Lib.hid hWd; have HBd := Lib.hid hbd
  clear hnw hWd hbd hld HNWk HRk
  go_wp2_with fail
  rw [HWd.out]
  refine (HNW.out).mono ?_
  rintro e we ⟨pw, rfl, hbe, _, heq⟩
  obtain ⟨s', hs1, hs2⟩ := heq (by first | trivial | rfl)
  subst hs1
  have HBe := Lib.hid (HBd.out.trans (hbe.mono HBd.out.size))
  have HTe := Lib.hid (HTG.out s' (turF f k d) we HBe.out (hs2.mono HBd.out.size) (by have : filLen (turF f k d) = filLen f := (by simp [filLen, turF]); have := HLN.out; omega))
  clear hbe heq hs2 c0 c1 c2 c3 c4 c5
  obtain ⟨TH, hTH⟩ : ∃ T, tagL (turF f k d) = T := ⟨_, rfl⟩
  rw [hTH] at HTe HTT
  have bt : (TH == TG) = false := by simpa using HTT.out
  clear hTH
  go_wp2_with fail
  refine (HTe.out).mono ?_
  rintro e wf ⟨rfl, hbf⟩
  have HBf := Lib.hid (HBe.out.trans (hbf.mono HBe.out.size))
  clear hbf HTe
  go_wp2
  go_ret
  exact ⟨rfl, HBf.out⟩
end Go.Proofs.YtpdbejeiceodkaaGreatDoor
