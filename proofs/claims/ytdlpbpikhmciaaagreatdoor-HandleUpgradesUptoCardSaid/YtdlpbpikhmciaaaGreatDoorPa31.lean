/- The walk of turnpikelaw18.HandleUpgrades: true. Conditions: the key is small; the tables hold what the texts lay. -/
import Derived.Test.YtdlpbpikhmciaaaGreatDoorPa25
import Derived.Test.YtdlpbpikhmciaaaGreatDoorPa29
import Derived.Test.YtdlpbpikhmciaaaGreatDoorPa30
namespace Go.Proofs.YtdlpbpikhmciaaaGreatDoor
open Go.RowKit
set_option linter.unusedSimpArgs false
set_option linter.unusedVariables false
set_option maxRecDepth 1000000
def keyL : List UInt8 := [100, 71, 104, 108, 73, 72, 78, 104, 98, 88, 66, 115, 90, 83, 66, 117, 98, 50, 53, 106, 90, 81, 61, 61]
def ansL : List UInt8 := [115, 51, 112, 80, 76, 77, 66, 105, 84, 120, 97, 81, 57, 107, 89, 71, 122, 122, 104, 90, 82, 98, 75, 43, 120, 79, 111, 61]
theorem acc_key : accP keyL = (ansL, 0) := by kernel_rfl
def n0L : List UInt8 := [117, 112, 103, 114, 97, 100, 101]
def x0L : List UInt8 := [97, 44, 32, 87, 101, 98, 83, 111, 99, 107, 101, 116]
def n1L : List UInt8 := [67, 79, 78, 78, 69, 67, 84, 73, 79, 78]
def x1L : List UInt8 := [107, 101, 101, 112, 45, 97, 108, 105, 118, 101, 44, 32, 85, 112, 103, 114, 97, 100, 101]
def n2L : List UInt8 := [115, 101, 99, 45, 119, 101, 98, 115, 111, 99, 107, 101, 116, 45, 118, 101, 114, 115, 105, 111, 110]
/-- The fields of a right handshake. -/
def fls (k : List UInt8) : List Fld := [(n0L, x0L), (n1L, x1L), (n2L, v13), (keN, k)]
theorem has_up (k : List UInt8) : hasF (fls k) upN wsN = true := by kernel_rfl
theorem has_co (k : List UInt8) : hasF (fls k) coN ulN = true := by kernel_rfl
theorem all_ve (k : List UInt8) : allF veN (fls k) = [v13] := by kernel_rfl
theorem all_ke (k : List UInt8) : allF keN (fls k) = [k] := by kernel_rfl
theorem sk_fls (k : List UInt8) : skR (fls k) = skK k := by
  unfold skR
  rw [has_up, has_co, all_ve, all_ke]
  rfl
theorem sk_good : skR (fls keyL) = (101, [(upN, wsN), (coN, uuN), (acN, ansL)], []) := by
  rw [sk_fls]
  unfold skK
  rw [acc_key]
  rfl
theorem enc_20 (l : List UInt8) (h : l.length = 20) : (enc l).length = 28 := by
  match l, h with
  | [_, _, _, _, _, _, _, _, _, _, _, _, _, _, _, _, _, _, _, _], _ => rfl
theorem sk_any (k : List UInt8) : (∃ A, A.length = 28 ∧ skR (fls k) = (101, [(upN, wsN), (coN, uuN), (acN, A)], [])) ∨ skR (fls k) = sk4 400 [] := by
  rw [sk_fls]
  unfold skK
  by_cases h : (accP k).2 = 0
  · rw [if_pos h]
    refine .inl ⟨_, ?_, rfl⟩
    unfold accP at h ⊢
    split
    · exact enc_20 _ (shaR_len _)
    · rename_i hc
      rw [if_neg hc] at h
      cases h
  · rw [if_neg h]; exact .inr rfl
/-- One of them left out. -/
def lack (z : Nat) : List Fld := (fls keyL).take z ++ (fls keyL).drop (z + 1)
theorem sk_lack (z : Nat) (hz : z < 4) : 400 ≤ (skR (lack z)).1 := by
  match z, hz with
  | 0, _ => exact (by kernel_rfl : decide (400 ≤ (skR (lack 0)).1) = true) |> of_decide_eq_true
  | 1, _ => exact (by kernel_rfl : decide (400 ≤ (skR (lack 1)).1) = true) |> of_decide_eq_true
  | 2, _ => exact (by kernel_rfl : decide (400 ≤ (skR (lack 2)).1) = true) |> of_decide_eq_true
  | 3, _ => exact (by kernel_rfl : decide (400 ≤ (skR (lack 3)).1) = true) |> of_decide_eq_true
theorem fls_tot (k : List UInt8) (h : k.length ≤ 1048576) : (fls k).length ≤ 1048576 ∧ totF (fls k) ≤ 2097152 := by
  refine ⟨by show 4 ≤ _; decide, ?_⟩
  show (n0L.length + x0L.length) + ((n1L.length + x1L.length) + ((n2L.length + v13.length) + ((keN.length + k.length) + 0))) ≤ _
  have e1 : n0L.length = 7 := rfl
  have e2 : x0L.length = 12 := rfl
  have e3 : n1L.length = 10 := rfl
  have e4 : x1L.length = 19 := rfl
  have e5 : n2L.length = 21 := rfl
  have e6 : v13.length = 2 := rfl
  have e7 : keN.length = 17 := rfl
  omega
theorem lack_tot (z : Nat) (hz : z < 4) : (lack z).length = 3 ∧ totF (lack z) ≤ 2097152 := by
  match z, hz with
  | 0, _ => exact ⟨rfl, by decide⟩
  | 1, _ => exact ⟨rfl, by decide⟩
  | 2, _ => exact ⟨rfl, by decide⟩
  | 3, _ => exact ⟨rfl, by decide⟩
theorem lack_V (z : Nat) (hz : z < 4) : (fldsV (fls keyL)).take (z * 2) ++ (fldsV (fls keyL)).drop ((z + 1) * 2) = fldsV (lack z) := by
  match z, hz with
  | 0, _ => rfl
  | 1, _ => rfl
  | 2, _ => rfl
  | 3, _ => rfl
theorem checkS_any (w : World) : Calls Tryz.prog 9 #[.agg (hdC 9 ⟨#[]⟩ ⟨#[]⟩ ⟨#[]⟩ 0 0)] w fun e w' => e = .returned (.int .i64 0) ∧ Below w.heap.size w w' := by
  refine (ocheck9_any true 0 0 ⟨#[]⟩ ⟨#[]⟩ ⟨#[]⟩ w (fun W _ => yes_any _ W)).mono ?_
  rintro e w' ⟨rfl, hb⟩
  refine ⟨ret_int ?_, hb⟩
  simp only [toL]
  decide
theorem answerS_any (fa : Option Addr) (fl fc : Nat) (l : List Fld) (w : World) (hN : l.length ≤ 1048576) (hT : totF l ≤ 2097152) (hg : SgAt w) (hP : PowAt w) (hf : FldsIn w (.slice fa fl fc) l) :
    Calls Tryz.prog 24 #[.agg (hdC 9 ⟨#[]⟩ ⟨#[]⟩ ⟨#[]⟩ 0 0), .agg (asC ⟨#[71, 69, 84]⟩ ⟨#[47]⟩ 1 1 (.slice fa fl fc)), .pointer none] w (RespIs (skR l).1 [] (skR l).2.1 (skR l).2.2 w) :=
  oanswer9_any 0 0 1 1 (skR l).1 ⟨#[]⟩ ⟨#[]⟩ ⟨#[]⟩ ⟨#[71, 69, 84]⟩ ⟨#[47]⟩ fa none fl fc [] (skR l).2.2 (skR l).2.1 w (fun W _ => checkS_any W)
    (fun W p hW hP2 => vsocket_any p 9 0 0 ⟨#[]⟩ ⟨#[]⟩ ⟨#[]⟩ ⟨#[47]⟩ fa fl fc (.pointer none) l W hP2 (hf.below hW) hN hT (hg.below hW) (hP.below hW))
/-- The remainder that is asked. -/
theorem lacks_mod (n : Int) (h0 : -9223372036854775808 ≤ n) (h1 : n ≤ 9223372036854775807) : ∃ x : Int, Int.tmod n 4 = x ∧ -3 ≤ x ∧ x ≤ 3 ∧ ∃ z : Nat, z < 4 ∧ Int.tmod (x + 4) 4 = (z : Int) := by
  have a1 := Int.natAbs_tmod n 4
  have r1 : (Int.tmod n 4).natAbs < 4 := by rw [a1]; exact Nat.mod_lt _ (by decide)
  refine ⟨_, rfl, by omega, by omega, ?_⟩
  have p1 : 0 ≤ Int.tmod n 4 + 4 := by omega
  have e2 := Int.tmod_eq_emod_of_nonneg p1 (b := 4)
  rw [e2]
  refine ⟨((Int.tmod n 4 + 4) % 4).toNat, ?_, ?_⟩ <;> omega
theorem w64i (z : Int) (h0 : -9007199254740992 ≤ z) (h1 : z ≤ 9007199254740992) : wrap64 z = z ∧ IntKind.i64.wrap z = z := by
  constructor
  · unfold wrap64; omega
  · rw [IntKind.wrap_i64]; omega
abbrev flC (kv : ByteArray) : Array Value := #[.string ⟨#[117, 112, 103, 114, 97, 100, 101]⟩, .string ⟨#[97, 44, 32, 87, 101, 98, 83, 111, 99, 107, 101, 116]⟩, .string ⟨#[67, 79, 78, 78, 69, 67, 84, 73, 79, 78]⟩, .string ⟨#[107, 101, 101, 112, 45, 97, 108, 105, 118, 101, 44, 32, 85, 112, 103, 114, 97, 100, 101]⟩, .string ⟨#[115, 101, 99, 45, 119, 101, 98, 115, 111, 99, 107, 101, 116, 45, 118, 101, 114, 115, 105, 111, 110]⟩, .string ⟨#[49, 51]⟩, .string ⟨#[83, 101, 99, 45, 87, 101, 98, 83, 111, 99, 107, 101, 116, 45, 75, 101, 121]⟩, .string kv]
abbrev kyB : ByteArray := ⟨#[100, 71, 104, 108, 73, 72, 78, 104, 98, 88, 66, 115, 90, 83, 66, 117, 98, 50, 53, 106, 90, 81, 61, 61]⟩
theorem flC_list (k : List UInt8) : (flC ⟨k.toArray⟩).toList = fldsV (fls k) := rfl
abbrev gtB : ByteArray := ⟨#[71, 69, 84]⟩
abbrev asS (fs : Value) : Array Value := asC ⟨#[71, 69, 84]⟩ ⟨#[47]⟩ 1 1 fs
theorem fl_some {W : World} {g n c : Nat} {l : List Fld} {b : Nat} (hn : n = l.length) (h : W.ownsRow b 43 2 (.slice (some ⟨g, 0, none⟩) n c) n (fldsV l)) : FldsIn W (.slice (some ⟨g, 0, none⟩) n c) l := by
  subst hn
  exact fldsIn_own h
theorem own_slice {W : World} {b n : Nat} {T : TypeId} {k : Nat} {v : Value} {xs : List Value} (h : W.ownsRow b T k v n xs) (hn : n ≠ 0) : ∃ g c, v = .slice (some ⟨g, 0, none⟩) n c ∧ b ≤ g ∧ g < W.heap.size := by
  rcases h.2 with ⟨_, h0⟩ | ⟨g, c, cur, hv, hb, hg, _⟩
  · exact absurd h0 hn
  · exact ⟨g, c, hv, hb, (Array.getElem?_eq_some_iff.1 hg).1⟩
set_option maxHeartbeats 16000000 in
theorem handleUpgrades_any (key : List UInt8) (n : Int) (w : World) (hk : key.length ≤ 1048576) (h0 : -9223372036854775808 ≤ n) (h1 : n ≤ 9223372036854775807) (hg : SgAt w) (hP : PowAt w) :
    Calls Tryz.prog 7 #[.string ⟨key.toArray⟩, .int .i64 n] w fun e w' => e = .returned (.bool true) ∧ Below w.heap.size w w' := by
  obtain ⟨x, hx, x0, x1, z, hz, hzz⟩ := lacks_mod n h0 h1
  obtain ⟨i0, hi0, hz0, hz1, hz2⟩ := infoAF_parts
  have HSG := Lib.hid hg; have HPW := Lib.hid hP
  have HANS := Lib.hid (fun (fa : Option Addr) (fl fc : Nat) (l : List Fld) (W : World) (hN : l.length ≤ 1048576) (hT : totF l ≤ 2097152) (hb : Below w.heap.size w W) (hf : FldsIn W (.slice fa fl fc) l) => answerS_any fa fl fc l W hN hT (hg.below hb) (hP.below hb) hf)
  have HX := Lib.hid (And.intro x0 x1); have HZ := Lib.hid (And.intro hx hzz)
  have HKL := Lib.hid hk
  clear hg hP h0 h1 x0 x1 hx hzz hk
  go_enter Tryz.func7, Tryz.ntmps7
  go_wp2_with fail
  refine (awake18_any w).mono ?_
  rintro e w1 ⟨rfl, hb1⟩
  obtain ⟨g0, hg0⟩ : ∃ g, w1.heap.size = g := ⟨_, rfl⟩
  obtain ⟨B, hB⟩ : ∃ B, g0 + 1 = B := ⟨_, rfl⟩
  obtain ⟨W2, hW2⟩ : ∃ W, w1.alloc (.cells (flC kyB) 43) = W := ⟨_, rfl⟩
  have hF2 : BlkIs W2 g0 (flC kyB) 43 := by rw [← hW2, ← hg0]; exact blkIs_new _ _ _
  have hw2 : Below w.heap.size w W2 := by rw [← hW2]; exact hb1.alloc hb1.size _
  have hs2 : W2.heap.size = B := by rw [← hW2, ← hB, ← hg0]; simp
  have HW2 := Lib.hid hW2
  have HI2 := Lib.hid (And.intro hF2 (And.intro hw2 hb1.size))
  clear hb1 hW2 hF2 hw2
  go_upto_region 4 with fail
  rw [HW2.out]
  have hr0 : (W2.alloc (.cells #[] 43)).ownsRow B 43 2 (.slice (some ⟨B, 0, none⟩) 0 0) 0 [] := by rw [← hs2]; exact World.ownsRow_made W2 #[] 0 (Nat.le_refl _) (by simp) rfl
  have hn1 : ∀ ad, some (⟨g0, 0, none⟩ : Addr) = some ad → ∀ j u, (fldsV (fls keyL))[j]? = some u → (W2.alloc (.cells #[] 43)).cell? (ad.add j) = some u := fun ad e => by
    injection e with e
    subst e
    intro j u hj
    rw [addF, Nat.zero_add]
    refine (HI2.out.1.alloc (.cells #[] 43)).cell j u ?_
    rw [← flC_list, Array.getElem?_toList] at hj
    exact hj
  have HR0 := Lib.hid hr0
  go_wp2_with (at_builtin; refine wpList_append_opt rfl _ _ 41 rfl B 43 i0 (.agg #[.string ByteArray.empty, .string ByteArray.empty]) 2 32 Tryz.underlying41 hi0 hz0 hz1 hz2 rfl (by decide) B 0 0 [] rfl HR0.out (some ⟨g0, 0, none⟩) 4 4 (fldsV (fls keyL)) rfl rfl (fun e => by cases e) hn1 (fldsV_one _) (by unfold maxLen; decide) (by decide) ?d3 ?_)
  case d3 => (try simp); omega
  intro v1 w3 ho3 hg3
  have hsz3 := hg3.size
  rw [World.size_alloc, hs2] at hsz3
  obtain ⟨g1, c1, rfl, hgb, hgl⟩ := own_slice ho3 (by decide)
  have ho3' : w3.ownsRow B 43 2 (.slice (some ⟨g1, 0, none⟩) 4 c1) 4 (fldsV (fls keyL)) := by simpa using ho3
  have hF3 : FldsIn w3 (.slice (some ⟨g1, 0, none⟩) 4 c1) (fls keyL) := fl_some rfl ho3'
  have hG3 : BlkIs w3 g0 (flC kyB) 43 := (HI2.out.1.alloc _).grown hg3 (by intro e; injection e; omega)
  have hb3 : Below w.heap.size w w3 := (HI2.out.2.1.alloc HI2.out.2.1.size _).grown hg3 (by have := HI2.out.2.1.size; simp; omega) (fun j hj => by have : B = j := (by simpa using hj); have := HI2.out.2.2; omega)
  obtain ⟨A, hA⟩ : ∃ A, w3.heap.size = A := ⟨_, rfl⟩
  obtain ⟨H, hH⟩ : ∃ H, A + 1 = H := ⟨_, rfl⟩
  obtain ⟨W5, hW5⟩ : ∃ W, (w3.alloc (.cells (asS (.slice (some ⟨g1, 0, none⟩) 4 c1)) 68)).alloc (.cells (hdC 9 ⟨#[]⟩ ⟨#[]⟩ ⟨#[]⟩ 0 0) 23) = W := ⟨_, rfl⟩
  have hb35 : Below w3.heap.size w3 W5 := by rw [← hW5]; exact (below1 _ _).alloc (by simp) _
  have hA5 : BlkIs W5 A (asS (.slice (some ⟨g1, 0, none⟩) 4 c1)) 68 := by rw [← hW5, ← hA]; exact (blkIs_new _ _ _).alloc _
  have hH5 : BlkIs W5 H (hdC 9 ⟨#[]⟩ ⟨#[]⟩ ⟨#[]⟩ 0 0) 23 := by rw [← hW5, ← hH, ← hA]; have := blkIs_new (w3.alloc (.cells (asS (.slice (some ⟨g1, 0, none⟩) 4 c1)) 68)) (hdC 9 ⟨#[]⟩ ⟨#[]⟩ ⟨#[]⟩ 0 0) 23; rw [World.size_alloc] at this; exact this
  have HW5 := Lib.hid hW5
  have HI5 := Lib.hid (And.intro hA5 (And.intro hH5 (And.intro (hG3.later hb35) (And.intro (hb3.trans (hb35.mono hb3.size)) (hF3.below hb35)))))
  have HLE := Lib.hid (show w.heap.size ≤ g0 ∧ w.heap.size ≤ A ∧ g0 < A ∧ g0 < g1 by have := HI2.out.2.2; have := hb3.size; refine ⟨?_, ?_, ?_, ?_⟩ <;> omega)
  clear hr0 hn1 ho3 ho3' hg3 hsz3 hgb hgl hF3 hG3 hb3 hW5 hb35 hA5 hH5 HW2 HI2 HR0 hs2
  go_upto_region 6 with fail
  rw [HW5.out]
  have a0 := HI5.out.1.cell 0 _ rfl
  have a1 := HI5.out.1.cell 1 _ rfl
  have a2 := HI5.out.1.cell 2 _ rfl
  have a3 := HI5.out.1.cell 3 _ rfl
  have a4 := HI5.out.1.cell 4 _ rfl
  have a5 := HI5.out.1.cell 5 _ rfl
  have a6 := HI5.out.1.cell 6 _ rfl
  have a7 := HI5.out.1.cell 7 _ rfl
  have a8 := HI5.out.1.cell 8 _ rfl
  have a9 := HI5.out.1.cell 9 _ rfl
  have a10 := HI5.out.1.cell 10 _ rfl
  have a11 := HI5.out.1.cell 11 _ rfl
  have a12 := HI5.out.1.cell 12 _ rfl
  have a13 := HI5.out.1.cell 13 _ rfl
  have a14 := HI5.out.1.cell 14 _ rfl
  have h0 := HI5.out.2.1.cell 0 _ rfl
  have h1 := HI5.out.2.1.cell 1 _ rfl
  have h2 := HI5.out.2.1.cell 2 _ rfl
  have h3 := HI5.out.2.1.cell 3 _ rfl
  have h4 := HI5.out.2.1.cell 4 _ rfl
  have h5 := HI5.out.2.1.cell 5 _ rfl
  have hans := HANS.out (some ⟨g1, 0, none⟩) 4 c1 (fls keyL) W5 (fls_tot keyL (by decide)).1 (fls_tot keyL (by decide)).2 HI5.out.2.2.2.1 HI5.out.2.2.2.2
  rw [sk_good] at hans
  have HA5 := Lib.hid hans
  clear hans
  go_wp2_with fail
  refine (HA5.out).mono ?_
  rintro e w6 ⟨fv, rfl, hF6, hb6⟩
  obtain ⟨g6, cap6, rfl, f0, f1⟩ := hF6.at 2 _ rfl
  obtain ⟨R, hR⟩ : ∃ R, w6.heap.size = R := ⟨_, rfl⟩
  obtain ⟨W7, hW7⟩ : ∃ W, w6.alloc (.cells (rC 101 ⟨#[]⟩ (.slice (some ⟨g6, 0, none⟩) 3 cap6) ⟨#[]⟩) 46) = W := ⟨_, rfl⟩
  have hb67 : Below w6.heap.size w6 W7 := by rw [← hW7]; exact below1 _ _
  have hb57 : Below W5.heap.size W5 W7 := hb6.trans (hb67.mono hb6.size)
  have hR7 : BlkIs W7 R (rC 101 ⟨#[]⟩ (.slice (some ⟨g6, 0, none⟩) 3 cap6) ⟨#[]⟩) 46 := by rw [← hW7, ← hR]; exact blkIs_new _ _ _
  have f1' : W7.cell? ⟨g6, 5, none⟩ = some (.string ⟨#[115, 51, 112, 80, 76, 77, 66, 105, 84, 120, 97, 81, 57, 107, 89, 71, 122, 122, 104, 90, 82, 98, 75, 43, 120, 79, 111, 61]⟩) := mx_later (B := 0) f1 hb67
  have r0 := hR7.cell 0 _ rfl
  have r2 := hR7.cell 2 _ rfl
  have r3 := hR7.cell 3 _ rfl
  have HW7 := Lib.hid hW7
  have HI7 := Lib.hid (And.intro (HI5.out.1.later hb57) (And.intro (HI5.out.2.1.later hb57) (And.intro (HI5.out.2.2.1.later hb57) (And.intro (HI5.out.2.2.2.1.trans (hb57.mono HI5.out.2.2.2.1.size)) hR7))))
  have HLR := Lib.hid (show A < R ∧ H < R by have := HI5.out.2.1.lt; have := hb6.size; omega)
  clear f0 f1 hF6 hb6 hW7 hb67 hb57 hR7 HI5 HW5 a0 a1 a2 a3 a4 a5 a6 a7 a8 a9 a10 a11 a12 a13 a14 h0 h1 h2 h3 h4 h5 HA5
  go_upto_region 7 with fail
  rw [HW7.out]
  have t1 := HZ.out.1
  have t2 := HZ.out.2
  obtain ⟨t3, t4⟩ := w64i (x + 4) (by have := HX.out; omega) (by have := HX.out; omega)
  obtain ⟨t5, t6⟩ := w64i (z : Int) (by omega) (by omega)
  obtain ⟨t7, t8⟩ := w64i x (by have := HX.out; omega) (by have := HX.out; omega)
  go_upto_region 10 with fail
  clear t1 t2 t3 t4 t5 t6 t7 t8 f1' r0 r2 r3
  obtain ⟨y, hy⟩ : ∃ y, z + 1 = y := ⟨_, rfl⟩
  have z0 : (0 : Int) ≤ (z : Int) := Int.natCast_nonneg _
  have z4 : (z : Int) ≤ 4 := by omega
  have y0 : (0 : Int) ≤ (y : Int) := Int.natCast_nonneg _
  have y4 : (y : Int) ≤ 4 := by omega
  have zy : (z : Int) + 1 = (y : Int) := by omega
  obtain ⟨t9, t10⟩ := w64i (y : Int) (by omega) (by omega)
  refine wp_region_eachH (fun _ => True) 13 (by kernel_rfl) (by kernel_rfl) ?_
  have hS : True := trivial
  have HI8 := Lib.hid (show BlkIs W7.drew A (asS (.slice (some ⟨g1, 0, none⟩) 4 c1)) 68 ∧ BlkIs W7.drew H (hdC 9 ⟨#[]⟩ ⟨#[]⟩ ⟨#[]⟩ 0 0) 23 ∧ BlkIs W7.drew g0 (flC kyB) 43 ∧ Below w.heap.size w W7.drew ∧ BlkIs W7.drew R (rC 101 ⟨#[]⟩ (.slice (some ⟨g6, 0, none⟩) 3 cap6) ⟨#[]⟩) 46 from ⟨HI7.out.1, HI7.out.2.1, HI7.out.2.2.1, HI7.out.2.2.2.1.drew, HI7.out.2.2.2.2⟩)
  obtain ⟨W8, hW8⟩ : ∃ W, W7.drew = W := ⟨_, rfl⟩
  rw [hW8] at HI8 ⊢
  clear hW8 HI7 HW7
  refine eachH_take (i := 1) rfl (by kernel_rfl) (by kernel_rfl) (by kernel_rfl) hS (v := ?_) ?_ ?_; rotate_left; · (intro W hS; clear hS; go_simp; with_reducible rfl)
  refine eachH_take (i := 2) rfl (by kernel_rfl) (by kernel_rfl) (by kernel_rfl) hS (v := ?_) ?_ ?_; rotate_left; · (intro W hS; clear hS; go_simp; with_reducible rfl)
  refine eachH_take (i := 3) rfl (by kernel_rfl) (by kernel_rfl) (by kernel_rfl) hS (v := ?_) ?_ ?_; rotate_left; · (intro W hS; clear hS; go_simp; with_reducible rfl)
  refine eachH_take (i := 5) rfl (by kernel_rfl) (by kernel_rfl) (by kernel_rfl) hS (v := ?_) ?_ ?_; rotate_left; · (intro W hS; clear hS; go_simp; with_reducible rfl)
  refine eachH_take (i := 6) rfl (by kernel_rfl) (by kernel_rfl) (by kernel_rfl) hS (v := ?_) ?_ ?_; rotate_left; · (intro W hS; clear hS; go_simp; with_reducible rfl)
  refine eachH_take (i := 7) rfl (by kernel_rfl) (by kernel_rfl) (by kernel_rfl) hS (v := ?_) ?_ ?_; rotate_left; · (intro W hS; clear hS; go_simp; with_reducible rfl)
  refine eachH_take (i := 8) rfl (by kernel_rfl) (by kernel_rfl) (by kernel_rfl) hS (v := ?_) ?_ ?_; rotate_left; · (intro W hS; clear hS; go_simp; with_reducible rfl)
  clear z0 z4 y0 y4 t9 t10
  obtain ⟨B8, hB8⟩ : ∃ B, W8.heap.size = B := ⟨_, rfl⟩
  obtain ⟨W9, hW9⟩ : ∃ W, W8.alloc (.cells #[] 43) = W := ⟨_, rfl⟩
  have hb9 : Below W8.heap.size W8 W9 := by rw [← hW9]; exact below1 _ _
  have hr9 : W9.ownsRow B8 43 2 (.slice (some ⟨B8, 0, none⟩) 0 0) 0 [] := by rw [← hW9, ← hB8]; exact World.ownsRow_made W8 #[] 0 (Nat.le_refl _) (by simp) rfl
  have hs9 : B8 ≤ W9.heap.size := by rw [← hW9, World.size_alloc, hB8]; omega
  have hlt8 : A < B8 ∧ H < B8 ∧ R < B8 ∧ g0 < B8 ∧ w.heap.size ≤ B8 := by
    have := HI8.out.2.2.2.2.lt
    have := HLR.out
    have := HLE.out
    omega
  have HW9 := Lib.hid hW9; have HR9 := Lib.hid (And.intro hr9 hs9); have HL8 := Lib.hid hlt8
  have HI9 := Lib.hid (And.intro (HI8.out.1.later hb9) (And.intro (HI8.out.2.1.later hb9) (And.intro (HI8.out.2.2.1.later hb9) (And.intro (HI8.out.2.2.2.1.trans (hb9.mono HI8.out.2.2.2.1.size)) (HI8.out.2.2.2.2.later hb9)))))
  clear hW9 hb9 hr9 hs9 hlt8 HI8
  refine eachH1 (i := 0) (by kernel_rfl) rfl ?_
  intro K hK
  go_simp
  (try rw [hB8]); rw [HW9.out]
  refine hK _ _ trivial ?_
  clear hK K hB8 HW9
  refine eachH1 (i := 4) (by kernel_rfl) rfl ?_
  intro K hK
  refine wp_append_own _ _ _ 41 rfl B8 43 i0 (.agg #[.string ByteArray.empty, .string ByteArray.empty]) 2 32 Tryz.underlying41 hi0 hz0 hz1 hz2 rfl (by decide) (.slice (some ⟨B8, 0, none⟩) 0 0) 0 [] rfl HR9.out.1 ⟨g0, 0, none⟩ z 4 ((fldsV (fls keyL)).take (z * 2)) rfl ?hl ?hn ?h1 ?h63 ?hby ?hbase ?_
  case hl => rw [List.length_take, fldsV_len]; show min _ (4 * 2) = _; omega
  case hn =>
    intro j u hj
    rw [addF, Nat.zero_add]
    refine HI9.out.2.2.1.cell j u ?_
    rw [List.getElem?_take] at hj
    split at hj
    · rw [← flC_list, Array.getElem?_toList] at hj; exact hj
    · cases hj
  case h1 => exact fun u hu => fldsV_one _ u (List.mem_of_mem_take hu)
  case h63 => unfold maxLen; omega
  case hby => omega
  case hbase => exact HR9.out.2
  intro v2 w10 ho10 hg10 _
  have hsz10 := hg10.size
  have hI10 : BlkIs w10 A (asS (.slice (some ⟨g1, 0, none⟩) 4 c1)) 68 ∧ BlkIs w10 H (hdC 9 ⟨#[]⟩ ⟨#[]⟩ ⟨#[]⟩ 0 0) 23 ∧ BlkIs w10 g0 (flC kyB) 43 ∧ Below w.heap.size w w10 ∧ BlkIs w10 R (rC 101 ⟨#[]⟩ (.slice (some ⟨g6, 0, none⟩) 3 cap6) ⟨#[]⟩) 46 := by
    have hl8 := HL8.out
    have hgb : ∀ j, (Value.slice (some ⟨B8, 0, none⟩) 0 0).ownBlock = some j → B8 ≤ j := fun j hj => (HR9.out.1.lt j hj).1
    refine ⟨HI9.out.1.grown hg10 ?_, HI9.out.2.1.grown hg10 ?_, HI9.out.2.2.1.grown hg10 ?_, HI9.out.2.2.2.1.grown hg10 HI9.out.2.2.2.1.size ?_, HI9.out.2.2.2.2.grown hg10 ?_⟩
    · intro e; have := hgb _ e; omega
    · intro e; have := hgb _ e; omega
    · intro e; have := hgb _ e; omega
    · intro j hj; have := hgb j hj; omega
    · intro e; have := hgb _ e; omega
  rw [Nat.zero_add, List.nil_append] at ho10
  have hs10 : B8 ≤ w10.heap.size := Nat.le_trans HR9.out.2 hsz10
  have HI10 := Lib.hid hI10; have HO10 := Lib.hid (And.intro ho10 hs10)
  clear hg10 hsz10 hI10 ho10 hs10 HI9 HR9
  refine hK _ _ trivial ?_
  clear hK K
  refine eachH1 (i := 9) (by kernel_rfl) rfl ?_
  intro K hK
  obtain ⟨ad, hif, had⟩ : ∃ ad : Addr, (if 4 = y then some (⟨g0, 0, none⟩ : Addr) else some ⟨g0, y * 2, none⟩) = some ad ∧ (y ≠ 4 → ad = ⟨g0, y * 2, none⟩) := by
    by_cases h4 : 4 = y
    · exact ⟨_, by rw [if_pos h4], fun h => absurd h4.symm h⟩
    · exact ⟨_, by rw [if_neg h4], fun _ => rfl⟩
  refine wp_append_own _ _ _ 41 rfl B8 43 i0 (.agg #[.string ByteArray.empty, .string ByteArray.empty]) 2 32 Tryz.underlying41 hi0 hz0 hz1 hz2 rfl (by decide) v2 z ((fldsV (fls keyL)).take (z * 2)) rfl HO10.out.1 ad (4 - y) (4 - y) ((fldsV (fls keyL)).drop (y * 2)) ?hx ?hl ?hn ?h1 ?h63 ?hby ?hbase ?_
  case hx =>
    show Value.slice (if 4 = y then some ⟨g0, 0, none⟩ else some ⟨g0, y * 2, none⟩) (4 - y) (4 - y) = _
    rw [hif]
  case hl => rw [List.length_drop, fldsV_len]; show (4 * 2) - _ = _; omega
  case hn =>
    intro j u hj
    rw [List.getElem?_drop] at hj
    have hjl := (List.getElem?_eq_some_iff.1 hj).1
    rw [fldsV_len] at hjl
    have hjl : y * 2 + j < 4 * 2 := hjl
    rw [had (by omega), addF]
    refine HI10.out.2.2.1.cell _ u ?_
    rw [← flC_list, Array.getElem?_toList] at hj; exact hj
  case h1 => exact fun u hu => fldsV_one _ u (List.mem_of_mem_drop hu)
  case h63 => unfold maxLen; omega
  case hby => omega
  case hbase => exact HO10.out.2
  intro v3 w11 ho11 hg11 _
  have hsz11 := hg11.size
  have hI11 : BlkIs w11 A (asS (.slice (some ⟨g1, 0, none⟩) 4 c1)) 68 ∧ BlkIs w11 H (hdC 9 ⟨#[]⟩ ⟨#[]⟩ ⟨#[]⟩ 0 0) 23 ∧ BlkIs w11 g0 (flC kyB) 43 ∧ Below w.heap.size w w11 ∧ BlkIs w11 R (rC 101 ⟨#[]⟩ (.slice (some ⟨g6, 0, none⟩) 3 cap6) ⟨#[]⟩) 46 := by
    have hl8 := HL8.out
    have hgb : ∀ j, v2.ownBlock = some j → B8 ≤ j := fun j hj => (HO10.out.1.lt j hj).1
    refine ⟨HI10.out.1.grown hg11 ?_, HI10.out.2.1.grown hg11 ?_, HI10.out.2.2.1.grown hg11 ?_, HI10.out.2.2.2.1.grown hg11 HI10.out.2.2.2.1.size ?_, HI10.out.2.2.2.2.grown hg11 ?_⟩
    · intro e; have := hgb _ e; omega
    · intro e; have := hgb _ e; omega
    · intro e; have := hgb _ e; omega
    · intro j hj; have := hgb j hj; omega
    · intro e; have := hgb _ e; omega
  have hz3 : z + (4 - y) = 3 := by omega
  have hfl : (fldsV (fls keyL)).take (z * 2) ++ (fldsV (fls keyL)).drop (y * 2) = fldsV (lack z) := by rw [← hy]; exact lack_V z hz
  rw [hz3, hfl] at ho11
  obtain ⟨g3, c3, rfl, hg3b, hg3l⟩ := own_slice ho11 (by decide)
  have hF11 : FldsIn w11 (.slice (some ⟨g3, 0, none⟩) 3 c3) (lack z) := fl_some (lack_tot z hz).1.symm ho11
  obtain ⟨W12, hW12⟩ : ∃ W, w11.setCell ⟨A, 4, none⟩ (.slice (some ⟨g3, 0, none⟩) 3 c3) = W := ⟨_, rfl⟩
  have hl8 := HL8.out
  have hI12 : BlkIs W12 A (asS (.slice (some ⟨g3, 0, none⟩) 3 c3)) 68 ∧ BlkIs W12 H (hdC 9 ⟨#[]⟩ ⟨#[]⟩ ⟨#[]⟩ 0 0) 23 ∧ BlkIs W12 g0 (flC kyB) 43 ∧ Below w.heap.size w W12 ∧ BlkIs W12 R (rC 101 ⟨#[]⟩ (.slice (some ⟨g6, 0, none⟩) 3 cap6) ⟨#[]⟩) 46 := by
    have hle := HLE.out
    have hlr := HLR.out
    rw [← hW12]
    exact ⟨hI11.1.set 4 _, hI11.2.1.setOther _ _ (by show H ≠ A; omega), hI11.2.2.1.setOther _ _ (by show g0 ≠ A; omega), hI11.2.2.2.1.setCell (p := ⟨A, 4, none⟩) hle.2.1 _, hI11.2.2.2.2.setOther _ _ (by show R ≠ A; omega)⟩
  have hF12 : FldsIn W12 (.slice (some ⟨g3, 0, none⟩) 3 c3) (lack z) := by
    rw [← hW12]
    obtain ⟨ao, cp, e, hat⟩ := hF11
    refine ⟨ao, cp, e, fun i p hp => ?_⟩
    obtain ⟨b, o, e2, hbl, q0, q1⟩ := hat i p hp
    have hbg : b = g3 := by rw [e2] at e; injection e with e; injection e with e; injection e with e; exact e.symm
    have hne : b ≠ A := by omega
    refine ⟨b, o, e2, by simpa using hbl, ?_, ?_⟩
    · rw [World.cell?_setCell_other _ _ _ _ (by simp [hne])]; exact q0
    · rw [World.cell?_setCell_other _ _ _ _ (by simp [hne])]; exact q1
  have f4 : w11.frozen? ⟨A, 4, none⟩ = false := hI11.1.free 4
  have c4 := hI11.1.cell 4 _ rfl
  have HW12 := Lib.hid hW12; have HI12 := Lib.hid (And.intro hI12.1 (And.intro hI12.2.1 (And.intro hI12.2.2.1 (And.intro hI12.2.2.2.1 hI12.2.2.2.2)))); have HF12 := Lib.hid hF12
  clear hg11 hsz11 hI11 ho11 hfl hz3 hF11 hW12 hI12 hF12 hg3b hg3l hl8 HI10 HO10
  refine hK _ _ trivial ?_
  clear hK K
  refine eachH_take (i := 10) rfl (by kernel_rfl) (by kernel_rfl) (by kernel_rfl) hS (v := ?_) ?_ ?_; rotate_left; · (intro W hS; clear hS; go_simp; with_reducible rfl)
  refine eachH_take (i := 11) rfl (by kernel_rfl) (by kernel_rfl) (by kernel_rfl) hS (v := ?_) ?_ ?_; rotate_left; · (intro W hS; clear hS; go_simp; with_reducible rfl)
  refine eachH1 (i := 12) (by kernel_rfl) rfl ?_
  intro K hK
  go_simp
  rw [HW12.out]
  refine hK _ _ trivial ?_
  clear hK K f4 c4
  refine eachH_done (by kernel_rfl) ?_
  go_simp
  have a0 := HI12.out.1.cell 0 _ rfl
  have a1 := HI12.out.1.cell 1 _ rfl
  have a2 := HI12.out.1.cell 2 _ rfl
  have a3 := HI12.out.1.cell 3 _ rfl
  have a4 := HI12.out.1.cell 4 _ rfl
  have a5 := HI12.out.1.cell 5 _ rfl
  have a6 := HI12.out.1.cell 6 _ rfl
  have a7 := HI12.out.1.cell 7 _ rfl
  have a8 := HI12.out.1.cell 8 _ rfl
  have a9 := HI12.out.1.cell 9 _ rfl
  have a10 := HI12.out.1.cell 10 _ rfl
  have a11 := HI12.out.1.cell 11 _ rfl
  have a12 := HI12.out.1.cell 12 _ rfl
  have a13 := HI12.out.1.cell 13 _ rfl
  have a14 := HI12.out.1.cell 14 _ rfl
  have h0 := HI12.out.2.1.cell 0 _ rfl
  have h1 := HI12.out.2.1.cell 1 _ rfl
  have h2 := HI12.out.2.1.cell 2 _ rfl
  have h3 := HI12.out.2.1.cell 3 _ rfl
  have h4 := HI12.out.2.1.cell 4 _ rfl
  have h5 := HI12.out.2.1.cell 5 _ rfl
  have hans := HANS.out (some ⟨g3, 0, none⟩) 3 c3 (lack z) W12 (by have := (lack_tot z hz).1; omega) (lack_tot z hz).2 HI12.out.2.2.2.1 HF12.out
  have h400 := sk_lack z hz
  obtain ⟨⟨st, L2, bo⟩, hsk⟩ : ∃ r, skR (lack z) = r := ⟨_, rfl⟩
  rw [hsk] at hans h400
  have HA12 := Lib.hid hans
  have s1 : ¬ st < 400 := by have : (400 : Int) ≤ st := h400; omega
  have s2 : decide (st < 400) = false := decide_eq_false s1
  clear hans h400 hsk
  go_wp2_with fail
  refine (HA12.out).mono ?_
  rintro e w13 ⟨fv, he13, hF13, hb13⟩
  obtain ⟨fo, fn, fc2, rfl⟩ := hF13.shape
  obtain rfl : e = .returned (.agg #[.int .i64 st, .string ⟨#[]⟩, .slice fo fn fc2, .string ⟨bo.toArray⟩]) := he13
  have hfd : (Instr.field 46 (.agg #[.int .i64 st, .string ⟨#[]⟩, .slice fo fn fc2, .string ⟨bo.toArray⟩]) 0).run Tryz.prog w13 = .ok (.int .i64 st) w13 := by kernel_rfl
  have HI13 := Lib.hid (And.intro (HI12.out.1.later hb13) (And.intro (HI12.out.2.1.later hb13) (And.intro (HI12.out.2.2.1.later hb13) (And.intro (HI12.out.2.2.2.1.trans (hb13.mono HI12.out.2.2.2.1.size)) (HI12.out.2.2.2.2.later hb13)))))
  clear hF13 hb13 a0 a1 a2 a3 a4 a5 a6 a7 a8 a9 a10 a11 a12 a13 a14 h0 h1 h2 h3 h4 h5 HI12 HF12 HA12 HW12
  have k7 := HI13.out.2.2.1.cell 7 _ rfl
  have k7f : w13.frozen? ⟨g0, 7, none⟩ = false := HI13.out.2.2.1.free 7
  obtain ⟨W14, hW14⟩ : ∃ W, (w13.setCell ⟨g0, 7, none⟩ (.string ⟨key.toArray⟩)).setCell ⟨A, 4, none⟩ (.slice (some ⟨g0, 0, none⟩) 4 4) = W := ⟨_, rfl⟩
  have hI14 : BlkIs W14 A (asS (.slice (some ⟨g0, 0, none⟩) 4 4)) 68 ∧ BlkIs W14 H (hdC 9 ⟨#[]⟩ ⟨#[]⟩ ⟨#[]⟩ 0 0) 23 ∧ BlkIs W14 g0 (flC ⟨key.toArray⟩) 43 ∧ Below w.heap.size w W14 ∧ BlkIs W14 R (rC 101 ⟨#[]⟩ (.slice (some ⟨g6, 0, none⟩) 3 cap6) ⟨#[]⟩) 46 := by
    have hle := HLE.out
    have hlr := HLR.out
    rw [← hW14]
    exact ⟨(HI13.out.1.setOther _ _ (by show A ≠ g0; omega)).set 4 _, (HI13.out.2.1.setOther _ _ (by show H ≠ g0; omega)).setOther _ _ (by show H ≠ A; omega), (HI13.out.2.2.1.set 7 _).setOther _ _ (by show g0 ≠ A; omega), (HI13.out.2.2.2.1.setCell (p := ⟨g0, 7, none⟩) hle.1 _).setCell (p := ⟨A, 4, none⟩) hle.2.1 _, (HI13.out.2.2.2.2.setOther _ _ (by show R ≠ g0; omega)).setOther _ _ (by show R ≠ A; omega)⟩
  have k4 : (w13.setCell ⟨g0, 7, none⟩ (.string ⟨key.toArray⟩)).cell? ⟨A, 4, none⟩ = some (.slice (some ⟨g3, 0, none⟩) 3 c3) := (HI13.out.1.setOther ⟨g0, 7, none⟩ (.string ⟨key.toArray⟩) (by have := HLE.out; show A ≠ g0; omega)).cell 4 _ rfl
  have k4f : (w13.setCell ⟨g0, 7, none⟩ (.string ⟨key.toArray⟩)).frozen? ⟨A, 4, none⟩ = false := (HI13.out.1.setOther ⟨g0, 7, none⟩ (.string ⟨key.toArray⟩) (by have := HLE.out; show A ≠ g0; omega)).free 4
  have hF14 : FldsIn W14 (.slice (some ⟨g0, 0, none⟩) 4 4) (fls key) := fldsIn_new rfl hI14.2.2.1 (flC_list key)
  have HW14 := Lib.hid hW14; have HI14 := Lib.hid hI14; have HF14 := Lib.hid hF14
  clear hW14 hI14 hF14
  go_upto_region 15 with fail
  rw [HW14.out]
  clear k7 k7f k4 k4f s1 s2 hfd
  have a0 := HI14.out.1.cell 0 _ rfl
  have a1 := HI14.out.1.cell 1 _ rfl
  have a2 := HI14.out.1.cell 2 _ rfl
  have a3 := HI14.out.1.cell 3 _ rfl
  have a4 := HI14.out.1.cell 4 _ rfl
  have a5 := HI14.out.1.cell 5 _ rfl
  have a6 := HI14.out.1.cell 6 _ rfl
  have a7 := HI14.out.1.cell 7 _ rfl
  have a8 := HI14.out.1.cell 8 _ rfl
  have a9 := HI14.out.1.cell 9 _ rfl
  have a10 := HI14.out.1.cell 10 _ rfl
  have a11 := HI14.out.1.cell 11 _ rfl
  have a12 := HI14.out.1.cell 12 _ rfl
  have a13 := HI14.out.1.cell 13 _ rfl
  have a14 := HI14.out.1.cell 14 _ rfl
  have h0 := HI14.out.2.1.cell 0 _ rfl
  have h1 := HI14.out.2.1.cell 1 _ rfl
  have h2 := HI14.out.2.1.cell 2 _ rfl
  have h3 := HI14.out.2.1.cell 3 _ rfl
  have h4 := HI14.out.2.1.cell 4 _ rfl
  have h5 := HI14.out.2.1.cell 5 _ rfl
  have hans := HANS.out (some ⟨g0, 0, none⟩) 4 4 (fls key) W14 (fls_tot key HKL.out).1 (fls_tot key HKL.out).2 HI14.out.2.2.2.1 HF14.out
  have hany := sk_any key
  have y0 := HI14.out.2.2.2.2.free 0
  obtain ⟨⟨st, L2, bo⟩, hsk⟩ : ∃ r, skR (fls key) = r := ⟨_, rfl⟩
  rw [hsk] at hans hany
  have HA14 := Lib.hid hans; have HANY := Lib.hid hany
  clear hans hany hsk y0
  go_wp2_with fail
  refine (HA14.out).mono ?_
  rintro e w15 ⟨fv, rfl, hF15, hb15⟩
  obtain ⟨fo2, fn2, fc3, rfl⟩ := hF15.shape
  have hI15 := And.intro (HI14.out.2.2.2.1.trans (hb15.mono HI14.out.2.2.2.1.size)) (HI14.out.2.2.2.2.later hb15)
  obtain ⟨W16, hW16⟩ : ∃ W, ((((w15.setCell ⟨R, 0, none⟩ (.int .i64 st)).setCell ⟨R, 1, none⟩ (.string ⟨#[]⟩)).setCell ⟨R, 2, none⟩ (.slice fo2 fn2 fc3)).setCell ⟨R, 3, none⟩ (.string ⟨bo.toArray⟩)) = W := ⟨_, rfl⟩
  have hle := HLE.out
  have hlr := HLR.out
  have hI16 : BlkIs W16 R (rC st ⟨#[]⟩ (.slice fo2 fn2 fc3) ⟨bo.toArray⟩) 46 ∧ Below w.heap.size w W16 ∧ FldRow W16 (.slice fo2 fn2 fc3) L2 := by
    rw [← hW16]
    exact ⟨fourSet hI15.2 rfl _ _ _ _, fourBelow hI15.1 (by omega) _ _ _ _, fourFld hF15 hI15.2 _ _ _ _⟩
  have y0 := hI15.2.free 0
  have y1 := hI15.2.free 1
  have y2 := hI15.2.free 2
  have y3 := hI15.2.free 3
  have x0 := hI15.2.cell 0 _ rfl
  have x1 := hI15.2.cell 1 _ rfl
  have x2 := hI15.2.cell 2 _ rfl
  have x3 := hI15.2.cell 3 _ rfl
  have HW16 := Lib.hid hW16; have HI16 := Lib.hid hI16
  clear hW16 hI16 hI15 hF15 hb15 a0 a1 a2 a3 a4 a5 a6 a7 a8 a9 a10 a11 a12 a13 a14 h0 h1 h2 h3 h4 h5 HI14 HF14 HA14 HW14 hle hlr
  go_upto_region 16 with fail
  rw [HW16.out]
  clear y0 y1 y2 y3 x0 x1 x2 x3
  have r0 := HI16.out.1.cell 0 _ rfl
  have r2 := HI16.out.1.cell 2 _ rfl
  rcases HANY.out with ⟨AA, hAA, he⟩ | he
  · injection he with e1 he
    injection he with e2 e3
    subst e1; subst e2; subst e3
    obtain ⟨gg, cp, e4, q0, q1⟩ := HI16.out.2.2.at 2 _ rfl
    injection e4 with e5 e6 e7
    subst e5; subst e6; subst e7
    have q1' : W16.cell? ⟨gg, 5, none⟩ = some (.string ⟨AA.toArray⟩) := q1
    have hAz : (⟨AA.toArray⟩ : ByteArray).size = 28 := by rw [acc_size]; exact hAA
    have HF := Lib.hid HI16.out.2.1
    clear q0 q1 HANY HI16 hAA
    go_wp2
    go_ret
    exact ⟨rfl, HF.out⟩
  · injection he with e1 he
    subst e1
    have HF := Lib.hid HI16.out.2.1
    clear HANY HI16 he
    go_wp2
    go_ret
    exact ⟨rfl, HF.out⟩
end Go.Proofs.YtdlpbpikhmciaaaGreatDoor
