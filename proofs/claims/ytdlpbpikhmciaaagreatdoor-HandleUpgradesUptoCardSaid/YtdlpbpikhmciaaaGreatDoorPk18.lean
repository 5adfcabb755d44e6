/- ShaW, ShaP: texts of the seat, one behind the other (a claim holds at most sixty). Conditions: each theorem names its own. -/
import Derived.Test.YtdlpbpikhmciaaaGreatDoorPa02
import Derived.Test.YtdlpbpikhmciaaaGreatDoorPk00
import Derived.Deep.OwnRows
namespace Go.Proofs.YtdlpbpikhmciaaaGreatDoor
open Go.RowKit
set_option linter.unusedSimpArgs false
set_option linter.unusedVariables false
/-- x turned left by n. -/
def rotN (n : Nat) (x : Int) : Int := bits .or .u32 (x * 2 ^ n % 4294967296) (x / 2 ^ (32 - n))
set_option maxRecDepth 100000 in
set_option maxHeartbeats 1000000 in
theorem rotl1_any (x : Int) (w : World) :
    Calls Tryz.prog 272 #[.int .u32 x, .int .i64 1] w fun e w' => e = .returned (.int .u32 (rotN 1 x)) ∧ w' = w := by
  have q : bits .and .u64 1 31 = 1 := by decide
  go_enter Tryz.func272, Tryz.ntmps272
  go_wp2
  go_ret
  exact ⟨rfl, rfl⟩
set_option maxRecDepth 100000 in
set_option maxHeartbeats 1000000 in
theorem rotl5_any (x : Int) (w : World) :
    Calls Tryz.prog 272 #[.int .u32 x, .int .i64 5] w fun e w' => e = .returned (.int .u32 (rotN 5 x)) ∧ w' = w := by
  have q : bits .and .u64 5 31 = 5 := by decide
  go_enter Tryz.func272, Tryz.ntmps272
  go_wp2
  go_ret
  exact ⟨rfl, rfl⟩
set_option maxRecDepth 100000 in
set_option maxHeartbeats 1000000 in
theorem rotl30_any (x : Int) (w : World) :
    Calls Tryz.prog 272 #[.int .u32 x, .int .i64 30] w fun e w' => e = .returned (.int .u32 (rotN 30 x)) ∧ w' = w := by
  have q : bits .and .u64 30 31 = 30 := by decide
  go_enter Tryz.func272, Tryz.ntmps272
  go_wp2
  go_ret
  exact ⟨rfl, rfl⟩
end Go.Proofs.YtdlpbpikhmciaaaGreatDoor
namespace Go.Proofs.YtdlpbpikhmciaaaGreatDoor
open Go.RowKit
set_option linter.unusedSimpArgs false
set_option linter.unusedVariables false

/-- Four bytes as a word. -/
def be4 (a b c d : Nat) : Nat := ((a * 256 + b) * 256 + c) * 256 + d
def wordAt (m : List UInt8) (t : Nat) : Int := ((be4 (m.getD (4 * t) 0).toNat (m.getD (4 * t + 1) 0).toNat (m.getD (4 * t + 2) 0).toNat (m.getD (4 * t + 3) 0).toNat : Nat) : Int)
def xw (a b : Int) : Int := bits .xor .u32 a b
def ow (a b : Int) : Int := bits .or .u32 a b
def nw (a b : Int) : Int := bits .and .u32 a b
def aw (a b : Int) : Int := (a + b) % 4294967296
/-- The first 16 words. -/
def first16 (m : List UInt8) : Nat → List Int
  | 0 => []
  | t + 1 => first16 m t ++ [wordAt m t]
def snext (l : List Int) (t : Nat) : Int := rotN 1 (xw (xw (xw (l.getD (t - 3) 0) (l.getD (t - 8) 0)) (l.getD (t - 14) 0)) (l.getD (t - 16) 0))
def sched (l : List Int) : Nat → List Int
  | 0 => l
  | k + 1 => sched l k ++ [snext (sched l k) (l.length + k)]
theorem first16_len (m : List UInt8) (t : Nat) : (first16 m t).length = t := by
  induction t with
  | zero => rfl
  | succ t ih => simp [first16, ih]
theorem sched_len (l : List Int) (k : Nat) : (sched l k).length = l.length + k := by
  induction k with
  | zero => rfl
  | succ k ih => simp [sched, ih]; omega
/-- The cells of an array of which the first words are laid. -/
def wcell (l : List Int) (j : Nat) : Value := .int .u32 (l.getD j 0)
theorem wcell_snoc (l : List Int) (v : Int) : (fun j => if j = l.length then Value.int .u32 v else wcell l j) = wcell (l ++ [v]) := by
  funext j
  unfold wcell
  by_cases h : j = l.length
  · subst h; simp
  · rw [if_neg h]
    by_cases h2 : j < l.length
    · simp [List.getD, List.getElem?_append, h2]
    · have h3 : l[j]? = none := List.getElem?_eq_none (by omega)
      have h4 : (l ++ [v])[j]? = none := List.getElem?_eq_none (by simp; omega)
      simp only [List.getD, h3, h4]
theorem wcell_last (l : List Int) (v : Int) {k : Nat} (h : l.length = k) : wcell (l ++ [v]) k = .int .u32 v := by
  subst h; simp [wcell]
theorem wcell_zero (l : List Int) : wcell (l ++ [0]) = wcell l := by
  rw [← wcell_snoc]
  funext j
  by_cases h : j = l.length
  · subst h; simp [wcell]
  · rw [if_neg h]
theorem wcell_over (l : List Int) (u v : Int) : (fun j => if j = l.length then Value.int .u32 v else wcell (l ++ [u]) j) = wcell (l ++ [v]) := by
  rw [← wcell_snoc, ← wcell_snoc]
  funext j
  by_cases h : j = l.length
  · simp [h]
  · simp [h]
def part (m : List UInt8) (t : Nat) : Nat → Nat
  | 0 => 0
  | j + 1 => part m t j * 256 + (m.getD (4 * t + j) 0).toNat
theorem part_lt (m : List UInt8) (t j : Nat) (h : j < 4) : part m t j < 16777216 := by
  have b (c : UInt8) : c.toNat < 256 := c.toBitVec.isLt
  match j, h with
  | 0, _ => simp [part]
  | 1, _ => have := b (m.getD (4 * t) 0); simp only [part, Nat.add_zero]; omega
  | 2, _ => have := b (m.getD (4 * t) 0); have := b (m.getD (4 * t + 1) 0); simp only [part, Nat.add_zero]; omega
  | 3, _ => have := b (m.getD (4 * t) 0); have := b (m.getD (4 * t + 1) 0); have := b (m.getD (4 * t + 2) 0); simp only [part, Nat.add_zero]; omega
theorem part_four (m : List UInt8) (t : Nat) : ((part m t 4 : Nat) : Int) = wordAt m t := by
  simp [part, wordAt, be4]
theorem wcell_at (l : List Int) (j : Nat) (v : Int) (h : l.getD j 0 = v) : wcell l j = .int .u32 v := by unfold wcell; rw [h]
theorem wrap_small (p : Nat) (h : p < 1000) : IntKind.i64.wrap (p : Int) = (p : Int) := by rw [IntKind.wrap_i64]; omega
structure Five where
  a : Int
  b : Int
  c : Int
  d : Int
  e : Int
def five0 : Five := ⟨1732584193, 4023233417, 2562383102, 271733878, 3285377520⟩
def fMix (t : Nat) (s : Five) : Int :=
  if t < 20 then ow (nw s.b s.c) (nw (bits .xor .u32 IntKind.u32.max s.b) s.d) else if t < 40 then xw (xw s.b s.c) s.d else if t < 60 then ow (ow (nw s.b s.c) (nw s.b s.d)) (nw s.c s.d) else xw (xw s.b s.c) s.d
def kMix (t : Nat) : Int := if t < 20 then 1518500249 else if t < 40 then 1859775393 else if t < 60 then 2400959708 else 3395469782
def rnd (t : Nat) (w : Int) (s : Five) : Five := ⟨aw (aw (aw (aw (rotN 5 s.a) (fMix t s)) s.e) (kMix t)) w, s.a, rotN 30 s.b, s.c, s.d⟩
def rounds (ws : List Int) : Nat → Five → Five
  | 0, s => s
  | k + 1, s => rnd k (ws.getD k 0) (rounds ws k s)
def Five.plus (h s : Five) : Five := ⟨aw h.a s.a, aw h.b s.b, aw h.c s.c, aw h.d s.d, aw h.e s.e⟩
def sched80 (m : List UInt8) : List Int := sched (first16 m 16) 64
/-- One block of 64 bytes taken. -/
def turnF (m : List UInt8) (h : Five) : Five := h.plus (rounds (sched80 m) 80 h)
def Five.at (h : Five) (j : Nat) : Int := match j with | 0 => h.a | 1 => h.b | 2 => h.c | 3 => h.d | _ => h.e
/-- The cells of a sum: five words, 64 bytes, the size. -/
def sumCell (h : Five) (m : List UInt8) (n : Nat) (j : Nat) : Value := if j < 5 then .int .u32 (h.at j) else if j < 69 then .int .u8 ((m.getD (j - 5) 0).toNat : Int) else .int .i64 n
theorem rnd0_a (k : Nat) (v a b c d e : Int) (hq : k / 20 = 0) : (rnd k v ⟨a, b, c, d, e⟩).a = ((((rotN 5 a + bits .or .u32 (bits .and .u32 b c) (bits .and .u32 (bits .xor .u32 IntKind.u32.max b) d)) % 4294967296 + e) % 4294967296 + 1518500249) % 4294967296 + v) % 4294967296 := by
  have h : k < 20 := by omega
  simp [rnd, fMix, kMix, h, aw, ow, nw]
theorem rnd1_a (k : Nat) (v a b c d e : Int) (hq : k / 20 = 1) : (rnd k v ⟨a, b, c, d, e⟩).a = ((((rotN 5 a + bits .xor .u32 (bits .xor .u32 b c) d) % 4294967296 + e) % 4294967296 + 1859775393) % 4294967296 + v) % 4294967296 := by
  have h : ¬ k < 20 := by omega
  have h2 : k < 40 := by omega
  simp [rnd, fMix, kMix, h, h2, aw, xw]
theorem rnd2_a (k : Nat) (v a b c d e : Int) (hq : k / 20 = 2) : (rnd k v ⟨a, b, c, d, e⟩).a = ((((rotN 5 a + bits .or .u32 (bits .or .u32 (bits .and .u32 b c) (bits .and .u32 b d)) (bits .and .u32 c d)) % 4294967296 + e) % 4294967296 + 2400959708) % 4294967296 + v) % 4294967296 := by
  have h : ¬ k < 20 := by omega
  have h2 : ¬ k < 40 := by omega
  have h3 : k < 60 := by omega
  simp [rnd, fMix, kMix, h, h2, h3, aw, ow, nw]
theorem rnd3_a (k : Nat) (v a b c d e : Int) (hq : k / 20 = 3) : (rnd k v ⟨a, b, c, d, e⟩).a = ((((rotN 5 a + bits .xor .u32 (bits .xor .u32 b c) d) % 4294967296 + e) % 4294967296 + 3395469782) % 4294967296 + v) % 4294967296 := by
  have h : ¬ k < 20 := by omega
  have h2 : ¬ k < 40 := by omega
  have h3 : ¬ k < 60 := by omega
  simp [rnd, fMix, kMix, h, h2, h3, aw, xw]
/-- The first k words added. -/
def mixF (h s : Five) (k : Nat) : Five := ⟨if 0 < k then aw h.a s.a else h.a, if 1 < k then aw h.b s.b else h.b, if 2 < k then aw h.c s.c else h.c, if 3 < k then aw h.d s.d else h.d, if 4 < k then aw h.e s.e else h.e⟩
theorem mixF_at (h s : Five) (k j : Nat) (hj : j < 5) : (mixF h s k).at j = if j < k then aw (h.at j) (s.at j) else h.at j := by
  match j, hj with
  | 0, _ => rfl
  | 1, _ => rfl
  | 2, _ => rfl
  | 3, _ => rfl
  | 4, _ => rfl
theorem mixF_zero (h s : Five) : mixF h s 0 = h := by cases h; rfl
theorem mixF_five (h s : Five) : mixF h s 5 = h.plus s := by cases h; rfl
theorem mix_set (h s : Five) (m : List UInt8) (n k : Nat) (hk : k < 5) : (fun j => if j = k then Value.int .u32 (aw (h.at k) (s.at k)) else sumCell (mixF h s k) m n j) = sumCell (mixF h s (k + 1)) m n := by
  funext j
  by_cases hj : j < 5
  · by_cases e : j = k
    · subst e
      rw [if_pos rfl]
      unfold sumCell
      rw [if_pos hj, mixF_at _ _ _ _ hj, if_pos (by omega)]
    · rw [if_neg e]
      unfold sumCell
      rw [if_pos hj, if_pos hj, mixF_at _ _ _ _ hj, mixF_at _ _ _ _ hj]
      by_cases h1 : j < k
      · rw [if_pos h1, if_pos (by omega)]
      · rw [if_neg h1, if_neg (by omega)]
  · rw [if_neg (by omega)]
    unfold sumCell
    rw [if_neg hj, if_neg hj]
theorem mix_word {w : World} {x n : Nat} {T : TypeId} {h s : Five} {m : List UInt8} {k : Nat} (hs : w.rowIs x T 70 (sumCell (mixF h s k) m n)) (hk : k < 5) :
    w.cell? ⟨x, k, none⟩ = some (.int .u32 (h.at k)) := by
  rw [hs.cell (by omega)]
  unfold sumCell
  rw [if_pos (by omega), mixF_at _ _ _ _ hk, if_neg (by omega)]
theorem u32_or_nat (a b : Nat) (ha : a < 4294967296) (hb : b < 4294967296) : bits .or .u32 (a : Int) (b : Int) = ((a ||| b : Nat) : Int) := by
  have hx : a ||| b < 2 ^ 32 := Nat.or_lt_two_pow (by omega) (by omega)
  have e1 : (BitVec.ofInt 32 (a : Int)).toNat = a := by rw [BitVec.ofInt_natCast, BitVec.toNat_ofNat]; exact Nat.mod_eq_of_lt (by omega)
  have e2 : (BitVec.ofInt 32 (b : Int)).toNat = b := by rw [BitVec.ofInt_natCast, BitVec.toNat_ofNat]; exact Nat.mod_eq_of_lt (by omega)
  show IntKind.u32.wrap ((BitVec.ofInt 32 (a : Int) ||| BitVec.ofInt 32 (b : Int)).toNat : Int) = _
  rw [BitVec.toNat_or, e1, e2, IntKind.wrap_u32]
  omega
/-- w << 8 | c. -/
theorem w_snoc (a : Nat) (c : UInt8) (ha : a < 16777216) : bits .or .u32 ((a : Int) * 256 % 4294967296) (c.toNat : Int) = ((a * 256 + c.toNat : Nat) : Int) := by
  have hc : c.toNat < 256 := c.toBitVec.isLt
  have e : ((a : Int) * 256 % 4294967296) = ((a * 256 : Nat) : Int) := by omega
  rw [e, u32_or_nat _ _ (by omega) (by omega), nat_join 8 (a * 256) c.toNat (by omega) (by omega)]
theorem sum_byte {w : World} {x n : Nat} {T : TypeId} {h : Five} {m : List UInt8} (hs : w.rowIs x T 70 (sumCell h m n)) (j : Nat) (hj : j < 64) (c : UInt8) (hc : m.getD j 0 = c) :
    w.cell? ⟨x, 5 + j, none⟩ = some (.int .u8 (c.toNat : Int)) := by
  rw [hs.cell (by omega)]
  unfold sumCell
  rw [if_neg (by omega), if_pos (by omega), show 5 + j - 5 = j from by omega, hc]
theorem sum_word {w : World} {x n : Nat} {T : TypeId} {h : Five} {m : List UInt8} (hs : w.rowIs x T 70 (sumCell h m n)) (j : Nat) (hj : j < 5) :
    w.cell? ⟨x, j, none⟩ = some (.int .u32 (h.at j)) := by
  rw [hs.cell (by omega)]
  unfold sumCell
  rw [if_pos (by omega)]
theorem sum_size {w : World} {x n : Nat} {T : TypeId} {h : Five} {m : List UInt8} (hs : w.rowIs x T 70 (sumCell h m n)) :
    w.cell? ⟨x, 69, none⟩ = some (.int .i64 (n : Int)) := by
  rw [hs.cell (by omega)]
  unfold sumCell
  rw [if_neg (by omega), if_neg (by omega)]
theorem part_snoc (m : List UInt8) (t j : Nat) (h : j < 4) (c : UInt8) (hc : m.getD (4 * t + j) 0 = c) : bits .or .u32 ((part m t j : Nat) * 256 % 4294967296 : Int) (c.toNat : Int) = ((part m t (j + 1) : Nat) : Int) := by
  rw [w_snoc _ _ (part_lt m t j h), part, hc]
theorem gbNew {w w' : World} {row : Option Nat} (h : w.grownBy w' row) {a : Addr} (ha : w.heap.size ≤ a.block) (v : Value) : w.grownBy (w'.setCell a v) row :=
  ⟨h.os, h.tape, h.output, by simpa [World.setCell] using h.size, fun i hi hne => (Below.heap_setCell w' a v i (by omega)).trans (h.block i hi hne)⟩
theorem gbOwn {w w' : World} {x : Nat} (h : w.grownBy w' (some x)) {a : Addr} (ha : a.block = x) (v : Value) : w.grownBy (w'.setCell a v) (some x) :=
  ⟨h.os, h.tape, h.output, by simpa [World.setCell] using h.size, fun i hi hne => (Below.heap_setCell w' a v i (by rintro rfl; exact hne (by rw [ha]))).trans (h.block i hi hne)⟩
theorem gbDraws {w w' : World} {row : Option Nat} (h : w.grownBy w' row) (k : Nat) : w.grownBy (w'.drewN k) row := ⟨h.os, h.tape, h.output, h.size, h.block⟩
end Go.Proofs.YtdlpbpikhmciaaaGreatDoor
