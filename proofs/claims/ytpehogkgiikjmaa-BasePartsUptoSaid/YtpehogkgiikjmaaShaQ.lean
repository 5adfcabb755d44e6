/- SHA-1 given byte by byte: what a sum holds; no program is named. No conditions. -/
import Derived.Test.YtpehogkgiikjmaaShaP
import Derived.Lib.LazyBuf
namespace Go.Proofs.Ytpehogkgiikjmaa
open Go.RowKit
set_option linter.unusedSimpArgs false
set_option linter.unusedVariables false
/-- What a sum holds: the words, the 64 bytes, how many bytes it was given. -/
structure St where
  h : Five
  m : List UInt8
  n : Nat
def push (s : St) (c : UInt8) : St := ⟨if (s.n + 1) % 64 = 0 then turnF (s.m.set (s.n % 64) c) s.h else s.h, s.m.set (s.n % 64) c, s.n + 1⟩
def feed (s : St) (l : List UInt8) : St := l.foldl push s
def st0 : St := ⟨five0, List.replicate 64 0, 0⟩
theorem feed_append (s : St) (a b : List UInt8) : feed s (a ++ b) = feed (feed s a) b := List.foldl_append
theorem feed_n (s : St) (l : List UInt8) : (feed s l).n = s.n + l.length := by
  induction l generalizing s with
  | nil => rfl
  | cons c r ih => show (feed (push s c) r).n = _; rw [ih]; simp [push]; omega
theorem feed_m (s : St) (l : List UInt8) : (feed s l).m.length = s.m.length := by
  induction l generalizing s with
  | nil => rfl
  | cons c r ih => show (feed (push s c) r).m.length = _; rw [ih]; simp [push]
/-- l laid at o. -/
def lay (m : List UInt8) (o : Nat) (l : List UInt8) : List UInt8 := m.take o ++ l ++ m.drop (o + l.length)
theorem lay_one (m : List UInt8) (o : Nat) (c : UInt8) (h : o < m.length) : lay m o [c] = m.set o c := by
  unfold lay
  rw [List.set_eq_take_append_cons_drop, if_pos h]
  simp
theorem lay_cons (m : List UInt8) (o : Nat) (c : UInt8) (r : List UInt8) (h : o < m.length) : lay (m.set o c) (o + 1) r = lay m o (c :: r) := by
  unfold lay
  rw [List.set_eq_take_append_cons_drop, if_pos h]
  have h1 : (m.take o).length = o := by rw [List.length_take]; omega
  have e1 : (m.take o ++ c :: m.drop (o + 1)).take (o + 1) = m.take o ++ [c] := by
    rw [List.take_append, h1, show o + 1 - o = 1 from by omega, List.take_of_length_le (by omega)]
    rfl
  have e2 : (m.take o ++ c :: m.drop (o + 1)).drop (o + 1 + r.length) = m.drop (o + (c :: r).length) := by
    rw [List.drop_append, h1, List.drop_eq_nil_of_le (by omega), show o + 1 + r.length - o = r.length + 1 from by omega]
    simp [List.drop_drop]
    congr 1; omega
  rw [e1, e2]; simp
theorem feed_chunk (s : St) (l : List UInt8) (hm : s.m.length = 64) (h1 : l ≠ []) (h2 : s.n % 64 + l.length ≤ 64) :
    feed s l = ⟨if (s.n + l.length) % 64 = 0 then turnF (lay s.m (s.n % 64) l) s.h else s.h, lay s.m (s.n % 64) l, s.n + l.length⟩ := by
  induction l generalizing s with
  | nil => exact absurd rfl h1
  | cons c r ih =>
    by_cases hr : r = []
    · subst hr
      show push s c = _
      rw [lay_one _ _ _ (by omega)]
      rfl
    · have hrl : 0 < r.length := List.length_pos_iff.2 hr
      have h2' : s.n % 64 + (r.length + 1) ≤ 64 := h2
      have hne : (s.n + 1) % 64 = s.n % 64 + 1 := by omega
      have hp : push s c = ⟨s.h, s.m.set (s.n % 64) c, s.n + 1⟩ := by unfold push; rw [if_neg (by omega)]
      show feed (push s c) r = _
      rw [hp, ih _ (by simpa using hm) hr (by show (s.n + 1) % 64 + r.length ≤ 64; omega)]
      show (⟨if (s.n + 1 + r.length) % 64 = 0 then turnF (lay (s.m.set (s.n % 64) c) ((s.n + 1) % 64) r) s.h else s.h, lay (s.m.set (s.n % 64) c) ((s.n + 1) % 64) r, s.n + 1 + r.length⟩ : St) = _
      rw [hne, lay_cons _ _ _ _ (by omega), show s.n + 1 + r.length = s.n + (c :: r).length from by simp; omega]
/-- 'copy(dst, s)', s a string: as many bytes as there is room for. -/
theorem run_copy_min {P : Program} (w : World) (dT sT ty elem : TypeId) (b o dLen dCap : Nat) (t : ByteArray)
    (hu : P.underlying dT = some (.slice elem)) (hz : ∀ w, (Go.sizeOf elem).run P w = .ok 1 w)
    (hc : ∀ j, j < Nat.min t.size dLen → (w.cell? ⟨b, o + j, none⟩).isSome = true) (hf : ∀ j, j < Nat.min t.size dLen → w.frozen? ⟨b, o + j, none⟩ = false) :
    (Builtin.copy_ #[dT, sT] ty #[.slice (some ⟨b, o, none⟩) dLen dCap, .string t]).run P w = .ok (goInt (Nat.min t.size dLen)) (w.setCells b o ((t.data.toList.take (Nat.min t.size dLen)).map fun x => Value.int .u8 (x.toNat : Int))) := by
  have hl : ((t.data.toList.take (Nat.min t.size dLen)).map fun x => Value.int .u8 (x.toNat : Int)).length = Nat.min t.size dLen := by
    rw [List.length_map, List.length_take, ← Lib.size_eq]; exact Nat.min_eq_left (Nat.min_le_left _ _)
  have hst := run_storeCells_cells (P := P) b o ((t.data.toList.take (Nat.min t.size dLen)).map fun x => Value.int .u8 (x.toNat : Int)) 0 w (by rw [hl]; simpa using hc) (by rw [hl]; simpa using hf) (by
    intro v hv
    obtain ⟨x, _, rfl⟩ := List.mem_map.1 hv
    rfl)
  simp [Builtin.copy_, run_underlying hu, Builtin.lenOf, Builtin.firstCells, hz]
  rw [← List.map_take, hst]
  rfl
/-- The cells of a sum. -/
def stCell (s : St) : Nat → Value := sumCell s.h s.m s.n
theorem getD_lay (m : List UInt8) (o : Nat) (l : List UInt8) (j : Nat) (ho : o + l.length ≤ m.length) : (lay m o l).getD j 0 = if o ≤ j ∧ j < o + l.length then l.getD (j - o) 0 else m.getD j 0 := by
  unfold lay
  have h1 : (m.take o).length = o := by rw [List.length_take]; omega
  simp only [List.getD, List.append_assoc]
  by_cases a : j < o
  · rw [if_neg (by omega), List.getElem?_append_left (by omega), List.getElem?_take_of_lt a]
  · rw [List.getElem?_append_right (by omega), h1]
    by_cases b : j < o + l.length
    · rw [if_pos (by omega), List.getElem?_append_left (by omega)]
    · rw [if_neg (by omega), List.getElem?_append_right (by omega), List.getElem?_drop, show o + l.length + (j - o - l.length) = j from by omega]
/-- What copy makes of the cells. -/
theorem sum_lay {w : World} {x n : Nat} {T : TypeId} {h : Five} {m : List UInt8} (hs : w.rowIs x T 70 (sumCell h m n)) (o : Nat) (l : List UInt8) (hm : m.length = 64) (ho : o + l.length ≤ 64) :
    (w.setCells x (5 + o) (l.map fun c => Value.int .u8 (c.toNat : Int))).rowIs x T 70 (sumCell h (lay m o l) n) := by
  refine (rowIs_setCells _ _ _ _ hs).congr (fun j hj => ?_)
  rw [List.length_map]
  unfold sumCell
  by_cases h5 : j < 5
  · rw [if_neg (by omega), if_pos h5, if_pos h5]
  · by_cases h69 : j < 69
    · rw [if_neg h5, if_pos h69, if_neg h5, if_pos h69, getD_lay _ _ _ _ (by omega)]
      by_cases a : 5 + o ≤ j ∧ j < 5 + o + l.length
      · rw [if_pos a, if_pos (by omega), show j - (5 + o) = j - 5 - o from by omega, List.getElem?_map]
        have : j - 5 - o < l.length := by omega
        simp [this]
      · rw [if_neg a, if_neg (by omega)]
    · rw [if_neg (by omega), if_neg h5, if_neg h69, if_neg h5, if_neg h69]
theorem sum_sized {w : World} {x n : Nat} {T : TypeId} {h : Five} {m : List UInt8} (hs : w.rowIs x T 70 (sumCell h m n)) (n' : Nat) :
    (w.setCell ⟨x, 69, none⟩ (.int .i64 (n' : Int))).rowIs x T 70 (sumCell h m n') := by
  refine (hs.set 69 _).congr (fun j hj => ?_)
  unfold sumCell
  by_cases e : j = 69
  · subst e; rfl
  · rw [if_neg e]
    by_cases h5 : j < 5
    · rw [if_pos h5, if_pos h5]
    · rw [if_neg h5, if_neg h5, if_pos (by omega), if_pos (by omega)]
theorem gbCells {x : Nat} {w : World} : ∀ {vs : List Value} {w' : World}, w.grownBy w' (some x) → ∀ (o : Nat), w.grownBy (w'.setCells x o vs) (some x)
  | [], _, h, _ => h
  | v :: _, _, h, o => gbCells (gbOwn h (a := ⟨x, o, none⟩) rfl v) (o + 1)
/-- How many zeros up to 56 bytes over a block. -/
def zc (n : Nat) : Nat := (120 - n % 64) % 64
theorem zc_lt (n : Nat) : zc n < 64 := by unfold zc; omega
theorem zc_next (n : Nat) (h : ¬ n % 64 = 56) : zc (n + 1) < zc n := by unfold zc; omega
theorem zc_hit (n k : Nat) (hk : k ≤ zc n) (h : (n + k) % 64 = 56) : k = zc n := by unfold zc at *; omega
/-- A byte of a number of 64 bits. -/
def lenB (b i : Nat) : UInt8 := UInt8.ofNat (b / 2 ^ (56 - 8 * i) % 256)
theorem lenB_nat (b i : Nat) : (lenB b i).toNat = b / 2 ^ (56 - 8 * i) % 256 := by
  unfold lenB
  rw [UInt8.toNat_ofNat']
  omega
def lenL (b : Nat) : Nat → List UInt8
  | 0 => []
  | k + 1 => lenL b k ++ [lenB b k]
theorem lenL_len (b k : Nat) : (lenL b k).length = k := by
  induction k with
  | zero => rfl
  | succ k ih => simp [lenL, ih]
def bcell (l : List UInt8) (j : Nat) : Value := .int .u8 ((l.getD j 0).toNat : Int)
theorem bcell_snoc (l : List UInt8) (c : UInt8) {k : Nat} (hk : l.length = k) : (fun j => if j = k then Value.int .u8 (c.toNat : Int) else bcell l j) = bcell (l ++ [c]) := by
  subst hk
  funext j
  unfold bcell
  by_cases h : j = l.length
  · subst h; simp
  · rw [if_neg h]
    by_cases h2 : j < l.length
    · simp [List.getD, List.getElem?_append, h2]
    · have h3 : l[j]? = none := List.getElem?_eq_none (by omega)
      have h4 : (l ++ [c])[j]? = none := List.getElem?_eq_none (by simp; omega)
      simp only [List.getD, h3, h4]
/-- A word's bytes. -/
def ob (w d : Int) : UInt8 := UInt8.ofNat ((w / d) % 256).toNat
theorem ob_int (w d : Int) : ((ob w d).toNat : Int) = (w / d) % 256 := by
  unfold ob
  rw [UInt8.toNat_ofNat']
  omega
def out4 (w : Int) : List UInt8 := [ob w 16777216, ob w 65536, ob w 256, ob w 1]
def outN (h : Five) : Nat → List UInt8
  | 0 => []
  | k + 1 => outN h k ++ out4 (h.at k)
def outF (h : Five) : List UInt8 := outN h 5
theorem outN_len (h : Five) (k : Nat) : (outN h k).length = 4 * k := by
  induction k with
  | zero => rfl
  | succ k ih => simp [outN, ih, out4]; omega
/-- What is given behind n bytes. -/
def tailL (n : Nat) : List UInt8 := [128] ++ List.replicate (zc (n + 1)) 0 ++ lenL (n * 8) 8
theorem lenB_int (n j : Nat) : (n : Int) * 8 / 2 ^ (56 - 8 * j) % 256 = ((lenB (n * 8) j).toNat : Int) := by
  rw [lenB_nat]
  have e : (2 : Int) ^ (56 - 8 * j) = ((2 ^ (56 - 8 * j) : Nat) : Int) := by simp
  rw [e]
  generalize 2 ^ (56 - 8 * j) = d
  have e2 : (n : Int) * 8 = ((n * 8 : Nat) : Int) := by omega
  rw [e2]
  generalize n * 8 = b
  rw [← Int.natCast_ediv]
  omega
/-- Block b. -/
def blk (ml : List UInt8) (b : Nat) : List UInt8 := (ml.drop (64 * b)).take 64
def hashN (ml : List UInt8) : Nat → Five
  | 0 => five0
  | b + 1 => turnF (blk ml b) (hashN ml b)
/-- The words, one by one. -/
def schedN (m : List UInt8) : Nat → List Int
  | 0 => []
  | t + 1 => schedN m t ++ [if t < 16 then wordAt m t else snext (schedN m t) t]
theorem schedN_len (m : List UInt8) (t : Nat) : (schedN m t).length = t := by
  induction t with
  | zero => rfl
  | succ t ih => simp [schedN, ih]
theorem schedN_first (m : List UInt8) (t : Nat) (h : t ≤ 16) : schedN m t = first16 m t := by
  induction t with
  | zero => rfl
  | succ t ih => rw [schedN, first16, ih (by omega), if_pos (by omega)]
theorem schedN_sched (m : List UInt8) (k : Nat) : schedN m (16 + k) = sched (first16 m 16) k := by
  induction k with
  | zero => exact schedN_first m 16 (Nat.le_refl _)
  | succ k ih => rw [← Nat.add_assoc, schedN, sched, ih, if_neg (by omega), first16_len]
theorem schedN_80 (m : List UInt8) : schedN m 80 = sched80 m := schedN_sched m 64
theorem blk_getD (ml : List UInt8) (b j : Nat) (h : j < 64) : (blk ml b).getD j 0 = ml.getD (64 * b + j) 0 := by
  unfold blk
  simp only [List.getD]
  rw [List.getElem?_take_of_lt h, List.getElem?_drop]
theorem or_step (k x y d : Nat) (hd : 2 ^ k = d) (hx : x % d = 0) (hy : y < d) (hx2 : x < 4294967296) (hy2 : y < 4294967296) : bits .or .u32 (x : Int) (y : Int) = ((x + y : Nat) : Int) := by
  rw [u32_or_nat x y hx2 hy2, nat_join k x y (by rw [hd]; exact hx) (by rw [hd]; exact hy)]
theorem word4 (c0 c1 c2 c3 : UInt8) : bits .or .u32 (bits .or .u32 (bits .or .u32 ((c0.toNat : Int) * 16777216 % 4294967296) ((c1.toNat : Int) * 65536 % 4294967296)) ((c2.toNat : Int) * 256 % 4294967296)) (c3.toNat : Int) = ((be4 c0.toNat c1.toNat c2.toNat c3.toNat : Nat) : Int) := by
  have h0 : c0.toNat < 256 := c0.toBitVec.isLt
  have h1 : c1.toNat < 256 := c1.toBitVec.isLt
  have h2 : c2.toNat < 256 := c2.toBitVec.isLt
  have h3 : c3.toNat < 256 := c3.toBitVec.isLt
  generalize c0.toNat = a at *
  generalize c1.toNat = b at *
  generalize c2.toNat = c at *
  generalize c3.toNat = d at *
  have e0 : ((a : Int) * 16777216 % 4294967296) = ((a * 16777216 : Nat) : Int) := by omega
  have e1 : ((b : Int) * 65536 % 4294967296) = ((b * 65536 : Nat) : Int) := by omega
  have e2 : ((c : Int) * 256 % 4294967296) = ((c * 256 : Nat) : Int) := by omega
  rw [e0, e1, e2, or_step 24 (a * 16777216) (b * 65536) 16777216 (by decide) (by omega) (by omega) (by omega) (by omega), or_step 16 (a * 16777216 + b * 65536) (c * 256) 65536 (by decide) (by omega) (by omega) (by omega) (by omega),
    or_step 8 (a * 16777216 + b * 65536 + c * 256) d 256 (by decide) (by omega) (by omega) (by omega) (by omega)]
  unfold be4
  omega
theorem h5_set {w : World} {H k : Nat} {T : TypeId} {h z : Five} (hk : k < 5) (hr : w.rowIs H T 5 (fun j => .int .u32 ((mixF h z k).at j))) :
    (w.setCell ⟨H, k, none⟩ (.int .u32 (aw (h.at k) (z.at k)))).rowIs H T 5 (fun j => .int .u32 ((mixF h z (k + 1)).at j)) := by
  refine (hr.set k _).congr (fun j hj => ?_)
  show (if j = k then Value.int .u32 (aw (h.at k) (z.at k)) else .int .u32 ((mixF h z k).at j)) = .int .u32 ((mixF h z (k + 1)).at j)
  rw [mixF_at _ _ _ _ hj, mixF_at _ _ _ _ hj]
  by_cases e : j = k
  · subst e
    rw [if_pos rfl, if_pos (by omega)]
  · rw [if_neg e]
    by_cases h1 : j < k
    · rw [if_pos h1, if_pos (by omega)]
    · rw [if_neg h1, if_neg (by omega)]
theorem h5_read {w : World} {H k : Nat} {T : TypeId} {h z : Five} (hk : k < 5) (hr : w.rowIs H T 5 (fun j => .int .u32 ((mixF h z k).at j))) : w.cell? ⟨H, k, none⟩ = some (.int .u32 (h.at k)) := by
  rw [hr.cell hk]
  show some (Value.int .u32 ((mixF h z k).at k)) = _
  rw [mixF_at _ _ _ _ hk, if_neg (by omega)]
/-- The document's sum: the text and its tail, block by block. -/
def shaR (l : List UInt8) : List UInt8 := outF (hashN (l ++ tailL l.length) ((l ++ tailL l.length).length / 64))
end Go.Proofs.Ytpehogkgiikjmaa
