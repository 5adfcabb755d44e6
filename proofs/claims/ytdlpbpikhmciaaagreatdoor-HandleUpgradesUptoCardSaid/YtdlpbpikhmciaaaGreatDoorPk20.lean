/- ShaQ, ShaU, BaseP: texts of the seat, one behind the other (a claim holds at most sixty). Conditions: each theorem names its own. -/
import Derived.Test.YtdlpbpikhmciaaaGreatDoorPk18
import Derived.Lib.LazyBuf
import Derived.Test.YtdlpbpikhmciaaaGreatDoorPa19
import Derived.Test.YtdlpbpikhmciaaaGreatDoorPk00
namespace Go.Proofs.YtdlpbpikhmciaaaGreatDoor
open Go.RowKit
set_option linter.unusedSimpArgs false
set_option linter.unusedVariables false
/-- What a sum holds: the words, the 64 bytes, how many bytes it was given. -/
structure St where
  h : Five
  m : List UInt8
  n : Nat
def push (s : St) (c : UInt8) : St := ⟨if (s.n + 1) % 64 = 0 then turnF (s.m.set (s.n % 64) c) s.h else s.h, s.m.set (s.n % 64) c, s.n + 1⟩
def feed (s : St) (l : List UInt8) : St := l.foldl push s
def st0 : St := ⟨five0, List.replicate 64 0, 0⟩
theorem feed_append (s : St) (a b : List UInt8) : feed s (a ++ b) = feed (feed s a) b := List.foldl_append
theorem feed_n (s : St) (l : List UInt8) : (feed s l).n = s.n + l.length := by
  induction l generalizing s with
  | nil => rfl
  | cons c r ih => show (feed (push s c) r).n = _; rw [ih]; simp [push]; omega
theorem feed_m (s : St) (l : List UInt8) : (feed s l).m.length = s.m.length := by
  induction l generalizing s with
  | nil => rfl
  | cons c r ih => show (feed (push s c) r).m.length = _; rw [ih]; simp [push]
/-- l laid at o. -/
def lay (m : List UInt8) (o : Nat) (l : List UInt8) : List UInt8 := m.take o ++ l ++ m.drop (o + l.length)
theorem lay_one (m : List UInt8) (o : Nat) (c : UInt8) (h : o < m.length) : lay m o [c] = m.set o c := by
  unfold lay
  rw [List.set_eq_take_append_cons_drop, if_pos h]
  simp
theorem lay_cons (m : List UInt8) (o : Nat) (c : UInt8) (r : List UInt8) (h : o < m.length) : lay (m.set o c) (o + 1) r = lay m o (c :: r) := by
  unfold lay
  rw [List.set_eq_take_append_cons_drop, if_pos h]
  have h1 : (m.take o).length = o := by rw [List.length_take]; omega
  have e1 : (m.take o ++ c :: m.drop (o + 1)).take (o + 1) = m.take o ++ [c] := by
    rw [List.take_append, h1, show o + 1 - o = 1 from by omega, List.take_of_length_le (by omega)]
    rfl
  have e2 : (m.take o ++ c :: m.drop (o + 1)).drop (o + 1 + r.length) = m.drop (o + (c :: r).length) := by
    rw [List.drop_append, h1, List.drop_eq_nil_of_le (by omega), show o + 1 + r.length - o = r.length + 1 from by omega]
    simp [List.drop_drop]
    congr 1; omega
  rw [e1, e2]; simp
theorem feed_chunk (s : St) (l : List UInt8) (hm : s.m.length = 64) (h1 : l ≠ []) (h2 : s.n % 64 + l.length ≤ 64) :
    feed s l = ⟨if (s.n + l.length) % 64 = 0 then turnF (lay s.m (s.n % 64) l) s.h else s.h, lay s.m (s.n % 64) l, s.n + l.length⟩ := by
  induction l generalizing s with
  | nil => exact absurd rfl h1
  | cons c r ih =>
    by_cases hr : r = []
    · subst hr
      show push s c = _
      rw [lay_one _ _ _ (by omega)]
      rfl
    · have hrl : 0 < r.length := List.length_pos_iff.2 hr
      have h2' : s.n % 64 + (r.length + 1) ≤ 64 := h2
      have hne : (s.n + 1) % 64 = s.n % 64 + 1 := by omega
      have hp : push s c = ⟨s.h, s.m.set (s.n % 64) c, s.n + 1⟩ := by unfold push; rw [if_neg (by omega)]
      show feed (push s c) r = _
      rw [hp, ih _ (by simpa using hm) hr (by show (s.n + 1) % 64 + r.length ≤ 64; omega)]
      show (⟨if (s.n + 1 + r.length) % 64 = 0 then turnF (lay (s.m.set (s.n % 64) c) ((s.n + 1) % 64) r) s.h else s.h, lay (s.m.set (s.n % 64) c) ((s.n + 1) % 64) r, s.n + 1 + r.length⟩ : St) = _
      rw [hne, lay_cons _ _ _ _ (by omega), show s.n + 1 + r.length = s.n + (c :: r).length from by simp; omega]
/-- 'copy(dst, s)', s a string: as many bytes as there is room for. -/
theorem run_copy_min {P : Program} (w : World) (dT sT ty elem : TypeId) (b o dLen dCap : Nat) (t : ByteArray)
    (hu : P.underlying dT = some (.slice elem)) (hz : ∀ w, (Go.sizeOf elem).run P w = .ok 1 w)
    (hc : ∀ j, j < Nat.min t.size dLen → (w.cell? ⟨b, o + j, none⟩).isSome = true) (hf : ∀ j, j < Nat.min t.size dLen → w.frozen? ⟨b, o + j, none⟩ = false) :
    (Builtin.copy_ #[dT, sT] ty #[.slice (some ⟨b, o, none⟩) dLen dCap, .string t]).run P w = .ok (goInt (Nat.min t.size dLen)) (w.setCells b o ((t.data.toList.take (Nat.min t.size dLen)).map fun x => Value.int .u8 (x.toNat : Int))) := by
  have hl : ((t.data.toList.take (Nat.min t.size dLen)).map fun x => Value.int .u8 (x.toNat : Int)).length = Nat.min t.size dLen := by
    rw [List.length_map, List.length_take, ← Lib.size_eq]; exact Nat.min_eq_left (Nat.min_le_left _ _)
  have hst := run_storeCells_cells (P := P) b o ((t.data.toList.take (Nat.min t.size dLen)).map fun x => Value.int .u8 (x.toNat : Int)) 0 w (by rw [hl]; simpa using hc) (by rw [hl]; simpa using hf) (by
    intro v hv
    obtain ⟨x, _, rfl⟩ := List.mem_map.1 hv
    rfl)
  simp [Builtin.copy_, run_underlying hu, Builtin.lenOf, Builtin.firstCells, hz]
  rw [← List.map_take, hst]
  rfl
/-- The cells of a sum. -/
def stCell (s : St) : Nat → Value := sumCell s.h s.m s.n
theorem getD_lay (m : List UInt8) (o : Nat) (l : List UInt8) (j : Nat) (ho : o + l.length ≤ m.length) : (lay m o l).getD j 0 = if o ≤ j ∧ j < o + l.length then l.getD (j - o) 0 else m.getD j 0 := by
  unfold lay
  have h1 : (m.take o).length = o := by rw [List.length_take]; omega
  simp only [List.getD, List.append_assoc]
  by_cases a : j < o
  · rw [if_neg (by omega), List.getElem?_append_left (by omega), List.getElem?_take_of_lt a]
  · rw [List.getElem?_append_right (by omega), h1]
    by_cases b : j < o + l.length
    · rw [if_pos (by omega), List.getElem?_append_left (by omega)]
    · rw [if_neg (by omega), List.getElem?_append_right (by omega), List.getElem?_drop, show o + l.length + (j - o - l.length) = j from by omega]
/-- What copy makes of the cells. -/
theorem sum_lay {w : World} {x n : Nat} {T : TypeId} {h : Five} {m : List UInt8} (hs : w.rowIs x T 70 (sumCell h m n)) (o : Nat) (l : List UInt8) (hm : m.length = 64) (ho : o + l.length ≤ 64) :
    (w.setCells x (5 + o) (l.map fun c => Value.int .u8 (c.toNat : Int))).rowIs x T 70 (sumCell h (lay m o l) n) := by
  refine (rowIs_setCells _ _ _ _ hs).congr (fun j hj => ?_)
  rw [List.length_map]
  unfold sumCell
  by_cases h5 : j < 5
  · rw [if_neg (by omega), if_pos h5, if_pos h5]
  · by_cases h69 : j < 69
    · rw [if_neg h5, if_pos h69, if_neg h5, if_pos h69, getD_lay _ _ _ _ (by omega)]
      by_cases a : 5 + o ≤ j ∧ j < 5 + o + l.length
      · rw [if_pos a, if_pos (by omega), show j - (5 + o) = j - 5 - o from by omega, List.getElem?_map]
        have : j - 5 - o < l.length := by omega
        simp [this]
      · rw [if_neg a, if_neg (by omega)]
    · rw [if_neg (by omega), if_neg h5, if_neg h69, if_neg h5, if_neg h69]
theorem sum_sized {w : World} {x n : Nat} {T : TypeId} {h : Five} {m : List UInt8} (hs : w.rowIs x T 70 (sumCell h m n)) (n' : Nat) :
    (w.setCell ⟨x, 69, none⟩ (.int .i64 (n' : Int))).rowIs x T 70 (sumCell h m n') := by
  refine (hs.set 69 _).congr (fun j hj => ?_)
  unfold sumCell
  by_cases e : j = 69
  · subst e; rfl
  · rw [if_neg e]
    by_cases h5 : j < 5
    · rw [if_pos h5, if_pos h5]
    · rw [if_neg h5, if_neg h5, if_pos (by omega), if_pos (by omega)]
theorem gbCells {x : Nat} {w : World} : ∀ {vs : List Value} {w' : World}, w.grownBy w' (some x) → ∀ (o : Nat), w.grownBy (w'.setCells x o vs) (some x)
  | [], _, h, _ => h
  | v :: _, _, h, o => gbCells (gbOwn h (a := ⟨x, o, none⟩) rfl v) (o + 1)
/-- How many zeros up to 56 bytes over a block. -/
def zc (n : Nat) : Nat := (120 - n % 64) % 64
theorem zc_lt (n : Nat) : zc n < 64 := by unfold zc; omega
theorem zc_next (n : Nat) (h : ¬ n % 64 = 56) : zc (n + 1) < zc n := by unfold zc; omega
theorem zc_hit (n k : Nat) (hk : k ≤ zc n) (h : (n + k) % 64 = 56) : k = zc n := by unfold zc at *; omega
/-- A byte of a number of 64 bits. -/
def lenB (b i : Nat) : UInt8 := UInt8.ofNat (b / 2 ^ (56 - 8 * i) % 256)
theorem lenB_nat (b i : Nat) : (lenB b i).toNat = b / 2 ^ (56 - 8 * i) % 256 := by
  unfold lenB
  rw [UInt8.toNat_ofNat']
  omega
def lenL (b : Nat) : Nat → List UInt8
  | 0 => []
  | k + 1 => lenL b k ++ [lenB b k]
theorem lenL_len (b k : Nat) : (lenL b k).length = k := by
  induction k with
  | zero => rfl
  | succ k ih => simp [lenL, ih]
def bcell (l : List UInt8) (j : Nat) : Value := .int .u8 ((l.getD j 0).toNat : Int)
theorem bcell_snoc (l : List UInt8) (c : UInt8) {k : Nat} (hk : l.length = k) : (fun j => if j = k then Value.int .u8 (c.toNat : Int) else bcell l j) = bcell (l ++ [c]) := by
  subst hk
  funext j
  unfold bcell
  by_cases h : j = l.length
  · subst h; simp
  · rw [if_neg h]
    by_cases h2 : j < l.length
    · simp [List.getD, List.getElem?_append, h2]
    · have h3 : l[j]? = none := List.getElem?_eq_none (by omega)
      have h4 : (l ++ [c])[j]? = none := List.getElem?_eq_none (by simp; omega)
      simp only [List.getD, h3, h4]
/-- A word's bytes. -/
def ob (w d : Int) : UInt8 := UInt8.ofNat ((w / d) % 256).toNat
theorem ob_int (w d : Int) : ((ob w d).toNat : Int) = (w / d) % 256 := by
  unfold ob
  rw [UInt8.toNat_ofNat']
  omega
def out4 (w : Int) : List UInt8 := [ob w 16777216, ob w 65536, ob w 256, ob w 1]
def outN (h : Five) : Nat → List UInt8
  | 0 => []
  | k + 1 => outN h k ++ out4 (h.at k)
def outF (h : Five) : List UInt8 := outN h 5
theorem outN_len (h : Five) (k : Nat) : (outN h k).length = 4 * k := by
  induction k with
  | zero => rfl
  | succ k ih => simp [outN, ih, out4]; omega
/-- What is given behind n bytes. -/
def tailL (n : Nat) : List UInt8 := [128] ++ List.replicate (zc (n + 1)) 0 ++ lenL (n * 8) 8
theorem lenB_int (n j : Nat) : (n : Int) * 8 / 2 ^ (56 - 8 * j) % 256 = ((lenB (n * 8) j).toNat : Int) := by
  rw [lenB_nat]
  have e : (2 : Int) ^ (56 - 8 * j) = ((2 ^ (56 - 8 * j) : Nat) : Int) := by simp
  rw [e]
  generalize 2 ^ (56 - 8 * j) = d
  have e2 : (n : Int) * 8 = ((n * 8 : Nat) : Int) := by omega
  rw [e2]
  generalize n * 8 = b
  rw [← Int.natCast_ediv]
  omega
/-- Block b. -/
def blk (ml : List UInt8) (b : Nat) : List UInt8 := (ml.drop (64 * b)).take 64
def hashN (ml : List UInt8) : Nat → Five
  | 0 => five0
  | b + 1 => turnF (blk ml b) (hashN ml b)
/-- The words, one by one. -/
def schedN (m : List UInt8) : Nat → List Int
  | 0 => []
  | t + 1 => schedN m t ++ [if t < 16 then wordAt m t else snext (schedN m t) t]
theorem schedN_len (m : List UInt8) (t : Nat) : (schedN m t).length = t := by
  induction t with
  | zero => rfl
  | succ t ih => simp [schedN, ih]
theorem schedN_first (m : List UInt8) (t : Nat) (h : t ≤ 16) : schedN m t = first16 m t := by
  induction t with
  | zero => rfl
  | succ t ih => rw [schedN, first16, ih (by omega), if_pos (by omega)]
theorem schedN_sched (m : List UInt8) (k : Nat) : schedN m (16 + k) = sched (first16 m 16) k := by
  induction k with
  | zero => exact schedN_first m 16 (Nat.le_refl _)
  | succ k ih => rw [← Nat.add_assoc, schedN, sched, ih, if_neg (by omega), first16_len]
theorem schedN_80 (m : List UInt8) : schedN m 80 = sched80 m := schedN_sched m 64
theorem blk_getD (ml : List UInt8) (b j : Nat) (h : j < 64) : (blk ml b).getD j 0 = ml.getD (64 * b + j) 0 := by
  unfold blk
  simp only [List.getD]
  rw [List.getElem?_take_of_lt h, List.getElem?_drop]
theorem or_step (k x y d : Nat) (hd : 2 ^ k = d) (hx : x % d = 0) (hy : y < d) (hx2 : x < 4294967296) (hy2 : y < 4294967296) : bits .or .u32 (x : Int) (y : Int) = ((x + y : Nat) : Int) := by
  rw [u32_or_nat x y hx2 hy2, nat_join k x y (by rw [hd]; exact hx) (by rw [hd]; exact hy)]
theorem word4 (c0 c1 c2 c3 : UInt8) : bits .or .u32 (bits .or .u32 (bits .or .u32 ((c0.toNat : Int) * 16777216 % 4294967296) ((c1.toNat : Int) * 65536 % 4294967296)) ((c2.toNat : Int) * 256 % 4294967296)) (c3.toNat : Int) = ((be4 c0.toNat c1.toNat c2.toNat c3.toNat : Nat) : Int) := by
  have h0 : c0.toNat < 256 := c0.toBitVec.isLt
  have h1 : c1.toNat < 256 := c1.toBitVec.isLt
  have h2 : c2.toNat < 256 := c2.toBitVec.isLt
  have h3 : c3.toNat < 256 := c3.toBitVec.isLt
  generalize c0.toNat = a at *
  generalize c1.toNat = b at *
  generalize c2.toNat = c at *
  generalize c3.toNat = d at *
  have e0 : ((a : Int) * 16777216 % 4294967296) = ((a * 16777216 : Nat) : Int) := by omega
  have e1 : ((b : Int) * 65536 % 4294967296) = ((b * 65536 : Nat) : Int) := by omega
  have e2 : ((c : Int) * 256 % 4294967296) = ((c * 256 : Nat) : Int) := by omega
  rw [e0, e1, e2, or_step 24 (a * 16777216) (b * 65536) 16777216 (by decide) (by omega) (by omega) (by omega) (by omega), or_step 16 (a * 16777216 + b * 65536) (c * 256) 65536 (by decide) (by omega) (by omega) (by omega) (by omega),
    or_step 8 (a * 16777216 + b * 65536 + c * 256) d 256 (by decide) (by omega) (by omega) (by omega) (by omega)]
  unfold be4
  omega
theorem h5_set {w : World} {H k : Nat} {T : TypeId} {h z : Five} (hk : k < 5) (hr : w.rowIs H T 5 (fun j => .int .u32 ((mixF h z k).at j))) :
    (w.setCell ⟨H, k, none⟩ (.int .u32 (aw (h.at k) (z.at k)))).rowIs H T 5 (fun j => .int .u32 ((mixF h z (k + 1)).at j)) := by
  refine (hr.set k _).congr (fun j hj => ?_)
  show (if j = k then Value.int .u32 (aw (h.at k) (z.at k)) else .int .u32 ((mixF h z k).at j)) = .int .u32 ((mixF h z (k + 1)).at j)
  rw [mixF_at _ _ _ _ hj, mixF_at _ _ _ _ hj]
  by_cases e : j = k
  · subst e
    rw [if_pos rfl, if_pos (by omega)]
  · rw [if_neg e]
    by_cases h1 : j < k
    · rw [if_pos h1, if_pos (by omega)]
    · rw [if_neg h1, if_neg (by omega)]
theorem h5_read {w : World} {H k : Nat} {T : TypeId} {h z : Five} (hk : k < 5) (hr : w.rowIs H T 5 (fun j => .int .u32 ((mixF h z k).at j))) : w.cell? ⟨H, k, none⟩ = some (.int .u32 (h.at k)) := by
  rw [hr.cell hk]
  show some (Value.int .u32 ((mixF h z k).at k)) = _
  rw [mixF_at _ _ _ _ hk, if_neg (by omega)]
/-- The document's sum: the text and its tail, block by block. -/
def shaR (l : List UInt8) : List UInt8 := outF (hashN (l ++ tailL l.length) ((l ++ tailL l.length).length / 64))
end Go.Proofs.YtdlpbpikhmciaaaGreatDoor
namespace Go.Proofs.YtdlpbpikhmciaaaGreatDoor
open Go.RowKit
set_option linter.unusedSimpArgs false
set_option linter.unusedVariables false
theorem sizeU8 (w : World) : (Go.sizeOf 5).run Tryz.prog w = .ok 1 w := by kernel_rfl
theorem sliceR (x o : Nat) (ho : o < 64) (w : World) : (Instr.sliceAt 292 (.pointer (some ⟨x, 5, none⟩)) (some (.int .i64 (o : Int))) none none).run Tryz.prog w = .ok (.slice (some ⟨x, 5 + o, none⟩) (64 - o) (64 - o)) w := by
  have hal : Program.arrayLen Tryz.prog 292 = 64 := by kernel_rfl
  have hsz : (sizeOf (Program.elem Tryz.prog 292)).run Tryz.prog w = .ok 1 w := by kernel_rfl
  rw [run_sliceAt_array_l w 292 ⟨x, 5, none⟩ (by kernel_rfl) .i64 (o : Int) (by omega) (by rw [hal]; omega), hal, hsz]
  simp only [Result.andThen, slicedAt]
  rw [if_neg (by omega)]
  have e1 : (o : Int).toNat = o := by omega
  rw [e1, Nat.mul_one, show (⟨x, 5, none⟩ : Addr).add o = ⟨x, 5 + o, none⟩ from by unfold Addr.add; split <;> simp_all]
set_option maxRecDepth 1000000 in
set_option maxHeartbeats 4000000 in
theorem write_any (x : Nat) (s : ByteArray) (st : St) (w : World) (hm : st.m.length = 64) (hn : st.n + s.size ≤ 4611686018427387904) (hx : w.rowIs x 294 70 (stCell st)) :
    Calls Tryz.prog 194 #[.pointer (some ⟨x, 0, none⟩), .string s] w fun e w' => e = .returned (.tuple #[]) ∧ w'.rowIs x 294 70 (stCell (feed st s.data.toList)) ∧ w.grownBy w' (some x) := by
  go_enter Tryz.func194, Tryz.ntmps194
  go_wp2
  go_loopw [1] (fun v wr => ∃ (d : Nat) (t : ByteArray), v = .string t ∧ d ≤ s.size ∧ t.data.toList = s.data.toList.drop d ∧ wr.rowIs x 294 70 (stCell (feed st (s.data.toList.take d))) ∧ w.grownBy wr (some x))
    (fun v _ => match v with | .string t => t.size | _ => 0)
  case atStart => exact ⟨0, s, rfl, Nat.zero_le _, rfl, hx, World.grownBy.refl _ _⟩
  case round =>
    obtain ⟨d, t, rfl, hd, ht, hr, hg⟩ := hrel
    have hts : t.size = s.size - d := by rw [← size_list t, ht, List.length_drop, size_list]
    by_cases hlt : t.size = 0
    · have hte : t.toList.isEmpty = true := by
        rw [ByteArray.toList_eq]
        cases hl : t.data.toList with
        | nil => rfl
        | cons c r => have := size_list t; rw [hl, hlt] at this; simp at this
      have hd2 : d = s.size := by omega
      rw [hd2, List.take_of_length_le (by rw [size_list]; omega)] at hr
      have HR := Lib.hid hr
      clear hr ht hts hlt hd2 hm hn hx
      go_wp2
      go_returns
      exact ⟨rfl, HR.out, hg⟩
    · obtain ⟨⟨h, m, n⟩, hst⟩ : ∃ q, feed st (s.data.toList.take d) = q := ⟨_, rfl⟩
      rw [hst] at hr
      have hml : m.length = 64 := by have := feed_m st (s.data.toList.take d); rw [hst] at this; simpa [hm] using this
      have hnn : n = st.n + d := by have := feed_n st (s.data.toList.take d); rw [hst, List.length_take, size_list] at this; simp only at this; omega
      obtain ⟨o, ho⟩ : ∃ o, n % 64 = o := ⟨_, rfl⟩
      have ho64 : o < 64 := by omega
      have hrm : (n : Int).tmod 64 = (o : Int) := by rw [Int.tmod_eq_emod_of_nonneg (by omega)]; omega
      have csz := sum_size hr
      have hsl := sliceR x o ho64
      have hnp : t.toList.isEmpty = false := by
        rw [ByteArray.toList_eq]
        cases hl : t.data.toList with
        | nil => exact absurd (by rw [← size_list, hl]; rfl) hlt
        | cons => rfl
      obtain ⟨k, hk⟩ : ∃ k, Nat.min t.size (64 - o) = k := ⟨_, rfl⟩
      have hk1 : k ≤ t.size := by rw [← hk]; exact Nat.min_le_left _ _
      have hk2 : k ≤ 64 - o := by rw [← hk]; exact Nat.min_le_right _ _
      have hk0 : 0 < k := by rw [← hk]; exact Nat.lt_min.2 ⟨by omega, by omega⟩
      have hcp := run_copy_min (P := Tryz.prog) wr.drew 81 9 3 5 x (5 + o) (64 - o) (64 - o) t Tryz.underlying81 sizeU8 (fun j hj => by rw [hr.drew.cell (by rw [hk] at hj; omega)]; rfl) (fun j _ => hr.drew.frozen _)
      rw [hk] at hcp
      obtain ⟨ch, hch⟩ : ∃ ch, t.data.toList.take k = ch := ⟨_, rfl⟩
      have hcl : ch.length = k := by rw [← hch, List.length_take, size_list]; omega
      rw [hch] at hcp
      obtain ⟨W1, hW1⟩ : ∃ W1, wr.drew.setCells x (5 + o) (ch.map fun c => Value.int .u8 (c.toNat : Int)) = W1 := ⟨_, rfl⟩
      have hr1 : W1.rowIs x 294 70 (sumCell h (lay m o ch) n) := by rw [← hW1]; exact sum_lay hr.drew o ch hml (by omega)
      have hg1 : w.grownBy W1 (some x) := by rw [← hW1]; exact gbCells (gbDraws hg 1) _
      rw [hW1] at hcp
      have csz1 := sum_size hr1
      have cf1 := hr1.frozen 69
      obtain ⟨N, hN⟩ : ∃ N, n + k = N := ⟨_, rfl⟩
      obtain ⟨q, hq⟩ : ∃ q, N % 64 = q := ⟨_, rfl⟩
      have csz2 : (W1.setCell ⟨x, 69, none⟩ (.int .i64 (N : Int))).cell? ⟨x, 69, none⟩ = some (.int .i64 (N : Int)) := sum_size (sum_sized hr1 N)
      have hrm2 : (N : Int).tmod 64 = (q : Int) := by rw [Int.tmod_eq_emod_of_nonneg (by omega)]; omega
      have hadd : ((n : Int) + (k : Int)) = (N : Int) := by omega
      have hwr : IntKind.i64.wrap (N : Int) = (N : Int) := by rw [IntKind.wrap_i64]; omega
      have hfc := feed_chunk ⟨h, m, n⟩ ch hml (by intro e; rw [e] at hcl; simp at hcl; omega) (by show n % 64 + _ ≤ 64; omega)
      have hpre : s.data.toList.take (d + k) = s.data.toList.take d ++ ch := by rw [← hch, ht, List.take_add]
      have hfe : feed st (s.data.toList.take (d + k)) = feed ⟨h, m, n⟩ ch := by rw [hpre, feed_append, hst]
      have hst2 : ∃ t2 : ByteArray, t.extract k t.size = t2 ∧ t2.data.toList = s.data.toList.drop (d + k) ∧ t2.size < t.size := by
        have e : (t.extract k t.size).data.toList = s.data.toList.drop (d + k) := by
          rw [ByteArray.data_extract, Array.toList_extract, List.extract_eq_take_drop, ht, List.drop_drop]
          exact List.take_of_length_le (by rw [List.length_drop, size_list]; omega)
        refine ⟨_, rfl, e, ?_⟩
        rw [← size_list (t.extract k t.size), e, List.length_drop, size_list]
        omega
      obtain ⟨t2, ht2, ht3, ht4⟩ := hst2
      have HR := Lib.hid hr; have HQ := Lib.hid (And.intro hts (And.intro ht (And.intro hst (And.intro hml hnn)))); have HO := Lib.hid ho; have HLT := Lib.hid hlt; have HHN := Lib.hid hn; have HHM := Lib.hid hm
      have HR1 := Lib.hid hr1; have HF := Lib.hid (And.intro hfc hfe); have HT := Lib.hid ht3; have HK := Lib.hid (And.intro hk1 (And.intro hk2 hk0)); have HCL := Lib.hid (And.intro hcl (And.intro hch (And.intro hN hq)))
      have hkz : (k : Int) ≤ (t.size : Int) := by omega
      have hk00 : (0 : Int) ≤ (k : Int) := by omega
      have hdk : d + k ≤ s.size := by omega
      have ht4' := ht4
      have HD := Lib.hid (And.intro hdk ht4')
      have hsum := sum_sized hr1 N
      have hg2 := gbOwn hg1 (a := ⟨x, 69, none⟩) rfl (.int .i64 (N : Int))
      have HS := Lib.hid (And.intro hsum hg2)
      clear hr hts ht hst hml hnn ho hlt hn hm hx hr1 hfc hfe hpre ht3 hW1 hk hk1 hk2 hk0 hcl hch hN hdk ht4' hsum hg1 hg2 hg ht4 hd
      by_cases hq0 : q = 0
      · have hq0' : ((q : Int) == 0) = true := by simp [hq0]
        have HQ0 := Lib.hid hq0; clear hq0
        go_wp2_with fail
        go_still_tail 10, (by kernel_rfl)
        go_wp2_with (go_at_call 241; refine (turn_any x h (lay m o ch) N _ HS.out.1).mono ?_)
        rintro e w2 ⟨rfl, hr2, hg2⟩
        go_wp2
        go_roundw
        case rel =>
          obtain ⟨hfc, hfe⟩ := HF.out
          obtain ⟨hcl, hch, hN, hq⟩ := HCL.out
          refine ⟨d + k, t2, rfl, HD.out.1, HT.out, ?_, HS.out.2.trans hg2⟩
          rw [hfe, hfc, hcl]
          show w2.rowIs x 294 70 (sumCell _ _ _)
          rw [if_pos (by show (n + k) % 64 = 0; rw [hN, hq]; exact HQ0.out), HO.out]
          show w2.rowIs x 294 70 (sumCell _ _ (n + k))
          rw [hN]
          exact hr2
        case measure => exact HD.out.2
      · have hq0' : ((q : Int) == 0) = false := by simp [hq0]
        have HQ0 := Lib.hid hq0; clear hq0
        go_wp2_with fail
        go_still_tail 10, (by kernel_rfl)
        go_wp2
        go_roundw
        case rel =>
          obtain ⟨hfc, hfe⟩ := HF.out
          obtain ⟨hcl, hch, hN, hq⟩ := HCL.out
          refine ⟨d + k, t2, rfl, HD.out.1, HT.out, ?_, HS.out.2⟩
          rw [hfe, hfc, hcl]
          show World.rowIs _ x 294 70 (sumCell _ _ _)
          rw [if_neg (by show ¬ (n + k) % 64 = 0; rw [hN, hq]; exact HQ0.out), HO.out]
          show World.rowIs _ x 294 70 (sumCell _ _ (n + k))
          rw [hN]
          exact HS.out.1
        case measure => exact HD.out.2
end Go.Proofs.YtdlpbpikhmciaaaGreatDoor
namespace Go.Proofs.YtdlpbpikhmciaaaGreatDoor
open Go.RowKit
set_option linter.unusedSimpArgs false
set_option linter.unusedVariables false

def tbl64 : List UInt8 := [65, 66, 67, 68, 69, 70, 71, 72, 73, 74, 75, 76, 77, 78, 79, 80, 81, 82, 83, 84, 85, 86, 87, 88, 89, 90, 97, 98, 99, 100, 101, 102, 103, 104, 105, 106, 107, 108, 109, 110, 111, 112, 113, 114, 115, 116, 117, 118, 119, 120, 121, 122, 48, 49, 50, 51, 52, 53, 54, 55, 56, 57, 43, 47]
def sg (n : Nat) : UInt8 := tbl64.getD n 0
def grp (a b c : Nat) : Nat := a * 65536 + b * 256 + c
/-- The text of base 64. -/
def enc : List UInt8 → List UInt8
  | a :: b :: c :: r => sg (grp a.toNat b.toNat c.toNat / 262144) :: sg (grp a.toNat b.toNat c.toNat / 4096 % 64) :: sg (grp a.toNat b.toNat c.toNat / 64 % 64) :: sg (grp a.toNat b.toNat c.toNat % 64) :: enc r
  | [a, b] => [sg (grp a.toNat b.toNat 0 / 262144), sg (grp a.toNat b.toNat 0 / 4096 % 64), sg (grp a.toNat b.toNat 0 / 64 % 64), 61]
  | [a] => [sg (grp a.toNat 0 0 / 262144), sg (grp a.toNat 0 0 / 4096 % 64), 61, 61]
  | [] => []

def dig16 : List UInt8 := [48, 49, 50, 51, 52, 53, 54, 55, 56, 57, 97, 98, 99, 100, 101, 102]
def hx (n : Nat) : UInt8 := dig16.getD n 0
def hexL : List UInt8 → List UInt8
  | [] => []
  | c :: r => hx (c.toNat / 16) :: hx (c.toNat % 16) :: hexL r

theorem w64_byte (c : UInt8) : wrap64 (c.toNat : Int) = (c.toNat : Int) := by
  have h : c.toNat < 256 := c.toBitVec.isLt
  exact IntWalk.wrap64_in _ (by omega)
theorem w64_byte' (c : UInt8) (a : Nat) (h : c.toNat = a) : wrap64 (c.toNat : Int) = (a : Int) := by rw [w64_byte, h]
theorem byte_lt' (c : UInt8) (a : Nat) (h : c.toNat = a) : a < 256 := by rw [← h]; exact c.toBitVec.isLt
theorem e_o0 (a : Nat) (la : a < 256) : bits .or .i64 0 (a : Int) = (a : Int) := i64_or0 a (by omega)
theorem e_o1 (a b : Nat) (la : a < 256) (lb : b < 256) : bits .or .i64 ((a : Int) * 256) (b : Int) = (a : Int) * 256 + (b : Int) := by
  have h := i64_join 8 (a * 256) b (by simp) (by simpa using lb) (by omega) (by omega)
  rw [Int.natCast_mul, Int.natCast_add, Int.natCast_mul] at h
  exact h
theorem e_o2 (a b c : Nat) (la : a < 256) (lb : b < 256) (lc : c < 256) : bits .or .i64 (((a : Int) * 256 + (b : Int)) * 256) (c : Int) = ((grp a b c : Nat) : Int) := by
  have h := i64_join 8 ((a * 256 + b) * 256) c (by simp) (by simpa using lc) (by omega) (by omega)
  have e : (a * 256 + b) * 256 + c = grp a b c := by unfold grp; omega
  have e2 : (((a * 256 + b) * 256 : Nat) : Int) = ((a : Int) * 256 + (b : Int)) * 256 := by omega
  rw [e, e2] at h
  exact h
theorem grp_lt (a b c : Nat) (la : a < 256) (lb : b < 256) (lc : c < 256) : grp a b c < 16777216 := by unfold grp; omega
theorem e_s (n k : Nat) (h : n < 16777216) : bits .and .i64 ((n : Int) / (k : Int)) 63 = ((n / k % 64 : Nat) : Int) := by
  have h1 : n / k ≤ n := Nat.div_le_self _ _
  have h2 := i64_mask6 (n / k) (by omega)
  rw [Int.natCast_ediv] at h2
  exact h2
theorem e_s0 (n : Nat) (h : n < 16777216) : bits .and .i64 ((n : Int) / 262144) 63 = ((n / 262144 : Nat) : Int) := by
  have h1 := e_s n 262144 h
  rw [Nat.mod_eq_of_lt (by omega)] at h1
  exact h1
theorem e_s3 (n : Nat) (h : n < 16777216) : bits .and .i64 (n : Int) 63 = ((n % 64 : Nat) : Int) := i64_mask6 _ (by omega)
theorem enc_3 (t : ByteArray) (h : 3 ≤ t.size) : enc t.data.toList = [sg (grp (t[0]'(by omega)).toNat (t[1]'(by omega)).toNat (t[2]'(by omega)).toNat / 262144), sg (grp (t[0]'(by omega)).toNat (t[1]'(by omega)).toNat (t[2]'(by omega)).toNat / 4096 % 64), sg (grp (t[0]'(by omega)).toNat (t[1]'(by omega)).toNat (t[2]'(by omega)).toNat / 64 % 64), sg (grp (t[0]'(by omega)).toNat (t[1]'(by omega)).toNat (t[2]'(by omega)).toNat % 64)] ++ enc (t.data.toList.drop 3) := by
  have e := drop_get t 0 (by omega)
  rw [drop_get t 1 (by omega), drop_get t 2 (by omega), List.drop_zero] at e
  rw [e]; rfl
theorem enc_2 (t : ByteArray) (h : t.size = 2) : enc t.data.toList = [sg (grp (t[0]'(by omega)).toNat (t[1]'(by omega)).toNat 0 / 262144), sg (grp (t[0]'(by omega)).toNat (t[1]'(by omega)).toNat 0 / 4096 % 64), sg (grp (t[0]'(by omega)).toNat (t[1]'(by omega)).toNat 0 / 64 % 64), 61] := by
  have e := drop_get t 0 (by omega)
  rw [drop_get t 1 (by omega), List.drop_zero, List.drop_of_length_le (by rw [size_list]; omega)] at e
  rw [e]; rfl
theorem enc_1 (t : ByteArray) (h : t.size = 1) : enc t.data.toList = [sg (grp (t[0]'(by omega)).toNat 0 0 / 262144), sg (grp (t[0]'(by omega)).toNat 0 0 / 4096 % 64), 61, 61] := by
  have e := drop_get t 0 (by omega)
  rw [List.drop_zero, List.drop_of_length_le (by rw [size_list]; omega)] at e
  rw [e]; rfl
theorem list_nil_of (t : ByteArray) (h : t.size = 0) : t.data.toList = [] := List.eq_nil_of_length_eq_zero (by rw [size_list]; exact h)
theorem nonempty_of (t : ByteArray) (h : 0 < t.size) : (!t.toList.isEmpty) = true := by
  rw [ByteArray.toList_eq, List.isEmpty_eq_false_iff.2 (fun e => by have := size_list t; rw [e] at this; simp at this; omega)]; rfl
theorem empty_of (t : ByteArray) (h : t.size = 0) : (!t.toList.isEmpty) = false := by
  rw [ByteArray.toList_eq, list_nil_of t h]; rfl
theorem e_p2 (a b : Nat) : ((a : Int) * 256 + (b : Int)) * 256 = ((grp a b 0 : Nat) : Int) := by
  have e : (a * 256 + b) * 256 = grp a b 0 := by unfold grp; omega
  rw [← e]; omega
theorem e_p1 (a : Nat) : (a : Int) * 256 * 256 = ((grp a 0 0 : Nat) : Int) := by
  have e : a * 256 * 256 = grp a 0 0 := by unfold grp; omega
  rw [← e]; omega
theorem extB_size (t : ByteArray) (k : Nat) : (t.extract k t.size).size = t.size - k := by
  rw [← size_list, Lib.extract_to_end, List.length_drop, size_list]
theorem extB_list (t : ByteArray) (k : Nat) : (t.extract k t.size).data.toList = t.data.toList.drop k := Lib.extract_to_end t k
theorem list_drop_all (t : ByteArray) (k : Nat) (h : t.size ≤ k) : t.data.toList.drop k = [] := List.drop_of_length_le (by rw [size_list]; exact h)
theorem drop_get' (s : ByteArray) (k : Nat) (h : k < s.size) : s.data.toList.drop k = (s[k]'h) :: s.data.toList.drop (k + 1) := drop_get s k h
theorem enc_d3 (s : ByteArray) (k : Nat) (p0 : k < s.size) (p1 : k + 1 < s.size) (p2 : k + 2 < s.size) : enc (s.data.toList.drop k) = [sg (grp (s[k]'p0).toNat (s[k + 1]'p1).toNat (s[k + 2]'p2).toNat / 262144), sg (grp (s[k]'p0).toNat (s[k + 1]'p1).toNat (s[k + 2]'p2).toNat / 4096 % 64), sg (grp (s[k]'p0).toNat (s[k + 1]'p1).toNat (s[k + 2]'p2).toNat / 64 % 64), sg (grp (s[k]'p0).toNat (s[k + 1]'p1).toNat (s[k + 2]'p2).toNat % 64)] ++ enc (s.data.toList.drop (k + 3)) := by
  rw [drop_get s k p0, drop_get s (k + 1) p1, drop_get s (k + 2) p2]; rfl
theorem enc_d2 (s : ByteArray) (k : Nat) (p0 : k < s.size) (p1 : k + 1 < s.size) (p2 : k + 2 = s.size) : enc (s.data.toList.drop k) = [sg (grp (s[k]'p0).toNat (s[k + 1]'p1).toNat 0 / 262144), sg (grp (s[k]'p0).toNat (s[k + 1]'p1).toNat 0 / 4096 % 64), sg (grp (s[k]'p0).toNat (s[k + 1]'p1).toNat 0 / 64 % 64), 61] ++ enc (s.data.toList.drop (k + 3)) := by
  rw [drop_get s k p0, drop_get s (k + 1) p1, list_drop_all s (k + 1 + 1) (by omega), list_drop_all s (k + 3) (by omega)]; rfl
theorem enc_d1 (s : ByteArray) (k : Nat) (p0 : k < s.size) (p2 : k + 1 = s.size) : enc (s.data.toList.drop k) = [sg (grp (s[k]'p0).toNat 0 0 / 262144), sg (grp (s[k]'p0).toNat 0 0 / 4096 % 64), 61, 61] ++ enc (s.data.toList.drop (k + 3)) := by
  rw [drop_get s k p0, list_drop_all s (k + 1) (by omega), list_drop_all s (k + 3) (by omega)]; rfl
theorem e_g3 (a b c : Nat) : (a : Int) * 65536 + (b : Int) * 256 + (c : Int) = ((grp a b c : Nat) : Int) := by unfold grp; omega
theorem e_g2 (a b : Nat) : (a : Int) * 65536 + (b : Int) * 256 = ((grp a b 0 : Nat) : Int) := by unfold grp; omega
theorem e_g1 (a : Nat) : (a : Int) * 65536 = ((grp a 0 0 : Nat) : Int) := by unfold grp; omega
theorem sgb (q : Nat) (h : q < 64) : (⟨#[65, 66, 67, 68, 69, 70, 71, 72, 73, 74, 75, 76, 77, 78, 79, 80, 81, 82, 83, 84, 85, 86, 87, 88, 89, 90, 97, 98, 99, 100, 101, 102, 103, 104, 105, 106, 107, 108, 109, 110, 111, 112, 113, 114, 115, 116, 117, 118, 119, 120, 121, 122, 48, 49, 50, 51, 52, 53, 54, 55, 56, 57, 43, 47]⟩ : ByteArray)[q]'h = sg q := by
  have : ∀ q : Fin 64, (⟨#[65, 66, 67, 68, 69, 70, 71, 72, 73, 74, 75, 76, 77, 78, 79, 80, 81, 82, 83, 84, 85, 86, 87, 88, 89, 90, 97, 98, 99, 100, 101, 102, 103, 104, 105, 106, 107, 108, 109, 110, 111, 112, 113, 114, 115, 116, 117, 118, 119, 120, 121, 122, 48, 49, 50, 51, 52, 53, 54, 55, 56, 57, 43, 47]⟩ : ByteArray)[q.val]'q.isLt = sg q.val := by decide +kernel
  exact this ⟨q, h⟩
theorem hexL_len (l : List UInt8) : (hexL l).length = 2 * l.length := by
  induction l with
  | nil => rfl
  | cons c r ih => simp only [hexL, List.length_cons, ih]; omega
theorem hexL_append (a b : List UInt8) : hexL (a ++ b) = hexL a ++ hexL b := by
  induction a with
  | nil => rfl
  | cons c r ih => simp only [hexL, List.cons_append, ih]
theorem hx_and (c : UInt8) : bits .and .u8 (c.toNat : Int) 15 = ((c.toNat % 16 : Nat) : Int) := by
  have h := u8_and_nat c.toNat 15 c.toBitVec.isLt (by omega)
  rw [nat_mask4] at h
  exact h
theorem u8_div16' (c : UInt8) (q : Nat) (h : c.toNat / 16 = q) : IntKind.u8.wrap ((c.toNat : Int) / 16) = (q : Int) := by
  have h1 : c.toNat < 256 := c.toBitVec.isLt
  rw [IntWalk.u8_in _ (by omega), ← h]; omega
theorem u8_mod16'' (c : UInt8) (q : Nat) (h : c.toNat % 16 = q) : IntKind.u8.wrap ((c.toNat : Int) % 16) = (q : Int) := by
  rw [IntWalk.u8_in _ (by omega), ← h]; omega
theorem u8_div16 (c : UInt8) (q : Nat) (h : c.toNat / 16 = q) : IntKind.u8.wrap ((c.toNat : Int).tdiv 16) = (q : Int) := by
  have h1 : c.toNat < 256 := c.toBitVec.isLt
  rw [IntWalk.u8_quo _ _ (by omega), ← h]; omega
theorem u8_mod16 (c : UInt8) (q : Nat) (h : c.toNat % 16 = q) : IntKind.u8.wrap ((c.toNat : Int).tmod 16) = (q : Int) := by
  have h1 : c.toNat < 256 := c.toBitVec.isLt
  rw [Int.tmod_eq_emod_of_nonneg (by omega), IntWalk.u8_in _ (by omega), ← h]; omega
theorem u8_mod16' (c : UInt8) (q : Nat) (h : c.toNat % 16 = q) : (c.toNat : Int).tmod 16 = (q : Int) := by
  rw [Int.tmod_eq_emod_of_nonneg (by omega), ← h]; omega
theorem take_hex (s : ByteArray) (k : Nat) (h : k < s.size) (qa qb : Nat) (ha : Hid ((s[k]'h).toNat / 16 = qa)) (hb : Hid ((s[k]'h).toNat % 16 = qb)) : hexL (s.data.toList.take (k + 1)) = hexL (s.data.toList.take k) ++ [hx qa, hx qb] := by
  rw [take_get s k h, hexL_append, ← ha.out, ← hb.out]; rfl
theorem hxb (q : Nat) (h : q < 16) : (⟨#[48, 49, 50, 51, 52, 53, 54, 55, 56, 57, 97, 98, 99, 100, 101, 102]⟩ : ByteArray)[q]'h = hx q := by
  have : ∀ q : Fin 16, (⟨#[48, 49, 50, 51, 52, 53, 54, 55, 56, 57, 97, 98, 99, 100, 101, 102]⟩ : ByteArray)[q.val]'q.isLt = hx q.val := by decide +kernel
  exact this ⟨q, h⟩
end Go.Proofs.YtdlpbpikhmciaaaGreatDoor
