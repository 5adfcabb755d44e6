/- Kit, Row1, RngB: texts of the seat, one behind the other (a claim holds at most sixty). Conditions: each theorem names its own. -/
import Derived.WalkKit
import Derived.WalkSpells
import Derived.WalkLawsBesides
import Derived.Lib.Hide
import Derived.Lib.Builder
import Derived.Handy
import Derived.PlainAid
import Derived.Lib.Strings
import Derived.Lib.IndexBytes
import Derived.Deep.QuietTactic
import Derived.BigQuiet
import Derived.Lib.ConvBytes
import Derived.ArgAppend
import Derived.Lib.LazyBuf
import Derived.Lib.SmallJoins
import Derived.Deep.MidRow
import Derived.RangeFuncFrom
import Derived.RangeFuncBox
import Derived.RangeFuncCalls
namespace Go.Proofs.YtlfdeenekjklgaaGreatDoor
open Go.RowKit
set_option linter.unusedSimpArgs false
set_option linter.unusedVariables false

theorem ofInt_i64 (a : Nat) (ha : a < 9223372036854775808) : (BitVec.ofInt 64 (a : Int)).toNat = a := by
  rw [BitVec.ofInt_natCast, BitVec.toNat_ofNat]; exact Nat.mod_eq_of_lt (by omega)
theorem i64_and_nat (a b : Nat) (ha : a < 9223372036854775808) (hb : b < 9223372036854775808) : bits .and .i64 (a : Int) (b : Int) = ((a &&& b : Nat) : Int) := by
  have hx : a &&& b < 2 ^ 63 := Nat.and_lt_two_pow _ (by omega)
  show IntKind.i64.wrap ((BitVec.ofInt 64 (a : Int) &&& BitVec.ofInt 64 (b : Int)).toNat : Int) = _
  rw [BitVec.toNat_and, ofInt_i64 a ha, ofInt_i64 b hb, IntKind.wrap_i64]
  omega
theorem i64_or_nat (a b : Nat) (ha : a < 9223372036854775808) (hb : b < 9223372036854775808) : bits .or .i64 (a : Int) (b : Int) = ((a ||| b : Nat) : Int) := by
  have hx : a ||| b < 2 ^ 63 := Nat.or_lt_two_pow (by omega) (by omega)
  show IntKind.i64.wrap ((BitVec.ofInt 64 (a : Int) ||| BitVec.ofInt 64 (b : Int)).toNat : Int) = _
  rw [BitVec.toNat_or, ofInt_i64 a ha, ofInt_i64 b hb, IntKind.wrap_i64]
  omega
theorem i64_xor_nat (a b : Nat) (ha : a < 9223372036854775808) (hb : b < 9223372036854775808) : bits .xor .i64 (a : Int) (b : Int) = ((a ^^^ b : Nat) : Int) := by
  have hx : a ^^^ b < 2 ^ 63 := Nat.xor_lt_two_pow (by omega) (by omega)
  show IntKind.i64.wrap ((BitVec.ofInt 64 (a : Int) ^^^ BitVec.ofInt 64 (b : Int)).toNat : Int) = _
  rw [BitVec.toNat_xor, ofInt_i64 a ha, ofInt_i64 b hb, IntKind.wrap_i64]
  omega
/-- x | y, the bits apart: the sum. -/
theorem i64_join (i x y : Nat) (hx : x % 2 ^ i = 0) (hy : y < 2 ^ i) (hb : x < 4611686018427387904) (hy' : y < 4611686018427387904) : bits .or .i64 (x : Int) (y : Int) = ((x + y : Nat) : Int) := by
  rw [i64_or_nat x y (by omega) (by omega), nat_join i x y hx hy]
theorem i64_or0 (y : Nat) (h : y < 4611686018427387904) : bits .or .i64 0 (y : Int) = (y : Int) := by
  have := i64_or_nat 0 y (by omega) (by omega)
  simpa using this
theorem i64_mask6 (x : Nat) (h : x < 4611686018427387904) : bits .and .i64 (x : Int) 63 = ((x % 64 : Nat) : Int) := by
  have := i64_and_nat x 63 (by omega) (by omega)
  rw [nat_mask6] at this
  exact this

theorem byte_lt (s : ByteArray) (k : Nat) (h : k < s.size) : (s[k]'h).toNat < 256 := by have := (s[k]'h).toBitVec.isLt; exact this
theorem size_list (s : ByteArray) : s.data.toList.length = s.size := by rw [Array.length_toList]; rfl
theorem list_get (s : ByteArray) (k : Nat) (h : k < s.size) : s.data.toList[k]? = some (s[k]'h) := by
  rw [Array.getElem?_toList]
  exact Array.getElem?_eq_getElem h
theorem drop_get (s : ByteArray) (k : Nat) (h : k < s.size) : s.data.toList.drop k = (s[k]'h) :: s.data.toList.drop (k + 1) := by
  have hl : k < s.data.toList.length := by rw [size_list]; exact h
  rw [List.drop_eq_getElem_cons hl]; rfl
theorem take_get (s : ByteArray) (k : Nat) (h : k < s.size) : s.data.toList.take (k + 1) = s.data.toList.take k ++ [s[k]'h] := by
  rw [List.take_succ_eq_append_getElem (by rw [size_list]; exact h)]; rfl
theorem ret_int {k : IntKind} {a b : Int} (h : a = b) : Ending.returned (.int k a) = .returned (.int k b) := by rw [h]
theorem str_eq (s : ByteArray) : (⟨s.data.toList.toArray⟩ : ByteArray) = s := by cases s; simp
theorem ba_ext {a b : ByteArray} (h : a.data.toList = b.data.toList) : a = b := by
  cases a with | mk a => cases b with | mk b => simp at h; rw [h]
theorem toUInt8_nat (c : UInt8) : c.toNat.toUInt8 = c := by simp
theorem byteCells_one (c : UInt8) : Lib.byteCells [c] = [Value.int .u8 c.toNat] := rfl
theorem byteCells_snoc (l : List UInt8) (c : UInt8) : Lib.byteCells (l ++ [c]) = Lib.byteCells l ++ [Value.int .u8 c.toNat] := by rw [Lib.byteCells_append]; rfl

/-- 'string(out)', out a slice whose cells are known. -/
theorem run_str_cells {P : Program} (w : World) (src e : TypeId) (hs : P.underlying src = some (.slice e)) (he : P.underlying e = some (.int .u8)) (g off cap n : Nat) (l : List UInt8) (hn : l.length = n)
    (hc : ∀ j (h : j < l.length), w.cell? ⟨g, off + j, none⟩ = some (.int .u8 (l[j]'h).toNat)) : ∀ dst, P.underlying dst = some .string → (convert src dst (.slice (some ⟨g, off, none⟩) n cap)).run P w = .ok (.string ⟨l.toArray⟩) w := by
  intro dst hd
  have h1 := run_convert_bytes_arg w src e hs he g off n cap (l.map fun c => (c.toNat : Int)) (by simpa using hn) (fun i hi => by
    have hi' : i < l.length := by omega
    rw [hc i hi']
    simp [List.getD, hi']) dst hd
  rw [h1]
  congr 2
  unfold strOfNums
  congr 2
  rw [List.map_map]
  calc l.map ((fun n : Int => UInt8.ofNat n.toNat) ∘ fun c : UInt8 => (c.toNat : Int)) = l.map id := by
        apply List.map_congr_left
        intro c _
        simp
    _ = l := by simp
/-- 'string(out)', out a row of bytes of the call's own. -/
theorem run_str_own {P : Program} (w : World) {B n : Nat} {v : Value} {l : List UInt8} (src e : TypeId) (hs : P.underlying src = some (.slice e)) (he : P.underlying e = some (.int .u8))
    (h : w.ownsRow B e 1 v n (Lib.byteCells l)) : ∀ dst, P.underlying dst = some .string → (convert src dst v).run P w = .ok (.string ⟨l.toArray⟩) w := by
  intro dst hd
  have hlen : l.length = n := by have := h.1; rw [Lib.byteCells_length] at this; omega
  rcases h.2 with ⟨rfl, h0⟩ | ⟨g, cap, cur, rfl, _⟩
  · have hl : l = [] := List.eq_nil_of_length_eq_zero (by omega)
    subst hl
    exact run_convert_bytes_nil w src e hs he 0 0 dst hd
  · have hc := h.cells (g := g) rfl
    have h1 := run_convert_bytes_arg w src e hs he g 0 n cap (l.map fun c => (c.toNat : Int)) (by simpa using hlen) (fun i hi => by
      have hi' : i < l.length := by omega
      have h2 := hc i (.int .u8 (l[i]).toNat) (by simp [Lib.byteCells, hi'])
      rw [show (⟨g, 0, none⟩ : Addr).add i = ⟨g, 0 + i, none⟩ from by unfold Addr.add; split <;> simp_all] at h2
      rw [h2]
      simp [List.getD, hi']) dst hd
    rw [h1]
    congr 2
    unfold strOfNums
    congr 2
    rw [List.map_map]
    calc l.map ((fun n : Int => UInt8.ofNat n.toNat) ∘ fun c : UInt8 => (c.toNat : Int)) = l.map id := by
          apply List.map_congr_left
          intro c _
          simp
      _ = l := by simp
theorem cells_new (w : World) (e : TypeId) (l : List Value) : ∀ j u, l[j]? = some u → (w.alloc (.cells l.toArray e)).cell? ((⟨w.heap.size, 0, none⟩ : Addr).add j) = some u := by
  intro j u hu
  have ha : (⟨w.heap.size, 0, none⟩ : Addr).add j = ⟨w.heap.size, j, none⟩ := by unfold Addr.add; split <;> simp_all
  rw [ha, Lib.cell_of_heap (heap_alloc_new w _)]
  simpa using hu
theorem byteCells_oneCell (l : List UInt8) : ∀ u ∈ Lib.byteCells l, u.oneCell' = true := by
  intro u hu
  simp only [Lib.byteCells, List.mem_map] at hu
  obtain ⟨b, _, rfl⟩ := hu
  rfl
theorem quiet_left {P : Program} {f : FuncId} {args : Array Value} {w : World} {n : Nat} {v : Value}
    (h : Calls P f args (w.drewN n) fun e w' => e = .returned v ∧ w.drewN n = w') : Calls P f args (w.drewN n) fun e w'' => e = .returned v ∧ ∃ m, w'' = w.drewN m :=
  h.mono fun _ _ ⟨he, hm⟩ => ⟨he, n, hm.symm⟩
theorem below_drewN {B : Nat} {a w : World} (h : Below B a w) (n : Nat) : Below B a (w.drewN n) := ⟨h.os, h.tape, h.output, h.size, h.block⟩
end Go.Proofs.YtlfdeenekjklgaaGreatDoor
namespace Go.Proofs.YtlfdeenekjklgaaGreatDoor
open Go.RowKit
set_option linter.unusedSimpArgs false
set_option linter.unusedVariables false
structure RowB (w : World) (base g cap : Nat) (l : List UInt8) : Prop where
  hbase : base ≤ g
  hlt : g < w.heap.size
  hcap : l.length ≤ cap
  hcell : ∀ j c, l[j]? = some c → w.cell? ⟨g, j, none⟩ = some (.int .u8 (c.toNat : Int))
  hspare : ∀ j, l.length ≤ j → j < cap → (w.cell? ⟨g, j, none⟩).isSome = true ∧ w.frozen? ⟨g, j, none⟩ = false
theorem RowB.of_block {w w' : World} {base g cap : Nat} {l : List UInt8} (h : RowB w base g cap l) (e : w'.heap[g]? = w.heap[g]?) (hs : g < w'.heap.size) : RowB w' base g cap l :=
  ⟨h.hbase, hs, h.hcap, fun j c hj => by rw [World.cell?_of_block (w := w) e]; exact h.hcell j c hj, fun j h1 h2 => by rw [World.cell?_of_block (w := w) e, World.frozen?_of_block (w := w) e]; exact h.hspare j h1 h2⟩
theorem RowB.alloc {w : World} {base g cap : Nat} {l : List UInt8} (h : RowB w base g cap l) (o : Obj) : RowB (w.alloc o) base g cap l :=
  h.of_block (Below.heap_alloc w o g h.hlt) (by have := h.hlt; simp; omega)
theorem RowB.drew {w : World} {base g cap : Nat} {l : List UInt8} (h : RowB w base g cap l) : RowB w.drew base g cap l := ⟨h.hbase, h.hlt, h.hcap, h.hcell, h.hspare⟩
theorem RowB.setCell {w : World} {base g cap : Nat} {l : List UInt8} (h : RowB w base g cap l) {a : Addr} (ha : g ≠ a.block) (v : Value) : RowB (w.setCell a v) base g cap l :=
  h.of_block (Below.heap_setCell w a v g ha) (by have := h.hlt; simpa [World.setCell] using this)
theorem RowB.below {w w' : World} {B base g cap : Nat} {l : List UInt8} (h : RowB w base g cap l) (hb : Below B w w') (hg : g < B) : RowB w' base g cap l :=
  h.of_block (hb.block g hg) (by have := hb.size; have := h.hlt; omega)
/-- []byte(s). -/
theorem rowB_of_string (w : World) (e : TypeId) (s : ByteArray) : RowB (Lib.bytesWorld w e s) w.heap.size w.heap.size (grownCap w s.size 0 e) s.data.toList ∧ Below w.heap.size w (Lib.bytesWorld w e s) := by
  have hn := Lib.bytesWorld_at_new w e s
  have hsz : (Lib.bytesCells w e s).size = grownCap w s.size 0 e := by
    have hge := grownCap_ge w s.size 0 e
    unfold Lib.bytesCells
    rw [Array.size_append, Array.size_map, Array.size_replicate]
    show s.size + _ = _
    omega
  refine ⟨⟨Nat.le_refl _, by rw [Lib.bytesWorld_size]; omega, by rw [size_list]; exact grownCap_ge _ _ _ _, fun j c hj => ?_, fun j h1 h2 => ?_⟩, ?_⟩
  · have hlt : j < s.size := by rw [← size_list]; exact (List.getElem?_eq_some_iff.1 hj).1
    rw [Lib.bytesWorld_cell w e s j hlt]
    simp [List.getD, hj]
  · constructor
    · simp only [World.cell?, hn]
      have : j < (Lib.bytesCells w e s).size := by omega
      simp [this]
    · simp only [World.frozen?, hn]
      have : j < (Lib.bytesCells w e s).size := by omega
      simp; omega
  · exact Go.Joins.below_bytesWorld _ w e s (Nat.le_refl _)
theorem rowB_of_own {w : World} {base : Nat} {e : TypeId} {v : Value} {n : Nat} {l : List UInt8} (h : w.ownsRow base e 1 v n (Lib.byteCells l)) (hn : 0 < n) :
    ∃ g cap, v = .slice (some ⟨g, 0, none⟩) n cap ∧ RowB w base g cap l ∧ l.length = n := by
  have hl : l.length = n := by have := h.1; rw [Lib.byteCells_length] at this; omega
  rcases h.2 with ⟨_, h0⟩ | ⟨g, cap, cur, rfl, hb, hg, hnc, hcm, hcs, hct⟩
  · omega
  · have hlt : g < w.heap.size := (Array.getElem?_eq_some_iff.1 hg).1
    have hc := h.cells (g := g) rfl
    refine ⟨g, cap, rfl, ⟨hb, hlt, by omega, fun j c hj => ?_, fun j h1 h2 => ?_⟩, hl⟩
    · have := hc j (.int .u8 (c.toNat : Int)) (by simp [Lib.byteCells, hj])
      rwa [show (⟨g, 0, none⟩ : Addr).add j = ⟨g, j, none⟩ from by unfold Addr.add; split <;> simp_all] at this
    · constructor
      · simp only [World.cell?, hg]
        have : j < cur.size := by omega
        simp [this]
      · simp only [World.frozen?, hg]
        simp
/-- append onto it. -/
theorem wpList_append_rowB {P : Program} (w : World) {ops : Array Oper} {rest : List Oper} {o : Oper} {a : Act} {Q : Exit → Act → World → Prop}
    (hgd : o.guard = none) (s x : Operand) (t e : TypeId) (hop : o.op = Op.call { callee := Callee.builtin Builtin.append, args := #[s, x], argTypes := #[t, t] })
    (i : TypeInfo) (ht : P.underlying t = some (.slice e)) (hi : P.info? e = some i) (hz : i.zero = some (.int .u8 0)) (hsz : i.size = 1) (hby : i.bytes = 1)
    (base g cap n : Nat) (l : List UInt8) (hn : l.length = n) (hs : a.eval s = .slice (some ⟨g, 0, none⟩) n cap) (h : RowB w base g cap l)
    (ad : Addr) (m c : Nat) (news : List UInt8) (hx : a.eval x = .slice (some ad) m c) (hm : news.length = m) (hnews : ∀ j u, (Lib.byteCells news)[j]? = some u → w.cell? (ad.add j) = some u)
    (hsmall : n + m ≤ 140737488355328) (hm0 : 0 < m)
    (hK : ∀ g' cap' w', RowB w' base g' cap' (l ++ news) → Below base w w' → wpList P ops Q rest (a.put o.dst (.slice (some ⟨g', 0, none⟩) (n + m) cap')) w') :
    wpList P ops Q (o :: rest) a w := by
  have hbs : base ≤ w.heap.size := by have := h.hlt; have := h.hbase; omega
  subst hn
  have hlen : (l ++ news).length = l.length + m := by rw [List.length_append, hm]
  refine wpList_append_arg w hgd s x t hop e i (.int .u8 0) 1 1 ht hi hz hsz hby rfl (by decide) g 0 l.length cap (Lib.byteCells l) hs (by rw [Lib.byteCells_length]; omega)
    (fun j u hj => ?_) ad m c (Lib.byteCells news) hx (by rw [Lib.byteCells_length]; omega) hnews (byteCells_oneCell _) (fun hc j hj => ?_) (by unfold maxLen; omega) (by omega) (fun hc => ?_) (fun hc v' w' hown hg => ?_)
  · rw [Nat.zero_add]
    simp only [Lib.byteCells, List.getElem?_map, Option.map_eq_some_iff] at hj
    obtain ⟨b, hb, rfl⟩ := hj
    exact h.hcell j b hb
  · rw [Lib.byteCells_length] at hj
    have := h.hspare (l.length + j) (by omega) (by omega)
    rw [Nat.zero_add, Nat.mul_one]
    exact this
  · have hbel : Below base w (w.setCells g (0 + l.length * 1) (Lib.byteCells news)) := below_setCells (show base ≤ g from h.hbase) _ _ _ (Below.refl _ _)
    refine hK g cap _ ?_ hbel
    rw [Nat.zero_add, Nat.mul_one]
    rw [Nat.zero_add, Nat.mul_one] at hbel
    have hbl : (Lib.byteCells news).length = m := by rw [Lib.byteCells_length]; exact hm
    refine ⟨h.hbase, by have := hbel.size; have := h.hlt; omega, by omega, fun j c hj => ?_, fun j h1 h2 => ?_⟩
    · by_cases hjl : j < l.length
      · rw [List.getElem?_append_left hjl] at hj
        rw [World.cell?_setCells_out g _ _ _ _ (fun _ _ => Or.inl hjl)]
        exact h.hcell j c hj
      · rw [List.getElem?_append_right (by omega)] at hj
        have hjm : j - l.length < news.length := (List.getElem?_eq_some_iff.1 hj).1
        have hin := World.cell?_setCells_in g (Lib.byteCells news) l.length w (fun j hj => (h.hspare (l.length + j) (by omega) (by omega)).1) (j - l.length) (by omega)
        rw [show l.length + (j - l.length) = j from by omega] at hin
        rw [hin]
        obtain ⟨_, hcc⟩ := List.getElem?_eq_some_iff.1 hj
        simp [Lib.byteCells, hcc]
    · rw [World.frozen?_setCells]
      exact ⟨World.isSome_setCells _ _ _ _ _ (h.hspare j (by omega) h2).1, (h.hspare j (by omega) h2).2⟩
  · obtain ⟨g', cap', rfl, hr, hl⟩ := rowB_of_own (l := l ++ news) (by rw [Lib.byteCells_append]; exact hown) (by omega)
    have := hK g' cap' w' ⟨Nat.le_trans hbs hr.hbase, hr.hlt, hr.hcap, hr.hcell, hr.hspare⟩ ((Below.refl _ w).grown hg hbs (fun k hk => by cases hk))
    exact this
theorem rowB_read {w : World} {base g cap : Nat} {l : List UInt8} (h : RowB w base g cap l) (j : Nat) (hj : j < l.length) : ∃ b : Int, w.cell? ⟨g, j, none⟩ = some (.int .u8 b) ∧ b % 4294967296 = b ∧ b = ((l.getD j 0).toNat : Int) := by
  have hg : l[j]? = some l[j] := List.getElem?_eq_getElem hj
  refine ⟨(l[j].toNat : Int), h.hcell j _ hg, ?_, by simp [List.getD, hg]⟩
  have : l[j].toNat < 256 := l[j].toBitVec.isLt
  omega
theorem sz8 (n : Nat) (h : n ≤ 1099511627776) : ((n : Int) * 8) % 18446744073709551616 = (n : Int) * 8 := by omega
theorem wrap_mid (p : Nat) (h : p ≤ 2199023255552) : IntKind.i64.wrap (p : Int) = (p : Int) := by rw [IntKind.wrap_i64]; omega
theorem le47 (n : Nat) (h : n ≤ 2199023255552) : n ≤ 140737488355328 := by omega
theorem le40 (n s : Nat) (hs : s ≤ 1099511627776) (h : n ≤ s + 1000) : n ≤ 2199023255552 := by omega
theorem cell_keep {w : World} {a : Addr} {v : Value} (h : w.cell? a = some v) (hlt : a.block < w.heap.size) (o : Obj) : ((w.alloc o).drew).cell? a = some v := by
  have := ((Below.refl w.heap.size w).alloc (Nat.le_refl _) o).cell (p := a) hlt
  rw [← h, ← this]
  rfl
end Go.Proofs.YtlfdeenekjklgaaGreatDoor
namespace Go.Proofs.YtlfdeenekjklgaaGreatDoor
open Go.RowKit
set_option linter.unusedSimpArgs false
set_option linter.unusedVariables false
/-- What is said stays said where new blocks are laid or that one block is turned. -/
def AbBox (bx : Nat) {β : Type} (J : β → World → Prop) : Prop := ∀ s A C row, J s A → A.grownBy C row → (∀ r, row = some r → r = bx) → J s C
/-- An iterator that turns that block alone: its elements come one by one till it is told to stop. -/
def BoxSeq {α : Type} (F : Fence) (n : Nat) (P : Program) (gf : Nat) (lb : Array Value) (encs : α → Array Value) (n0 bx : Nat) (ks : List Nat) (S Sp : List α → Prop) (w : World) : Prop :=
  ∀ (l : Nat) (J Jx : List α → World → Prop) (W : World), Below w.heap.size w W → AbBox bx J → AbBox bx Jx →
    (∀ pre x W1, Sp (pre ++ [x]) → J pre W1 → YieldAt F (n - 1) P l (encs x) W1 fun e W' =>
      (e = .returned (.bool true) ∧ J (pre ++ [x]) W' ∧ Below n0 W1 W' ∧ ∀ k ∈ ks, W'.heap[k]? = W1.heap[k]?) ∨ (e = .returned (.bool false) ∧ Jx (pre ++ [x]) W')) →
    J [] W →
    CallsIn F n P gf (#[.func (.yield l) #[] #[]] ++ lb) W fun e W' => (∃ v, e = .returned v) ∧ ((∃ xs, S xs ∧ J xs W') ∨ (∃ pre, Sp pre ∧ Jx pre W'))
/-- How a round may end. -/
def boxPost {α : Type} (n0 : Nat) (ks : List Nat) (I Ix : List α → World → Prop) (xs : List α) (W : World) : Exit → Act → World → Prop
  | .normal, _, W' => KeepsOthers W W' ∧ (Below n0 W W' ∧ ∀ k ∈ ks, W'.heap[k]? = W.heap[k]?) ∧ I xs W'
  | .ret, _, W' => KeepsOthers W W' ∧ Ix xs W'
  | _, _, _ => False
/-- What the caller says stays said where a block beyond a bound, that holds no cells, is turned, too. -/
def OwnBox (B bx : Nat) {β : Type} (I : β → World → Prop) : Prop := ∀ s A C row, I s A → A.grownBy C row → (∀ r, row = some r → r = bx ∨ (B ≤ r ∧ ∃ o : Obj, A.heap[r]? = some o ∧ o.isCells = false)) → I s C
theorem OwnBox.put {B bx : Nat} {β : Type} {I : β → World → Prop} (h : OwnBox B bx I) {s : β} {A : World} {l : Nat} {o : Obj} (o' : Obj) (hs : I s A) (hl : A.heap[l]? = some o) (hB : B ≤ l) (ho : o.isCells = false) : I s (A.putObj l o') :=
  h s A _ (some l) hs (grownBy_putObj' A l o') (fun r e => by injection e with e; subst e; exact .inr ⟨hB, o, hl, ho⟩)
theorem OwnBox.more {B bx : Nat} {β : Type} {I : β → World → Prop} (h : OwnBox B bx I) {s : β} {A : World} (o : Obj) (hs : I s A) : I s (A.alloc o) :=
  h s A _ none hs (World.grownBy_alloc A o none) (fun r e => by cases e)
section
variable {F : Fence} {n : Nat} {P : Program}
set_option maxHeartbeats 1000000 in
theorem range_box {α : Type} {g : Operand} {ps : Array Tmp} {assign body : Code} {Q : Exit → Act → World → Prop} {a : Act} {w : World} (bx n0 : Nat) (ks : List Nat)
    (hro : F.round = none) (h1 : 1 ≤ n) {gf : Nat} {lb : Array Value} (hg : a.eval g = .func (.func gf) #[] lb) (hFg : F.fn gf) (eg : ∀ args w, (callFunc gf args).run P w = .ok (.enter gf args) w)
    (hbx : bx < w.heap.size) (hks : ∀ k ∈ ks, k < w.heap.size) (hn0 : n0 ≤ w.heap.size) {encs : α → Array Value} {S Sp : List α → Prop} (hseq : BoxSeq F (n - 1) P gf lb encs n0 bx ks S Sp w) (hps : ∀ x, (encs x).size = ps.size)
    (I Ix : List α → World → Prop) (hI : OwnBox w.heap.size bx I) (hIx : OwnBox w.heap.size bx Ix) (h0 : I [] w) (a₁ : α → Act)
    (hassign : ∀ (l : Nat) (x : α) (W : World) (K : Act → World → Prop), K (a₁ x) W →
      assign.wpIn (F.inRound l) (n - 1 - 1) P (Exit.then K (fun _ _ _ => False)) { tmps := (ps.zip (encs x)).foldl (fun t (p, v) => t.setIfInBounds p v) a.tmps, defers := [] } W)
    (hbody : ∀ (l : Nat) (pre : List α) (x : α) (W : World), Sp (pre ++ [x]) → I pre W → body.wpIn (F.inRound l) (n - 1 - 1) P (boxPost n0 ks I Ix (pre ++ [x]) W) (a₁ x) W)
    (hdone : ∀ (D : Nat) (xs : List α) (W : World), w.heap.size ≤ D → S xs → I xs W → W.heap[D]? = some (.deferred (some [])) → Q .normal { a with defers := { target := .collected D, args := #[] } :: a.defers } W)
    (hstop : ∀ (D : Nat) (pre : List α) (W : World), w.heap.size ≤ D → Sp pre → Ix pre W → W.heap[D]? = some (.deferred (some [])) → Code.ret.wpIn F n P Q { a with defers := { target := .collected D, args := #[] } :: a.defers } W) :
    (Code.rangeFunc g ps assign body).wpIn F n P Q a w := by
  refine wpIn_rangeFunc fun fn hfn => ?_
  rw [hro]
  obtain ⟨D, hD⟩ : ∃ D, w.heap.size = D := ⟨_, rfl⟩
  -- the record in its states
  obtain ⟨rc, hrc⟩ : ∃ rc : LoopState → Option Code → Obj, rc = fun st pe => .loop { state := st, pending := pe, fn, tmps := a.tmps, params := ps, assign, body, defers := D } := ⟨_, rfl⟩
  have hrcN : ∀ st pe, (rc st pe).isCells = false := fun st pe => by rw [hrc]; rfl
  obtain ⟨W1, hW1⟩ : ∃ W1, (w.alloc (.deferred (some []))).alloc (rc .ready none) = W1 := ⟨_, rfl⟩
  have hsz1 : W1.heap.size = D + 1 + 1 := by rw [← hW1, World.size_alloc, World.size_alloc, hD]
  have hL1 : W1.heap[D + 1]? = some (rc .ready none) := by
    have := World.alloc_heap_new (w.alloc (.deferred (some []))) (rc .ready none)
    rw [World.size_alloc, hD] at this
    rw [← hW1]; exact this
  have hK1 : W1.heap[D]? = some (.deferred (some [])) := by
    have h2 := World.alloc_heap_new w (.deferred (some []))
    rw [hD] at h2
    rw [← hW1]
    exact (Below.heap_alloc _ _ _ (by rw [World.size_alloc, hD]; omega)).trans h2
  have hI1 : I [] W1 := by rw [← hW1]; exact hI.more _ (hI.more _ h0)
  have hb1 : Below w.heap.size w W1 := by rw [← hW1]; exact ((Below.refl _ w).alloc (Nat.le_refl _) _).alloc (by rw [World.size_alloc]; omega) _
  have kept : ∀ {A C : World} {row : Option Nat} {k : Nat} {o : Obj}, A.grownBy C row → (∀ r, row = some r → r = bx) → A.heap[k]? = some o → k ≠ bx → C.heap[k]? = some o := fun hg hr hk hne =>
    (hg.block _ (Array.getElem?_eq_some_iff.1 hk).1 (fun e => hne (hr _ e.symm))).trans hk
  refine ⟨D + 1, [{ target := .collected D, args := #[] }], W1, { target := .fn (.func gf) lb, args := #[.func (.yield (D + 1)) #[] #[]] }, W1, gf, #[.func (.yield (D + 1)) #[] #[]] ++ lb, W1, ?_, ?_, ?_, ?_, fun _ => h1, ?_⟩
  · have := run_enterLoop_outer (w := w) (P := P) fn a.tmps ps assign body
    rw [hD] at this
    rw [this, ← hW1, hrc]
  · simp only [resolve, hg]
    simp [go_sem]
  · intro f' hf'
    simp [Target.leads] at hf'
    subst hf'
    exact hFg
  · simp [invoke, go_sem, eg]
  refine (hseq (D + 1) (fun pre W => I pre W ∧ W.heap[D + 1]? = some (rc .ready none) ∧ W.heap[D]? = some (.deferred (some [])))
    (fun pre W => Ix pre W ∧ W.heap[D + 1]? = some (rc .done (some .ret)) ∧ W.heap[D]? = some (.deferred (some [])))
    W1 hb1
    (fun s A C row hs hg hr => ⟨hI s A C row hs.1 hg (fun r e => .inl (hr r e)), kept hg hr hs.2.1 (by omega), kept hg hr hs.2.2 (by omega)⟩)
    (fun s A C row hs hg hr => ⟨hIx s A C row hs.1 hg (fun r e => .inl (hr r e)), kept hg hr hs.2.1 (by omega), kept hg hr hs.2.2 (by omega)⟩)
    ?_ ⟨hI1, hL1, hK1⟩).mono ?_
  · rintro pre x W hsp ⟨hi, hl, hk⟩
    have hlt : D + 1 < W.heap.size := (Array.getElem?_eq_some_iff.1 hl).1
    have hl' := hl
    rw [hrc] at hl'
    have hy := run_yield (P := P) (args := encs x) hl' (hps x)
    refine ⟨fn, _, assign, body, hy, roundIn_of_wpIn hfn (hassign _ x W _ ⟨_, run_beginRound hl' rfl, ?_⟩)⟩
    have hbz : (.loop { state := .busy, pending := none, fn, tmps := a.tmps, params := ps, assign, body, defers := D } : Obj) = rc .busy none := by rw [hrc]
    show body.wpIn _ _ P _ (a₁ x) (W.putObj (D + 1) (.loop { state := .busy, pending := none, fn, tmps := a.tmps, params := ps, assign, body, defers := D }))
    rw [hbz]
    obtain ⟨V, hV⟩ : ∃ V, W.putObj (D + 1) (rc .busy none) = V := ⟨_, rfl⟩
    have hl2 : V.heap[D + 1]? = some (rc .busy none) := by rw [← hV]; exact World.putObj_heap_same hlt
    have hk2 : V.heap[D]? = some (.deferred (some [])) := by rw [← hV]; exact (World.putObj_heap_other (by omega)).trans hk
    have hx2 : ∀ k ∈ ks, V.heap[k]? = W.heap[k]? := fun k hk => by rw [← hV]; exact World.putObj_heap_other (by have := hks k hk; omega)
    have hb2 : Below n0 W V := by rw [← hV]; exact (Below.refl n0 W).grown (grownBy_putObj' W (D + 1) _) (by omega) (fun k e => by injection e; omega)
    have hi2 : I pre V := by rw [← hV]; exact hI.put _ hi hl (by omega) (hrcN _ _)
    rw [hV]
    have fin : ∀ (jump : Option Code) (st : LoopState) (W3 : World), st = (if jump.isNone then .ready else .done) → KeepsOthers V W3 →
        (Instr.endRound (D + 1) jump).run P W3 = .ok (.bool jump.isNone) (W3.putObj (D + 1) (rc st jump)) ∧ W3.heap[D + 1]? = some (rc .busy none) ∧
        (W3.putObj (D + 1) (rc st jump)).heap[D + 1]? = some (rc st jump) ∧ (W3.putObj (D + 1) (rc st jump)).heap[D]? = some (.deferred (some [])) ∧ (∀ k ∈ ks, (W3.putObj (D + 1) (rc st jump)).heap[k]? = W3.heap[k]?) := fun jump st W3 hst hk3 => by
      have h3 := hk3.same _ _ hl2 (hrcN _ _)
      have h3' := h3
      rw [hrc] at h3'
      have hr := run_endRound (P := P) jump h3'
      refine ⟨?_, h3, World.putObj_heap_same (Array.getElem?_eq_some_iff.1 h3).1, (World.putObj_heap_other (by omega)).trans (hk3.same _ _ hk2 rfl), fun k hk => World.putObj_heap_other (by have := hks k hk; omega)⟩
      rw [hr, hst, hrc]
    refine wpIn_mono (hbody _ pre x V hsp hi2) ?_
    rintro e a3 W3 hp
    cases e with
    | normal =>
      obtain ⟨hk3, ⟨hbl3, hbx3⟩, hi3⟩ := hp
      obtain ⟨hr, hl3, hl4, hk4, hx4⟩ := fin none .ready W3 rfl hk3
      refine ⟨_, _, hr, .inl ⟨rfl, ⟨hI.put _ hi3 hl3 (by omega) (hrcN _ _), hl4, hk4⟩, ?_, ?_⟩⟩
      · exact (hb2.trans hbl3).grown (grownBy_putObj' W3 (D + 1) _) (by have := hbl3.size; have := (Array.getElem?_eq_some_iff.1 hl3).1; omega) (fun k e => by injection e; omega)
      · exact fun k hk => by rw [hx4 k hk, hbx3 k hk, hx2 k hk]
    | ret =>
      obtain ⟨hk3, hi3⟩ := hp
      obtain ⟨hr, hl3, hl4, hk4, hx4⟩ := fin (some .ret) .done W3 rfl hk3
      exact ⟨_, _, hr, .inr ⟨rfl, hIx.put _ hi3 hl3 (by omega) (hrcN _ _), hl4, hk4⟩⟩
    | exit id => exact hp.elim
    | goto t => exact hp.elim
    | panic ch => exact hp.elim
    | outgrown => exact hp.elim
  · rintro e W2 ⟨⟨v, rfl⟩, (⟨xs, hS, hi, hl, hk⟩ | ⟨pre, hSp, hi, hl, hk⟩)⟩
    · have hl' := hl
      rw [hrc] at hl'
      exact ⟨none, _, run_endLoop (P := P) hl' (by simp), hdone _ xs _ (by omega) hS (hI.put _ hi hl (by omega) (hrcN _ _)) ((World.putObj_heap_other (by omega)).trans hk)⟩
    · have hl' := hl
      rw [hrc] at hl'
      exact ⟨some .ret, _, run_endLoop (P := P) hl' (by simp), hstop _ pre _ (by omega) hSp (hIx.put _ hi hl (by omega) (hrcN _ _)) ((World.putObj_heap_other (by omega)).trans hk)⟩
end
end Go.Proofs.YtlfdeenekjklgaaGreatDoor
