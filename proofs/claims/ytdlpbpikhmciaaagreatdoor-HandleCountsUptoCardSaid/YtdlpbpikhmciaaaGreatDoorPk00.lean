/- Kit, Row1, ParM: texts of the seat, one behind the other (a claim holds at most sixty). Conditions: each theorem names its own. -/
import Derived.WalkKit
import Derived.WalkSpells
import Derived.WalkLawsBesides
import Derived.Lib.Hide
import Derived.Lib.Builder
import Derived.Handy
import Derived.PlainAid
import Derived.Lib.Strings
import Derived.Lib.IndexBytes
import Derived.Deep.QuietTactic
import Derived.BigQuiet
import Derived.Lib.ConvBytes
import Derived.ArgAppend
import Derived.Lib.LazyBuf
import Derived.Lib.SmallJoins
import Derived.Deep.MidRow
import Derived.Maps.AppendAt
namespace Go.Proofs.YtdlpbpikhmciaaaGreatDoor
open Go.RowKit
set_option linter.unusedSimpArgs false
set_option linter.unusedVariables false

theorem ofInt_i64 (a : Nat) (ha : a < 9223372036854775808) : (BitVec.ofInt 64 (a : Int)).toNat = a := by
  rw [BitVec.ofInt_natCast, BitVec.toNat_ofNat]; exact Nat.mod_eq_of_lt (by omega)
theorem i64_and_nat (a b : Nat) (ha : a < 9223372036854775808) (hb : b < 9223372036854775808) : bits .and .i64 (a : Int) (b : Int) = ((a &&& b : Nat) : Int) := by
  have hx : a &&& b < 2 ^ 63 := Nat.and_lt_two_pow _ (by omega)
  show IntKind.i64.wrap ((BitVec.ofInt 64 (a : Int) &&& BitVec.ofInt 64 (b : Int)).toNat : Int) = _
  rw [BitVec.toNat_and, ofInt_i64 a ha, ofInt_i64 b hb, IntKind.wrap_i64]
  omega
theorem i64_or_nat (a b : Nat) (ha : a < 9223372036854775808) (hb : b < 9223372036854775808) : bits .or .i64 (a : Int) (b : Int) = ((a ||| b : Nat) : Int) := by
  have hx : a ||| b < 2 ^ 63 := Nat.or_lt_two_pow (by omega) (by omega)
  show IntKind.i64.wrap ((BitVec.ofInt 64 (a : Int) ||| BitVec.ofInt 64 (b : Int)).toNat : Int) = _
  rw [BitVec.toNat_or, ofInt_i64 a ha, ofInt_i64 b hb, IntKind.wrap_i64]
  omega
theorem i64_xor_nat (a b : Nat) (ha : a < 9223372036854775808) (hb : b < 9223372036854775808) : bits .xor .i64 (a : Int) (b : Int) = ((a ^^^ b : Nat) : Int) := by
  have hx : a ^^^ b < 2 ^ 63 := Nat.xor_lt_two_pow (by omega) (by omega)
  show IntKind.i64.wrap ((BitVec.ofInt 64 (a : Int) ^^^ BitVec.ofInt 64 (b : Int)).toNat : Int) = _
  rw [BitVec.toNat_xor, ofInt_i64 a ha, ofInt_i64 b hb, IntKind.wrap_i64]
  omega
/-- x | y, the bits apart: the sum. -/
theorem i64_join (i x y : Nat) (hx : x % 2 ^ i = 0) (hy : y < 2 ^ i) (hb : x < 4611686018427387904) (hy' : y < 4611686018427387904) : bits .or .i64 (x : Int) (y : Int) = ((x + y : Nat) : Int) := by
  rw [i64_or_nat x y (by omega) (by omega), nat_join i x y hx hy]
theorem i64_or0 (y : Nat) (h : y < 4611686018427387904) : bits .or .i64 0 (y : Int) = (y : Int) := by
  have := i64_or_nat 0 y (by omega) (by omega)
  simpa using this
theorem i64_mask6 (x : Nat) (h : x < 4611686018427387904) : bits .and .i64 (x : Int) 63 = ((x % 64 : Nat) : Int) := by
  have := i64_and_nat x 63 (by omega) (by omega)
  rw [nat_mask6] at this
  exact this

theorem byte_lt (s : ByteArray) (k : Nat) (h : k < s.size) : (s[k]'h).toNat < 256 := by have := (s[k]'h).toBitVec.isLt; exact this
theorem size_list (s : ByteArray) : s.data.toList.length = s.size := by rw [Array.length_toList]; rfl
theorem list_get (s : ByteArray) (k : Nat) (h : k < s.size) : s.data.toList[k]? = some (s[k]'h) := by
  rw [Array.getElem?_toList]
  exact Array.getElem?_eq_getElem h
theorem drop_get (s : ByteArray) (k : Nat) (h : k < s.size) : s.data.toList.drop k = (s[k]'h) :: s.data.toList.drop (k + 1) := by
  have hl : k < s.data.toList.length := by rw [size_list]; exact h
  rw [List.drop_eq_getElem_cons hl]; rfl
theorem take_get (s : ByteArray) (k : Nat) (h : k < s.size) : s.data.toList.take (k + 1) = s.data.toList.take k ++ [s[k]'h] := by
  rw [List.take_succ_eq_append_getElem (by rw [size_list]; exact h)]; rfl
theorem ret_int {k : IntKind} {a b : Int} (h : a = b) : Ending.returned (.int k a) = .returned (.int k b) := by rw [h]
theorem str_eq (s : ByteArray) : (⟨s.data.toList.toArray⟩ : ByteArray) = s := by cases s; simp
theorem ba_ext {a b : ByteArray} (h : a.data.toList = b.data.toList) : a = b := by
  cases a with | mk a => cases b with | mk b => simp at h; rw [h]
theorem toUInt8_nat (c : UInt8) : c.toNat.toUInt8 = c := by simp
theorem byteCells_one (c : UInt8) : Lib.byteCells [c] = [Value.int .u8 c.toNat] := rfl
theorem byteCells_snoc (l : List UInt8) (c : UInt8) : Lib.byteCells (l ++ [c]) = Lib.byteCells l ++ [Value.int .u8 c.toNat] := by rw [Lib.byteCells_append]; rfl

/-- 'string(out)', out a slice whose cells are known. -/
theorem run_str_cells {P : Program} (w : World) (src e : TypeId) (hs : P.underlying src = some (.slice e)) (he : P.underlying e = some (.int .u8)) (g off cap n : Nat) (l : List UInt8) (hn : l.length = n)
    (hc : ∀ j (h : j < l.length), w.cell? ⟨g, off + j, none⟩ = some (.int .u8 (l[j]'h).toNat)) : ∀ dst, P.underlying dst = some .string → (convert src dst (.slice (some ⟨g, off, none⟩) n cap)).run P w = .ok (.string ⟨l.toArray⟩) w := by
  intro dst hd
  have h1 := run_convert_bytes_arg w src e hs he g off n cap (l.map fun c => (c.toNat : Int)) (by simpa using hn) (fun i hi => by
    have hi' : i < l.length := by omega
    rw [hc i hi']
    simp [List.getD, hi']) dst hd
  rw [h1]
  congr 2
  unfold strOfNums
  congr 2
  rw [List.map_map]
  calc l.map ((fun n : Int => UInt8.ofNat n.toNat) ∘ fun c : UInt8 => (c.toNat : Int)) = l.map id := by
        apply List.map_congr_left
        intro c _
        simp
    _ = l := by simp
/-- 'string(out)', out a row of bytes of the call's own. -/
theorem run_str_own {P : Program} (w : World) {B n : Nat} {v : Value} {l : List UInt8} (src e : TypeId) (hs : P.underlying src = some (.slice e)) (he : P.underlying e = some (.int .u8))
    (h : w.ownsRow B e 1 v n (Lib.byteCells l)) : ∀ dst, P.underlying dst = some .string → (convert src dst v).run P w = .ok (.string ⟨l.toArray⟩) w := by
  intro dst hd
  have hlen : l.length = n := by have := h.1; rw [Lib.byteCells_length] at this; omega
  rcases h.2 with ⟨rfl, h0⟩ | ⟨g, cap, cur, rfl, _⟩
  · have hl : l = [] := List.eq_nil_of_length_eq_zero (by omega)
    subst hl
    exact run_convert_bytes_nil w src e hs he 0 0 dst hd
  · have hc := h.cells (g := g) rfl
    have h1 := run_convert_bytes_arg w src e hs he g 0 n cap (l.map fun c => (c.toNat : Int)) (by simpa using hlen) (fun i hi => by
      have hi' : i < l.length := by omega
      have h2 := hc i (.int .u8 (l[i]).toNat) (by simp [Lib.byteCells, hi'])
      rw [show (⟨g, 0, none⟩ : Addr).add i = ⟨g, 0 + i, none⟩ from by unfold Addr.add; split <;> simp_all] at h2
      rw [h2]
      simp [List.getD, hi']) dst hd
    rw [h1]
    congr 2
    unfold strOfNums
    congr 2
    rw [List.map_map]
    calc l.map ((fun n : Int => UInt8.ofNat n.toNat) ∘ fun c : UInt8 => (c.toNat : Int)) = l.map id := by
          apply List.map_congr_left
          intro c _
          simp
      _ = l := by simp
theorem cells_new (w : World) (e : TypeId) (l : List Value) : ∀ j u, l[j]? = some u → (w.alloc (.cells l.toArray e)).cell? ((⟨w.heap.size, 0, none⟩ : Addr).add j) = some u := by
  intro j u hu
  have ha : (⟨w.heap.size, 0, none⟩ : Addr).add j = ⟨w.heap.size, j, none⟩ := by unfold Addr.add; split <;> simp_all
  rw [ha, Lib.cell_of_heap (heap_alloc_new w _)]
  simpa using hu
theorem byteCells_oneCell (l : List UInt8) : ∀ u ∈ Lib.byteCells l, u.oneCell' = true := by
  intro u hu
  simp only [Lib.byteCells, List.mem_map] at hu
  obtain ⟨b, _, rfl⟩ := hu
  rfl
theorem quiet_left {P : Program} {f : FuncId} {args : Array Value} {w : World} {n : Nat} {v : Value}
    (h : Calls P f args (w.drewN n) fun e w' => e = .returned v ∧ w.drewN n = w') : Calls P f args (w.drewN n) fun e w'' => e = .returned v ∧ ∃ m, w'' = w.drewN m :=
  h.mono fun _ _ ⟨he, hm⟩ => ⟨he, n, hm.symm⟩
theorem below_drewN {B : Nat} {a w : World} (h : Below B a w) (n : Nat) : Below B a (w.drewN n) := ⟨h.os, h.tape, h.output, h.size, h.block⟩
end Go.Proofs.YtdlpbpikhmciaaaGreatDoor
namespace Go.Proofs.YtdlpbpikhmciaaaGreatDoor
open Go.RowKit
set_option linter.unusedSimpArgs false
set_option linter.unusedVariables false
structure RowB (w : World) (base g cap : Nat) (l : List UInt8) : Prop where
  hbase : base ≤ g
  hlt : g < w.heap.size
  hcap : l.length ≤ cap
  hcell : ∀ j c, l[j]? = some c → w.cell? ⟨g, j, none⟩ = some (.int .u8 (c.toNat : Int))
  hspare : ∀ j, l.length ≤ j → j < cap → (w.cell? ⟨g, j, none⟩).isSome = true ∧ w.frozen? ⟨g, j, none⟩ = false
theorem RowB.of_block {w w' : World} {base g cap : Nat} {l : List UInt8} (h : RowB w base g cap l) (e : w'.heap[g]? = w.heap[g]?) (hs : g < w'.heap.size) : RowB w' base g cap l :=
  ⟨h.hbase, hs, h.hcap, fun j c hj => by rw [World.cell?_of_block (w := w) e]; exact h.hcell j c hj, fun j h1 h2 => by rw [World.cell?_of_block (w := w) e, World.frozen?_of_block (w := w) e]; exact h.hspare j h1 h2⟩
theorem RowB.alloc {w : World} {base g cap : Nat} {l : List UInt8} (h : RowB w base g cap l) (o : Obj) : RowB (w.alloc o) base g cap l :=
  h.of_block (Below.heap_alloc w o g h.hlt) (by have := h.hlt; simp; omega)
theorem RowB.drew {w : World} {base g cap : Nat} {l : List UInt8} (h : RowB w base g cap l) : RowB w.drew base g cap l := ⟨h.hbase, h.hlt, h.hcap, h.hcell, h.hspare⟩
theorem RowB.setCell {w : World} {base g cap : Nat} {l : List UInt8} (h : RowB w base g cap l) {a : Addr} (ha : g ≠ a.block) (v : Value) : RowB (w.setCell a v) base g cap l :=
  h.of_block (Below.heap_setCell w a v g ha) (by have := h.hlt; simpa [World.setCell] using this)
theorem RowB.below {w w' : World} {B base g cap : Nat} {l : List UInt8} (h : RowB w base g cap l) (hb : Below B w w') (hg : g < B) : RowB w' base g cap l :=
  h.of_block (hb.block g hg) (by have := hb.size; have := h.hlt; omega)
/-- []byte(s). -/
theorem rowB_of_string (w : World) (e : TypeId) (s : ByteArray) : RowB (Lib.bytesWorld w e s) w.heap.size w.heap.size (grownCap w s.size 0 e) s.data.toList ∧ Below w.heap.size w (Lib.bytesWorld w e s) := by
  have hn := Lib.bytesWorld_at_new w e s
  have hsz : (Lib.bytesCells w e s).size = grownCap w s.size 0 e := by
    have hge := grownCap_ge w s.size 0 e
    unfold Lib.bytesCells
    rw [Array.size_append, Array.size_map, Array.size_replicate]
    show s.size + _ = _
    omega
  refine ⟨⟨Nat.le_refl _, by rw [Lib.bytesWorld_size]; omega, by rw [size_list]; exact grownCap_ge _ _ _ _, fun j c hj => ?_, fun j h1 h2 => ?_⟩, ?_⟩
  · have hlt : j < s.size := by rw [← size_list]; exact (List.getElem?_eq_some_iff.1 hj).1
    rw [Lib.bytesWorld_cell w e s j hlt]
    simp [List.getD, hj]
  · constructor
    · simp only [World.cell?, hn]
      have : j < (Lib.bytesCells w e s).size := by omega
      simp [this]
    · simp only [World.frozen?, hn]
      have : j < (Lib.bytesCells w e s).size := by omega
      simp; omega
  · exact Go.Joins.below_bytesWorld _ w e s (Nat.le_refl _)
theorem rowB_of_own {w : World} {base : Nat} {e : TypeId} {v : Value} {n : Nat} {l : List UInt8} (h : w.ownsRow base e 1 v n (Lib.byteCells l)) (hn : 0 < n) :
    ∃ g cap, v = .slice (some ⟨g, 0, none⟩) n cap ∧ RowB w base g cap l ∧ l.length = n := by
  have hl : l.length = n := by have := h.1; rw [Lib.byteCells_length] at this; omega
  rcases h.2 with ⟨_, h0⟩ | ⟨g, cap, cur, rfl, hb, hg, hnc, hcm, hcs, hct⟩
  · omega
  · have hlt : g < w.heap.size := (Array.getElem?_eq_some_iff.1 hg).1
    have hc := h.cells (g := g) rfl
    refine ⟨g, cap, rfl, ⟨hb, hlt, by omega, fun j c hj => ?_, fun j h1 h2 => ?_⟩, hl⟩
    · have := hc j (.int .u8 (c.toNat : Int)) (by simp [Lib.byteCells, hj])
      rwa [show (⟨g, 0, none⟩ : Addr).add j = ⟨g, j, none⟩ from by unfold Addr.add; split <;> simp_all] at this
    · constructor
      · simp only [World.cell?, hg]
        have : j < cur.size := by omega
        simp [this]
      · simp only [World.frozen?, hg]
        simp
/-- append onto it. -/
theorem wpList_append_rowB {P : Program} (w : World) {ops : Array Oper} {rest : List Oper} {o : Oper} {a : Act} {Q : Exit → Act → World → Prop}
    (hgd : o.guard = none) (s x : Operand) (t e : TypeId) (hop : o.op = Op.call { callee := Callee.builtin Builtin.append, args := #[s, x], argTypes := #[t, t] })
    (i : TypeInfo) (ht : P.underlying t = some (.slice e)) (hi : P.info? e = some i) (hz : i.zero = some (.int .u8 0)) (hsz : i.size = 1) (hby : i.bytes = 1)
    (base g cap n : Nat) (l : List UInt8) (hn : l.length = n) (hs : a.eval s = .slice (some ⟨g, 0, none⟩) n cap) (h : RowB w base g cap l)
    (ad : Addr) (m c : Nat) (news : List UInt8) (hx : a.eval x = .slice (some ad) m c) (hm : news.length = m) (hnews : ∀ j u, (Lib.byteCells news)[j]? = some u → w.cell? (ad.add j) = some u)
    (hsmall : n + m ≤ 140737488355328) (hm0 : 0 < m)
    (hK : ∀ g' cap' w', RowB w' base g' cap' (l ++ news) → Below base w w' → wpList P ops Q rest (a.put o.dst (.slice (some ⟨g', 0, none⟩) (n + m) cap')) w') :
    wpList P ops Q (o :: rest) a w := by
  have hbs : base ≤ w.heap.size := by have := h.hlt; have := h.hbase; omega
  subst hn
  have hlen : (l ++ news).length = l.length + m := by rw [List.length_append, hm]
  refine wpList_append_arg w hgd s x t hop e i (.int .u8 0) 1 1 ht hi hz hsz hby rfl (by decide) g 0 l.length cap (Lib.byteCells l) hs (by rw [Lib.byteCells_length]; omega)
    (fun j u hj => ?_) ad m c (Lib.byteCells news) hx (by rw [Lib.byteCells_length]; omega) hnews (byteCells_oneCell _) (fun hc j hj => ?_) (by unfold maxLen; omega) (by omega) (fun hc => ?_) (fun hc v' w' hown hg => ?_)
  · rw [Nat.zero_add]
    simp only [Lib.byteCells, List.getElem?_map, Option.map_eq_some_iff] at hj
    obtain ⟨b, hb, rfl⟩ := hj
    exact h.hcell j b hb
  · rw [Lib.byteCells_length] at hj
    have := h.hspare (l.length + j) (by omega) (by omega)
    rw [Nat.zero_add, Nat.mul_one]
    exact this
  · have hbel : Below base w (w.setCells g (0 + l.length * 1) (Lib.byteCells news)) := below_setCells (show base ≤ g from h.hbase) _ _ _ (Below.refl _ _)
    refine hK g cap _ ?_ hbel
    rw [Nat.zero_add, Nat.mul_one]
    rw [Nat.zero_add, Nat.mul_one] at hbel
    have hbl : (Lib.byteCells news).length = m := by rw [Lib.byteCells_length]; exact hm
    refine ⟨h.hbase, by have := hbel.size; have := h.hlt; omega, by omega, fun j c hj => ?_, fun j h1 h2 => ?_⟩
    · by_cases hjl : j < l.length
      · rw [List.getElem?_append_left hjl] at hj
        rw [World.cell?_setCells_out g _ _ _ _ (fun _ _ => Or.inl hjl)]
        exact h.hcell j c hj
      · rw [List.getElem?_append_right (by omega)] at hj
        have hjm : j - l.length < news.length := (List.getElem?_eq_some_iff.1 hj).1
        have hin := World.cell?_setCells_in g (Lib.byteCells news) l.length w (fun j hj => (h.hspare (l.length + j) (by omega) (by omega)).1) (j - l.length) (by omega)
        rw [show l.length + (j - l.length) = j from by omega] at hin
        rw [hin]
        obtain ⟨_, hcc⟩ := List.getElem?_eq_some_iff.1 hj
        simp [Lib.byteCells, hcc]
    · rw [World.frozen?_setCells]
      exact ⟨World.isSome_setCells _ _ _ _ _ (h.hspare j (by omega) h2).1, (h.hspare j (by omega) h2).2⟩
  · obtain ⟨g', cap', rfl, hr, hl⟩ := rowB_of_own (l := l ++ news) (by rw [Lib.byteCells_append]; exact hown) (by omega)
    have := hK g' cap' w' ⟨Nat.le_trans hbs hr.hbase, hr.hlt, hr.hcap, hr.hcell, hr.hspare⟩ ((Below.refl _ w).grown hg hbs (fun k hk => by cases hk))
    exact this
theorem rowB_read {w : World} {base g cap : Nat} {l : List UInt8} (h : RowB w base g cap l) (j : Nat) (hj : j < l.length) : ∃ b : Int, w.cell? ⟨g, j, none⟩ = some (.int .u8 b) ∧ b % 4294967296 = b ∧ b = ((l.getD j 0).toNat : Int) := by
  have hg : l[j]? = some l[j] := List.getElem?_eq_getElem hj
  refine ⟨(l[j].toNat : Int), h.hcell j _ hg, ?_, by simp [List.getD, hg]⟩
  have : l[j].toNat < 256 := l[j].toBitVec.isLt
  omega
theorem sz8 (n : Nat) (h : n ≤ 1099511627776) : ((n : Int) * 8) % 18446744073709551616 = (n : Int) * 8 := by omega
theorem wrap_mid (p : Nat) (h : p ≤ 2199023255552) : IntKind.i64.wrap (p : Int) = (p : Int) := by rw [IntKind.wrap_i64]; omega
theorem le47 (n : Nat) (h : n ≤ 2199023255552) : n ≤ 140737488355328 := by omega
theorem le40 (n s : Nat) (hs : s ≤ 1099511627776) (h : n ≤ s + 1000) : n ≤ 2199023255552 := by omega
theorem cell_keep {w : World} {a : Addr} {v : Value} (h : w.cell? a = some v) (hlt : a.block < w.heap.size) (o : Obj) : ((w.alloc o).drew).cell? a = some v := by
  have := ((Below.refl w.heap.size w).alloc (Nat.le_refl _) o).cell (p := a) hlt
  rw [← h, ← this]
  rfl
end Go.Proofs.YtdlpbpikhmciaaaGreatDoor
namespace Go.Proofs.YtdlpbpikhmciaaaGreatDoor
open Go.RowKit
set_option linter.unusedSimpArgs false
set_option linter.unusedVariables false
abbrev Par := List UInt8 × List UInt8 × Bool
def strV (l : List (List UInt8)) : List Value := l.map fun p => .string ⟨p.toArray⟩
def parV (p : Par) : List Value := [.string ⟨p.1.toArray⟩, .string ⟨p.2.1.toArray⟩, .bool p.2.2]
def parsV (l : List Par) : List Value := l.flatMap parV
theorem parsV_snoc (l : List Par) (p : Par) : parsV (l ++ [p]) = parsV l ++ parV p := by simp [parsV]
def StrsAt (w : World) (g : Nat) (l : List (List UInt8)) : Prop := g < w.heap.size ∧ ∀ j p, l[j]? = some p → w.cell? ⟨g, j, none⟩ = some (.string ⟨p.toArray⟩)
theorem strs_of_own {w : World} {base : Nat} {e : TypeId} {v : Value} {l : List (List UInt8)} (h : w.ownsRow base e 1 v l.length (strV l)) (hn : l ≠ []) :
    ∃ g cap, v = .slice (some ⟨g, 0, none⟩) l.length cap ∧ base ≤ g ∧ StrsAt w g l := by
  have hl : 0 < l.length := List.length_pos_iff.2 hn
  rcases h.2 with ⟨_, h0⟩ | ⟨g, cap, cur, rfl, hb, hg, hnc, hcm, hcs, hct⟩
  · omega
  · have hc := h.cells (g := g) rfl
    refine ⟨g, cap, rfl, hb, (Array.getElem?_eq_some_iff.1 hg).1, fun j p hj => ?_⟩
    have := hc j (.string ⟨p.toArray⟩) (by simp [strV, hj])
    rwa [show (⟨g, 0, none⟩ : Addr).add j = ⟨g, j, none⟩ from by unfold Addr.add; split <;> simp_all] at this
theorem strsAt_grown {w w' : World} {g : Nat} {l : List (List UInt8)} {row : Option Nat} (h : StrsAt w g l) (hg : w.grownBy w' row) (hne : some g ≠ row) : StrsAt w' g l :=
  ⟨Nat.lt_of_lt_of_le h.1 hg.size, fun j p hj => hg.cell (h.2 j p hj) hne⟩
theorem strsAt_below {w w' : World} {g B : Nat} {l : List (List UInt8)} (h : StrsAt w g l) (hb : Below B w w') (hg : g < B) : StrsAt w' g l :=
  ⟨Nat.lt_of_lt_of_le h.1 hb.size, fun j p hj => by rw [hb.cell (p := ⟨g, j, none⟩) hg]; exact h.2 j p hj⟩
theorem grown_of_below {w w' : World} (h : Below w.heap.size w w') : w.grownBy w' none := ⟨h.os, h.tape, h.output, h.size, fun i hi _ => h.block i hi⟩
theorem wrap64_small (i : Nat) (h : i ≤ 2199023255552) : wrap64 ((i : Int) + 1) = (i : Int) + 1 := by unfold wrap64; omega
theorem parsV_get (l : List Par) (i : Nat) (p : Par) (h : l[i]? = some p) : (parsV l)[i * 3]? = some (.string ⟨p.1.toArray⟩) ∧ (parsV l)[i * 3 + 1]? = some (.string ⟨p.2.1.toArray⟩) ∧ (parsV l)[i * 3 + 2]? = some (.bool p.2.2) := by
  induction l generalizing i with
  | nil => simp at h
  | cons q r ih =>
    cases i with
    | zero =>
      obtain rfl : q = p := by simpa using h
      exact ⟨rfl, rfl, rfl⟩
    | succ i =>
      have := ih i (by simpa using h)
      have e : parsV (q :: r) = parV q ++ parsV r := rfl
      have hl : (parV q).length = 3 := rfl
      rw [e]
      refine ⟨?_, ?_, ?_⟩
      · rw [List.getElem?_append_right (by omega), hl, show (i + 1) * 3 - 3 = i * 3 from by omega]; exact this.1
      · rw [List.getElem?_append_right (by omega), hl, show (i + 1) * 3 + 1 - 3 = i * 3 + 1 from by omega]; exact this.2.1
      · rw [List.getElem?_append_right (by omega), hl, show (i + 1) * 3 + 2 - 3 = i * 3 + 2 from by omega]; exact this.2.2
theorem own_later {w w' : World} {base : Nat} {T : TypeId} {n k : Nat} {v : Value} {xs : List Value} (h : w.ownsRow base T n v k xs) (hb : Below w.heap.size w w') : w'.ownsRow base T n v k xs :=
  h.kept (grown_of_below hb) (Classical.em _)
theorem mx_later {B : Nat} {w w' : World} {a : Addr} {v : Value} (hm : w.cell? a = some v) (hb : Below w.heap.size w w') : w'.cell? a = some v := by
  rw [hb.cell (p := a) (World.block_lt_of_cell? _ _ hm)]; exact hm
def ParAt (w : World) (ao : Option Addr) (l : List Par) : Prop := ∀ i p, l[i]? = some p → ∃ b o, ao = some ⟨b, o, none⟩ ∧ b < w.heap.size ∧
  w.cell? ⟨b, o + i * 3, none⟩ = some (.string ⟨p.1.toArray⟩) ∧ w.cell? ⟨b, o + i * 3 + 1, none⟩ = some (.string ⟨p.2.1.toArray⟩) ∧ w.cell? ⟨b, o + i * 3 + 2, none⟩ = some (.bool p.2.2)
def ParsIn (w : World) (v : Value) (l : List Par) : Prop := ∃ ao cap, v = .slice ao l.length cap ∧ ParAt w ao l
def totP : List Par → Nat
  | [] => 0
  | p :: r => p.1.length + p.2.1.length + totP r
theorem totP_append (a b : List Par) : totP (a ++ b) = totP a + totP b := by
  induction a with
  | nil => simp [totP]
  | cons p r ih => simp only [List.cons_append, totP, ih]; omega
theorem totP_get (l : List Par) (i : Nat) (p : Par) (h : l[i]? = some p) : p.1.length + p.2.1.length ≤ totP l := by
  induction l generalizing i with
  | nil => simp at h
  | cons q r ih =>
    cases i with
    | zero => obtain rfl : q = p := (by simpa using h); simp only [totP]; omega
    | succ i => have := ih i (by simpa using h); simp only [totP]; omega
theorem ParAt.below {w w' : World} {ao : Option Addr} {l : List Par} (h : ParAt w ao l) (hb : Below w.heap.size w w') : ParAt w' ao l := fun i p hp => by
  obtain ⟨b, o, e, lt, c0, c1, c2⟩ := h i p hp
  exact ⟨b, o, e, Nat.lt_of_lt_of_le lt hb.size, by rw [hb.cell (p := ⟨b, o + i * 3, none⟩) lt]; exact c0, by rw [hb.cell (p := ⟨b, o + i * 3 + 1, none⟩) lt]; exact c1, by rw [hb.cell (p := ⟨b, o + i * 3 + 2, none⟩) lt]; exact c2⟩
theorem ParsIn.below {w w' : World} {v : Value} {l : List Par} (h : ParsIn w v l) (hb : Below w.heap.size w w') : ParsIn w' v l := by
  obtain ⟨ao, cap, rfl, h⟩ := h
  exact ⟨ao, cap, rfl, h.below hb⟩
theorem parAt_drew {w : World} {ao : Option Addr} {l : List Par} (h : ParAt w ao l) (n : Nat) : ParAt (w.drewN n) ao l := h.below (below_drewN (Below.refl _ w) n)
theorem parsIn_own {w : World} {base : Nat} {T : TypeId} {v : Value} {l : List Par} (h : w.ownsRow base T 3 v l.length (parsV l)) : ParsIn w v l := by
  rcases h.2 with ⟨rfl, h0⟩ | ⟨g, cap, cur, rfl, hb, hg, _⟩
  · obtain rfl := List.eq_nil_of_length_eq_zero h0
    exact ⟨none, 0, rfl, fun i p hp => by simp at hp⟩
  · have hlt : g < w.heap.size := (Array.getElem?_eq_some_iff.1 hg).1
    have hc := h.cells (g := g) rfl
    refine ⟨_, cap, rfl, fun i p hp => ⟨g, 0, rfl, hlt, ?_⟩⟩
    have hgt := parsV_get l i p hp
    have e : ∀ j, (⟨g, 0, none⟩ : Addr).add j = ⟨g, j, none⟩ := fun j => by unfold Addr.add; split <;> simp_all
    rw [Nat.zero_add]
    refine ⟨?_, ?_, ?_⟩
    · have := hc _ _ hgt.1; rwa [e] at this
    · have := hc _ _ hgt.2.1; rwa [e] at this
    · have := hc _ _ hgt.2.2; rwa [e] at this
theorem bsz {L : Nat} {w w' : World} (h : Below L w w') (hL : Hid (w.heap.size = L)) : L ≤ w'.heap.size := by rw [← hL.out]; exact h.size
theorem new_kept {w w1 : World} {cs : Array Value} {T : TypeId} {j : Nat} {v : Value} (hb : Below (w.alloc (.cells cs T)).heap.size (w.alloc (.cells cs T)) w1) (h : cs[j]? = some v) : w1.cell? ⟨w.heap.size, j, none⟩ = some v := by
  rw [hb.cell (p := ⟨w.heap.size, j, none⟩) (by simp), Lib.cell_of_heap (heap_alloc_new w _)]
  exact h
theorem strV_snoc (l : List (List UInt8)) (p : List UInt8) : strV (l ++ [p]) = strV l ++ [.string ⟨p.toArray⟩] := by simp [strV]
theorem take_map {α β : Type} (f : α → β) (l : List α) (i : Nat) (p : α) (h : l[i]? = some p) : (l.map f).take (i + 1) = (l.map f).take i ++ [f p] := by rw [List.take_add_one, List.getElem?_map, h]; simp
theorem take_all {α : Type} (f : α → Bool) (l : List α) (i : Nat) (p : α) (h : l[i]? = some p) (ha : (l.take i).all f = true) (hp : f p = true) : (l.take (i + 1)).all f = true := by rw [List.take_add_one, h]; simp [ha, hp]
def Cells3 (g a : Nat) (p : Par) (w : World) : Prop := w.cell? ⟨g, a, none⟩ = some (.string ⟨p.1.toArray⟩) ∧ w.cell? ⟨g, a + 1, none⟩ = some (.string ⟨p.2.1.toArray⟩) ∧ w.cell? ⟨g, a + 2, none⟩ = some (.bool p.2.2) ∧ g < w.heap.size
theorem Cells3.below {g a : Nat} {p : Par} {w w' : World} (h : Cells3 g a p w) (hb : Below w.heap.size w w') : Cells3 g a p w' :=
  ⟨by rw [hb.cell (p := ⟨g, a, none⟩) h.2.2.2]; exact h.1, by rw [hb.cell (p := ⟨g, a + 1, none⟩) h.2.2.2]; exact h.2.1, by rw [hb.cell (p := ⟨g, a + 2, none⟩) h.2.2.2]; exact h.2.2.1, Nat.lt_of_lt_of_le h.2.2.2 hb.size⟩
theorem Cells3.grown {g a : Nat} {p : Par} {w w' : World} {row : Option Nat} (h : Cells3 g a p w) (hg : w.grownBy w' row) (hne : some g ≠ row) : Cells3 g a p w' :=
  ⟨hg.cell h.1 hne, hg.cell h.2.1 hne, hg.cell h.2.2.1 hne, Nat.lt_of_lt_of_le h.2.2.2 hg.size⟩
theorem keep3 {w : World} {g a : Nat} {p : Par} (h : Cells3 g a p w.drew) (o : Obj) : Cells3 g a p ((w.alloc o).drew) :=
  ⟨cell_keep (w := w) h.1 h.2.2.2 o, cell_keep (w := w) h.2.1 h.2.2.2 o, cell_keep (w := w) h.2.2.1 h.2.2.2 o, by have : g < w.heap.size := h.2.2.2; show g < (w.alloc o).heap.size; simp; omega⟩
theorem parsV_take (l : List Par) (i : Nat) (p : Par) (h : l[i]? = some p) : parsV (l.take (i + 1)) = parsV (l.take i) ++ [.string ⟨p.1.toArray⟩, .string ⟨p.2.1.toArray⟩, .bool p.2.2] := by
  rw [List.take_add_one, h, Option.toList_some, parsV_snoc]; rfl
end Go.Proofs.YtdlpbpikhmciaaaGreatDoor
