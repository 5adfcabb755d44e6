/- A row of bytes of the call's own whose spare cells may be written: what append makes of it. No program is named. Conditions: fewer than 2^46 bytes. -/
import Derived.Test.YtdlpbpikhmciaaaGreatDoorKit
import Derived.Lib.ConvBytes
import Derived.ArgAppend
import Derived.Lib.LazyBuf
import Derived.Lib.SmallJoins
import Derived.Deep.MidRow
namespace Go.Proofs.YtdlpbpikhmciaaaGreatDoor
open Go.RowKit
set_option linter.unusedSimpArgs false
set_option linter.unusedVariables false
structure RowB (w : World) (base g cap : Nat) (l : List UInt8) : Prop where
  hbase : base ≤ g
  hlt : g < w.heap.size
  hcap : l.length ≤ cap
  hcell : ∀ j c, l[j]? = some c → w.cell? ⟨g, j, none⟩ = some (.int .u8 (c.toNat : Int))
  hspare : ∀ j, l.length ≤ j → j < cap → (w.cell? ⟨g, j, none⟩).isSome = true ∧ w.frozen? ⟨g, j, none⟩ = false
theorem RowB.of_block {w w' : World} {base g cap : Nat} {l : List UInt8} (h : RowB w base g cap l) (e : w'.heap[g]? = w.heap[g]?) (hs : g < w'.heap.size) : RowB w' base g cap l :=
  ⟨h.hbase, hs, h.hcap, fun j c hj => by rw [World.cell?_of_block (w := w) e]; exact h.hcell j c hj, fun j h1 h2 => by rw [World.cell?_of_block (w := w) e, World.frozen?_of_block (w := w) e]; exact h.hspare j h1 h2⟩
theorem RowB.alloc {w : World} {base g cap : Nat} {l : List UInt8} (h : RowB w base g cap l) (o : Obj) : RowB (w.alloc o) base g cap l :=
  h.of_block (Below.heap_alloc w o g h.hlt) (by have := h.hlt; simp; omega)
theorem RowB.drew {w : World} {base g cap : Nat} {l : List UInt8} (h : RowB w base g cap l) : RowB w.drew base g cap l := ⟨h.hbase, h.hlt, h.hcap, h.hcell, h.hspare⟩
theorem RowB.setCell {w : World} {base g cap : Nat} {l : List UInt8} (h : RowB w base g cap l) {a : Addr} (ha : g ≠ a.block) (v : Value) : RowB (w.setCell a v) base g cap l :=
  h.of_block (Below.heap_setCell w a v g ha) (by have := h.hlt; simpa [World.setCell] using this)
theorem RowB.below {w w' : World} {B base g cap : Nat} {l : List UInt8} (h : RowB w base g cap l) (hb : Below B w w') (hg : g < B) : RowB w' base g cap l :=
  h.of_block (hb.block g hg) (by have := hb.size; have := h.hlt; omega)
/-- []byte(s). -/
theorem rowB_of_string (w : World) (e : TypeId) (s : ByteArray) : RowB (Lib.bytesWorld w e s) w.heap.size w.heap.size (grownCap w s.size 0 e) s.data.toList ∧ Below w.heap.size w (Lib.bytesWorld w e s) := by
  have hn := Lib.bytesWorld_at_new w e s
  have hsz : (Lib.bytesCells w e s).size = grownCap w s.size 0 e := by
    have hge := grownCap_ge w s.size 0 e
    unfold Lib.bytesCells
    rw [Array.size_append, Array.size_map, Array.size_replicate]
    show s.size + _ = _
    omega
  refine ⟨⟨Nat.le_refl _, by rw [Lib.bytesWorld_size]; omega, by rw [size_list]; exact grownCap_ge _ _ _ _, fun j c hj => ?_, fun j h1 h2 => ?_⟩, ?_⟩
  · have hlt : j < s.size := by rw [← size_list]; exact (List.getElem?_eq_some_iff.1 hj).1
    rw [Lib.bytesWorld_cell w e s j hlt]
    simp [List.getD, hj]
  · constructor
    · simp only [World.cell?, hn]
      have : j < (Lib.bytesCells w e s).size := by omega
      simp [this]
    · simp only [World.frozen?, hn]
      have : j < (Lib.bytesCells w e s).size := by omega
      simp; omega
  · exact Go.Joins.below_bytesWorld _ w e s (Nat.le_refl _)
theorem rowB_of_own {w : World} {base : Nat} {e : TypeId} {v : Value} {n : Nat} {l : List UInt8} (h : w.ownsRow base e 1 v n (Lib.byteCells l)) (hn : 0 < n) :
    ∃ g cap, v = .slice (some ⟨g, 0, none⟩) n cap ∧ RowB w base g cap l ∧ l.length = n := by
  have hl : l.length = n := by have := h.1; rw [Lib.byteCells_length] at this; omega
  rcases h.2 with ⟨_, h0⟩ | ⟨g, cap, cur, rfl, hb, hg, hnc, hcm, hcs, hct⟩
  · omega
  · have hlt : g < w.heap.size := (Array.getElem?_eq_some_iff.1 hg).1
    have hc := h.cells (g := g) rfl
    refine ⟨g, cap, rfl, ⟨hb, hlt, by omega, fun j c hj => ?_, fun j h1 h2 => ?_⟩, hl⟩
    · have := hc j (.int .u8 (c.toNat : Int)) (by simp [Lib.byteCells, hj])
      rwa [show (⟨g, 0, none⟩ : Addr).add j = ⟨g, j, none⟩ from by unfold Addr.add; split <;> simp_all] at this
    · constructor
      · simp only [World.cell?, hg]
        have : j < cur.size := by omega
        simp [this]
      · simp only [World.frozen?, hg]
        simp
/-- append onto it. -/
theorem wpList_append_rowB {P : Program} (w : World) {ops : Array Oper} {rest : List Oper} {o : Oper} {a : Act} {Q : Exit → Act → World → Prop}
    (hgd : o.guard = none) (s x : Operand) (t e : TypeId) (hop : o.op = Op.call { callee := Callee.builtin Builtin.append, args := #[s, x], argTypes := #[t, t] })
    (i : TypeInfo) (ht : P.underlying t = some (.slice e)) (hi : P.info? e = some i) (hz : i.zero = some (.int .u8 0)) (hsz : i.size = 1) (hby : i.bytes = 1)
    (base g cap n : Nat) (l : List UInt8) (hn : l.length = n) (hs : a.eval s = .slice (some ⟨g, 0, none⟩) n cap) (h : RowB w base g cap l)
    (ad : Addr) (m c : Nat) (news : List UInt8) (hx : a.eval x = .slice (some ad) m c) (hm : news.length = m) (hnews : ∀ j u, (Lib.byteCells news)[j]? = some u → w.cell? (ad.add j) = some u)
    (hsmall : n + m ≤ 140737488355328) (hm0 : 0 < m)
    (hK : ∀ g' cap' w', RowB w' base g' cap' (l ++ news) → Below base w w' → wpList P ops Q rest (a.put o.dst (.slice (some ⟨g', 0, none⟩) (n + m) cap')) w') :
    wpList P ops Q (o :: rest) a w := by
  have hbs : base ≤ w.heap.size := by have := h.hlt; have := h.hbase; omega
  subst hn
  have hlen : (l ++ news).length = l.length + m := by rw [List.length_append, hm]
  refine wpList_append_arg w hgd s x t hop e i (.int .u8 0) 1 1 ht hi hz hsz hby rfl (by decide) g 0 l.length cap (Lib.byteCells l) hs (by rw [Lib.byteCells_length]; omega)
    (fun j u hj => ?_) ad m c (Lib.byteCells news) hx (by rw [Lib.byteCells_length]; omega) hnews (byteCells_oneCell _) (fun hc j hj => ?_) (by unfold maxLen; omega) (by omega) (fun hc => ?_) (fun hc v' w' hown hg => ?_)
  · rw [Nat.zero_add]
    simp only [Lib.byteCells, List.getElem?_map, Option.map_eq_some_iff] at hj
    obtain ⟨b, hb, rfl⟩ := hj
    exact h.hcell j b hb
  · rw [Lib.byteCells_length] at hj
    have := h.hspare (l.length + j) (by omega) (by omega)
    rw [Nat.zero_add, Nat.mul_one]
    exact this
  · have hbel : Below base w (w.setCells g (0 + l.length * 1) (Lib.byteCells news)) := below_setCells (show base ≤ g from h.hbase) _ _ _ (Below.refl _ _)
    refine hK g cap _ ?_ hbel
    rw [Nat.zero_add, Nat.mul_one]
    rw [Nat.zero_add, Nat.mul_one] at hbel
    have hbl : (Lib.byteCells news).length = m := by rw [Lib.byteCells_length]; exact hm
    refine ⟨h.hbase, by have := hbel.size; have := h.hlt; omega, by omega, fun j c hj => ?_, fun j h1 h2 => ?_⟩
    · by_cases hjl : j < l.length
      · rw [List.getElem?_append_left hjl] at hj
        rw [World.cell?_setCells_out g _ _ _ _ (fun _ _ => Or.inl hjl)]
        exact h.hcell j c hj
      · rw [List.getElem?_append_right (by omega)] at hj
        have hjm : j - l.length < news.length := (List.getElem?_eq_some_iff.1 hj).1
        have hin := World.cell?_setCells_in g (Lib.byteCells news) l.length w (fun j hj => (h.hspare (l.length + j) (by omega) (by omega)).1) (j - l.length) (by omega)
        rw [show l.length + (j - l.length) = j from by omega] at hin
        rw [hin]
        obtain ⟨_, hcc⟩ := List.getElem?_eq_some_iff.1 hj
        simp [Lib.byteCells, hcc]
    · rw [World.frozen?_setCells]
      exact ⟨World.isSome_setCells _ _ _ _ _ (h.hspare j (by omega) h2).1, (h.hspare j (by omega) h2).2⟩
  · obtain ⟨g', cap', rfl, hr, hl⟩ := rowB_of_own (l := l ++ news) (by rw [Lib.byteCells_append]; exact hown) (by omega)
    have := hK g' cap' w' ⟨Nat.le_trans hbs hr.hbase, hr.hlt, hr.hcap, hr.hcell, hr.hspare⟩ ((Below.refl _ w).grown hg hbs (fun k hk => by cases hk))
    exact this
theorem rowB_read {w : World} {base g cap : Nat} {l : List UInt8} (h : RowB w base g cap l) (j : Nat) (hj : j < l.length) : ∃ b : Int, w.cell? ⟨g, j, none⟩ = some (.int .u8 b) ∧ b % 4294967296 = b ∧ b = ((l.getD j 0).toNat : Int) := by
  have hg : l[j]? = some l[j] := List.getElem?_eq_getElem hj
  refine ⟨(l[j].toNat : Int), h.hcell j _ hg, ?_, by simp [List.getD, hg]⟩
  have : l[j].toNat < 256 := l[j].toBitVec.isLt
  omega
theorem sz8 (n : Nat) (h : n ≤ 1099511627776) : ((n : Int) * 8) % 18446744073709551616 = (n : Int) * 8 := by omega
theorem wrap_mid (p : Nat) (h : p ≤ 2199023255552) : IntKind.i64.wrap (p : Int) = (p : Int) := by rw [IntKind.wrap_i64]; omega
theorem le47 (n : Nat) (h : n ≤ 2199023255552) : n ≤ 140737488355328 := by omega
theorem le40 (n s : Nat) (hs : s ≤ 1099511627776) (h : n ≤ s + 1000) : n ≤ 2199023255552 := by omega
theorem cell_keep {w : World} {a : Addr} {v : Value} (h : w.cell? a = some v) (hlt : a.block < w.heap.size) (o : Obj) : ((w.alloc o).drew).cell? a = some v := by
  have := ((Below.refl w.heap.size w).alloc (Nat.le_refl _) o).cell (p := a) hlt
  rw [← h, ← this]
  rfl
end Go.Proofs.YtdlpbpikhmciaaaGreatDoor
