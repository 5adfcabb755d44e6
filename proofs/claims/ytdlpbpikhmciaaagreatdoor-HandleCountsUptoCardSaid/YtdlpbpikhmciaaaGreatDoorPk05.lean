/- CkW, Reg, RegH, Mda, CkQ: texts of the seat, one behind the other (a claim holds at most sixty). Conditions: each theorem names its own. -/
import Derived.Test.YtdlpbpikhmciaaaGreatDoorPk04
import Derived.Test.YtdlpbpikhmciaaaGreatDoorPk03
import Derived.Test.YtdlpbpikhmciaaaGreatDoorPk00
import Derived.RegionTactic
import Derived.Deep.AppendLies
import Derived.OrdersHeld
namespace Go.Proofs.YtdlpbpikhmciaaaGreatDoor
open Go.RowKit
set_option linter.unusedSimpArgs false
set_option linter.unusedVariables false
set_option maxRecDepth 1000000
/-- What the tests of a digit answer. -/
theorem dg_tests (a : Nat) (c : UInt8) (hc : c.toNat = a) (h : qdg c = true) : (48 : Int) ≤ (a : Int) ∧ (a : Int) ≤ 57 ∧ ((a : Int) == 34) = false ∧ ((a : Int) == 44) = false ∧ ((a : Int) == 59) = false ∧ ((a : Int) == 92) = false ∧ decide ((a : Int) < 33) = false ∧ decide ((126 : Int) < (a : Int)) = false := by
  unfold qdg at h
  rw [decide_eq_true_eq] at h
  simp only [beq_eq_false_iff_ne, decide_eq_false_iff_not, ne_eq]
  refine ⟨?_, ?_, ?_, ?_, ?_, ?_, ?_, ?_⟩ <;> omega
theorem dg_get (s : ByteArray) (hd : s.data.toList.all qdg = true) (i : Nat) (hi : i < s.size) : qdg (s[i]'hi) = true :=
  List.all_eq_true.1 hd _ (List.mem_of_getElem? (list_get s i hi))
set_option maxHeartbeats 2000000 in
theorem ckplain_any (s : ByteArray) (w : World) (hs : s.size ≤ 4096) (hd : s.data.toList.all qdg = true) :
    Calls Tryz.prog 240 #[.string s] w fun e w' => e = .returned (.bool true) ∧ w' = w := by
  have HD := Lib.hid hd; clear hd
  go_enter Tryz.func240, Tryz.ntmps240
  go_wp2
  go_loopw [7] (fun iv wr => ∃ i : Nat, iv = .int .i64 i ∧ i ≤ s.size ∧ wr = w) (fun iv _ => s.size - (intOf iv).toNat)
  case atStart => exact ⟨0, rfl, Nat.zero_le _, rfl⟩
  case round =>
    obtain ⟨i, rfl, hi, rfl⟩ := hrel
    by_cases hlt : i < s.size
    · obtain ⟨a, ha⟩ : ∃ a, (s[i]'hlt).toNat = a := ⟨_, rfl⟩
      obtain ⟨q1, q2, q3, q4, q5, q6, q7, q8⟩ := dg_tests a _ ha (dg_get s HD.out i hlt)
      have k0 : (0 : Int) ≤ (i : Int) := Int.natCast_nonneg _
      have k1 : (i : Int) < (s.size : Int) := by omega
      have hwi := w64o i (le_oo i s.size hi (by omega))
      go_wp2
      go_roundw
      case rel => (try rw [hwi]); clear hwi; exact ⟨i + 1, by go_num, by omega, by first | rfl | trivial⟩
      case measure => (try rw [hwi]); clear hwi; simp [intOf]; omega
    · obtain rfl : i = s.size := by omega
      go_wp2
      go_ret
      exact ⟨rfl, rfl⟩
set_option maxHeartbeats 2000000 in
theorem ckvalue_any (s : ByteArray) (w : World) (hs : s.size ≤ 4096) (hd : s.data.toList.all qdg = true) :
    Calls Tryz.prog 190 #[.string s] w fun e w' => e = .returned (.bool true) ∧ w' = w := by
  have HP := Lib.hid (ckplain_any s w hs hd)
  by_cases h1 : 1 < s.size
  · have h0 : 0 < s.size := by omega
    obtain ⟨a, ha⟩ : ∃ a, (s[0]'h0).toNat = a := ⟨_, rfl⟩
    obtain ⟨q1, q2, q3, q4, q5, q6, q7, q8⟩ := dg_tests a _ ha (dg_get s hd 0 h0)
    have k0 : (1 : Int) < (s.size : Int) := by omega
    have k1 : decide ((1 : Int) < (s.size : Int)) = true := decide_eq_true k0
    have k2 : (0 : Int) < (s.size : Int) := by omega
    clear hd
    go_enter Tryz.func190, Tryz.ntmps190
    go_wp2_with fail
    refine (HP.out).mono ?_
    rintro e w ⟨rfl, rfl⟩
    go_wp2
    go_ret
    exact ⟨rfl, rfl⟩
  · have k0 : ¬ (1 : Int) < (s.size : Int) := by omega
    have k1 : decide ((1 : Int) < (s.size : Int)) = false := decide_eq_false k0
    clear hd
    go_enter Tryz.func190, Tryz.ntmps190
    go_wp2_with fail
    refine (HP.out).mono ?_
    rintro e w ⟨rfl, rfl⟩
    go_wp2
    go_ret
    exact ⟨rfl, rfl⟩
set_option maxHeartbeats 2000000 in
theorem ckright_any (n s : ByteArray) (w : World) (hn : isTok n.data.toList = true) (hs : n.size + s.size ≤ 4096) (hd : s.data.toList.all qdg = true) (hg : SgAt w) :
    Calls Tryz.prog 142 #[.string n, .string s] w fun e w' => e = .returned (.bool true) ∧ w' = w := by
  have ht := otoken_any n w (by omega) hg
  rw [hn] at ht
  have HT := Lib.hid ht
  have HV := Lib.hid (ckvalue_any s w (by omega) hd)
  obtain ⟨x, hx⟩ : ∃ x, n.size + s.size = x := ⟨_, rfl⟩
  have f1 : (n.size : Int) + (s.size : Int) = (x : Int) := by omega
  have f2 : (x : Int) ≤ 4096 := by omega
  have f3 : wrap64 (x : Int) = (x : Int) := by unfold wrap64; omega
  have f4 : decide ((x : Int) ≤ 4096) = true := decide_eq_true f2
  clear ht hd hn hg hs hx
  go_enter Tryz.func142, Tryz.ntmps142
  go_wp2_with fail
  refine (HT.out).mono ?_
  rintro e w ⟨rfl, rfl⟩
  go_wp2_with fail
  refine (HV.out).mono ?_
  rintro e w ⟨rfl, rfl⟩
  go_wp2
  go_ret
  exact ⟨rfl, rfl⟩
theorem cktrim (s : ByteArray) (w : World) (hs : s.size ≤ 8192) :
    Calls Tryz.prog 68 #[.string s, .string ⟨#[32, 9]⟩] w fun e w' => e = .returned (.string ⟨(trimL s.data.toList).toArray⟩) ∧ Below w.heap.size w w' := by
  have ht := Any.strings_Trim_laid Tryz.lays160 (by kernel_rfl) s ⟨#[32, 9]⟩ w (by omega) (by decide) (by
    intro j b hj
    have : ∀ j : Fin 2, ([32, 9] : List UInt8)[j.val].toNat < 128 := by decide
    obtain ⟨hl, he⟩ := List.getElem?_eq_some_iff.1 hj
    have := this ⟨j, hl⟩
    rw [← he]; exact this)
  rw [show (⟨#[32, 9]⟩ : ByteArray).data.toList = [32, 9] from rfl, trimS_eq] at ht
  exact ht
end Go.Proofs.YtdlpbpikhmciaaaGreatDoor
namespace Go.Proofs.YtdlpbpikhmciaaaGreatDoor
open Go.RowKit
set_option linter.unusedSimpArgs false
set_option linter.unusedVariables false

def txCheck (ops : Array Oper) : List (Nat × Bool) → Array Bool → Bool
  | [], L => Region.ready .any ops L == []
  | (i, true) :: r, L => Region.free .any ops L i && (Region.ready .any ops L).contains i && txCheck ops r (L.setIfInBounds i true)
  | (i, false) :: r, L => Region.ready .any ops L == [i] && txCheck ops r (L.setIfInBounds i true)

def wpTx (P : Program) (ops : Array Oper) (Q : Exit → Act → World → Prop) : List (Nat × Bool) → Act → World → Prop
  | [], a, w => Q .normal a w
  | (i, true) :: r, a, w => ∃ o v, ops[i]? = some o ∧ Yields P ops o v a ∧ wpTx P ops Q r (a.put o.dst v) w
  | (i, false) :: r, a, w => ∃ o, ops[i]? = some o ∧ ∀ K : Act → World → Prop, (∀ a w, wpTx P ops Q r a w → K a w) → if Region.wanted o (yielded ops a.tmps) = true then Oper.wp P o a w K Q else K (a.put o.dst undef) w

theorem wpTx_sound {P : Program} {ops : Array Oper} {Q : Exit → Act → World → Prop} (hs : Region.noSelect ops = true)
    (hQ : ∀ c d v a w, Q (.panic c) (Act.put a d v) w → Q (.panic c) a w) :
    ∀ (l : List (Nat × Bool)) (L : Array Bool) (a : Act) (w : World), txCheck ops l L = true → wpTx P ops Q l a w → wpAny P .any ops Q l.length L a w := by
  intro l
  induction l with
  | nil =>
    intro L a w hc h
    exact wpAny_done (by simpa [txCheck] using hc) h 0
  | cons x r ih =>
    intro L a w hc h
    obtain ⟨i, b⟩ := x
    cases b with
    | true =>
      obtain ⟨o, v, ho, hy, h⟩ := h
      simp only [txCheck, Bool.and_eq_true] at hc
      exact wpAny_take ho hs hc.1.1 hc.1.2 (fun c a w => hQ c _ _ a w) hy (ih _ _ _ hc.2 h)
    | false =>
      obtain ⟨o, ho, h⟩ := h
      simp only [txCheck, Bool.and_eq_true, beq_iff_eq] at hc
      exact wpAny_ready hc.1 (by simp) (AllReady.cons ho (fun K hK => h K (fun a w h' => hK a w (ih _ _ _ hc.2 h'))) AllReady.nil)

/-- Q, but False at a panic. -/
def offPanic (Q : Exit → Act → World → Prop) : Exit → Act → World → Prop
  | .panic _, _, _ => False
  | e, a, w => Q e a w
/-- A REGION THAT DRAWS, IN ONE ORDER: 'true': the operation yields in whatever world and is taken first; 'false': no other one may come up. -/
theorem wp_region_text {P : Program} {id : Nat} {ops : Array Oper} {Q : Exit → Act → World → Prop} {a : Act} {w : World} (l : List (Nat × Bool)) (hm : P.follows .mixedOrders = true) (hs : Region.noSelect ops = true) (hl : l.length = ops.size) (hc : txCheck ops l (Array.replicate ops.size false) = true)
    (h : wpTx P ops (offPanic Q) l a w.drew) : (Code.region id ops true).wp P Q a w := by
  refine Code.wp_mono (Q := offPanic Q) (fun e a w h => ?_) (wp_region_any hm ?_)
  · cases e <;> first | exact h | exact (h : False).elim
  · have := wpTx_sound (P := P) (Q := offPanic Q) hs (fun _ _ _ _ _ h => h) l _ a w.drew hc h
    rw [hl] at this
    exact this
theorem wpTx_take {P : Program} {ops : Array Oper} {Q : Exit → Act → World → Prop} {i : Nat} {o : Oper} {r : List (Nat × Bool)} {a : Act} {w : World} {v : Value} (ho : ops[i]? = some o) (hw : Region.wanted o (yielded ops a.tmps) = true)
    (hv : ∀ w, (execOp a.eval o).run P w = .ok (.value v) w) (h : wpTx P ops Q r (a.put o.dst v) w) : wpTx P ops Q ((i, true) :: r) a w := ⟨o, v, ho, .inl ⟨hw, hv⟩, h⟩
theorem wpTx_pass {P : Program} {ops : Array Oper} {Q : Exit → Act → World → Prop} {i : Nat} {o : Oper} {r : List (Nat × Bool)} {a : Act} {w : World} (ho : ops[i]? = some o) (hw : Region.wanted o (yielded ops a.tmps) = false)
    (h : wpTx P ops Q r (a.put o.dst undef) w) : wpTx P ops Q ((i, true) :: r) a w := ⟨o, undef, ho, .inr ⟨hw, rfl⟩, h⟩
theorem wpTx_step {P : Program} {ops : Array Oper} {Q : Exit → Act → World → Prop} {i : Nat} {o : Oper} {r : List (Nat × Bool)} {a : Act} {w : World} (ho : ops[i]? = some o)
    (h : ∀ K : Act → World → Prop, (∀ a w, wpTx P ops Q r a w → K a w) → if Region.wanted o (yielded ops a.tmps) = true then Oper.wp P o a w K Q else K (a.put o.dst undef) w) : wpTx P ops Q ((i, false) :: r) a w := ⟨o, ho, h⟩
theorem wpTx_nil {P : Program} {ops : Array Oper} {Q : Exit → Act → World → Prop} {a : Act} {w : World} (h : Q .normal a w) : wpTx P ops (offPanic Q) [] a w := h

/-- append onto a row of the call's own, as one step of a region that draws. -/
theorem step_append_own {P : Program} {ops : Array Oper} {o : Oper} {a : Act} {w : World} {K : Act → World → Prop} {Q : Exit → Act → World → Prop} {E : Prop} (hgd : o.guard = none) (s x : Operand) (t : TypeId)
    (ho : o.op = .call { callee := .builtin .append, args := #[s, x], argTypes := #[t, t] })
    (base : Nat) (e : TypeId) (i : TypeInfo) (z : Value) (size bytes : Nat) (ht : P.underlying t = some (.slice e)) (hi : P.info? e = some i) (hz : i.zero = some z)
    (hsize : i.size = size) (hby : i.bytes = bytes) (hzs : z.cells.size = size) (hsz : 0 < size)
    (v : Value) (n : Nat) (xs : List Value) (hs : a.eval s = v) (hown : w.ownsRow base e size v n xs)
    (ad : Addr) (m c : Nat) (news : List Value) (hx : a.eval x = .slice (some ad) m c) (hl : news.length = m * size) (hnews : ∀ j u, news[j]? = some u → w.cell? (ad.add j) = some u) (h1 : ∀ u ∈ news, u.oneCell' = true)
    (h63 : n + m ≤ maxLen) (hbytes : (n + m) * bytes ≤ 140737488355328) (hbase : base ≤ w.heap.size)
    (h : ∀ v' w', w'.ownsRow base e size v' (n + m) (xs ++ news) → w.grownBy w' v.ownBlock → K (a.put o.dst v') w') :
    if Region.wanted o (yielded ops a.tmps) = true then Oper.wp P o a w K Q else E := by
  have hw : Region.wanted o (yielded ops a.tmps) = true := by simp [Region.wanted, hgd]
  rw [if_pos hw]
  exact wp_append_own w s x t ho base e i z size bytes ht hi hz hsize hby hzs hsz v n xs hs hown ad m c news hx hl hnews h1 h63 hbytes hbase fun v' w' h2 h3 _ => h v' w' h2 h3
end Go.Proofs.YtdlpbpikhmciaaaGreatDoor
namespace Go.Proofs.YtdlpbpikhmciaaaGreatDoor
open Go.RowKit
set_option linter.unusedSimpArgs false
set_option linter.unusedVariables false
def wpTxH (P : Program) (ops : Array Oper) (S : World → Prop) (Q : Exit → Act → World → Prop) : List (Nat × Bool) → Act → World → Prop
  | [], a, w => Q .normal a w
  | (i, true) :: r, a, w => ∃ o v, ops[i]? = some o ∧ YieldsIf P ops S o v a ∧ wpTxH P ops S Q r (a.put o.dst v) w
  | (i, false) :: r, a, w => ∃ o, ops[i]? = some o ∧ ∀ K : Act → World → Prop, (∀ a w, S w → wpTxH P ops S Q r a w → K a w) → if Region.wanted o (yielded ops a.tmps) = true then Oper.wp P o a w K Q else K (a.put o.dst undef) w
theorem wpTxH_sound {P : Program} {ops : Array Oper} {S : World → Prop} {Q : Exit → Act → World → Prop} (hs : Region.noSelect ops = true)
    (hQ : ∀ c d v a w, Q (.panic c) (Act.put a d v) w → Q (.panic c) a w) :
    ∀ (l : List (Nat × Bool)) (L : Array Bool) (a : Act) (w : World), S w → txCheck ops l L = true → wpTxH P ops S Q l a w → wpAnyH P .any ops Q S l.length L a w := by
  intro l
  induction l with
  | nil =>
    intro L a w _ hc h
    exact wpAnyH_done (by simpa [txCheck] using hc) h 0
  | cons x r ih =>
    intro L a w hS hc h
    obtain ⟨i, b⟩ := x
    cases b with
    | true =>
      obtain ⟨o, v, ho, hy, h⟩ := h
      simp only [txCheck, Bool.and_eq_true] at hc
      exact wpAnyH_take ho hs hc.1.1 hc.1.2 (fun c a w => hQ c _ _ a w) hy hS (ih _ _ _ hS hc.2 h)
    | false =>
      obtain ⟨o, ho, h⟩ := h
      simp only [txCheck, Bool.and_eq_true, beq_iff_eq] at hc
      refine wpAnyH_all hc.1 (by simp) (fun j hj => ?_)
      obtain rfl : j = i := by simpa using hj
      exact wpOp_step ho (fun K hK => h K (fun a w hS' h' => hK a w ⟨hS', ih _ _ _ hS' hc.2 h'⟩))
theorem wp_region_textH {P : Program} {id : Nat} {ops : Array Oper} {Q : Exit → Act → World → Prop} {a : Act} {w : World} (S : World → Prop) (l : List (Nat × Bool)) (hm : P.follows .mixedOrders = true) (hs : Region.noSelect ops = true) (hl : l.length = ops.size) (hc : txCheck ops l (Array.replicate ops.size false) = true)
    (hS : S w.drew) (h : wpTxH P ops S (offPanic Q) l a w.drew) : (Code.region id ops true).wp P Q a w := by
  refine Code.wp_mono (Q := offPanic Q) (fun e a w h => ?_) (wp_region_held (S := S) hm ?_)
  · cases e <;> first | exact h | exact (h : False).elim
  · have := wpTxH_sound (P := P) (Q := offPanic Q) hs (fun _ _ _ _ _ h => h) l _ a w.drew hS hc h
    rw [hl] at this
    exact this
theorem wpTxH_take {P : Program} {ops : Array Oper} {S : World → Prop} {Q : Exit → Act → World → Prop} {i : Nat} {o : Oper} {r : List (Nat × Bool)} {a : Act} {w : World} {v : Value} (ho : ops[i]? = some o) (hw : Region.wanted o (yielded ops a.tmps) = true)
    (hv : ∀ w, S w → (execOp a.eval o).run P w = .ok (.value v) w) (h : wpTxH P ops S Q r (a.put o.dst v) w) : wpTxH P ops S Q ((i, true) :: r) a w := ⟨o, v, ho, .inl ⟨hw, hv⟩, h⟩
theorem wpTxH_step {P : Program} {ops : Array Oper} {S : World → Prop} {Q : Exit → Act → World → Prop} {i : Nat} {o : Oper} {r : List (Nat × Bool)} {a : Act} {w : World} (ho : ops[i]? = some o)
    (h : ∀ K : Act → World → Prop, (∀ a w, S w → wpTxH P ops S Q r a w → K a w) → if Region.wanted o (yielded ops a.tmps) = true then Oper.wp P o a w K Q else K (a.put o.dst undef) w) : wpTxH P ops S Q ((i, false) :: r) a w := ⟨o, ho, h⟩
theorem wpTxH_nil {P : Program} {ops : Array Oper} {S : World → Prop} {Q : Exit → Act → World → Prop} {a : Act} {w : World} (h : Q .normal a w) : wpTxH P ops S (offPanic Q) [] a w := h
end Go.Proofs.YtdlpbpikhmciaaaGreatDoor
namespace Go.Proofs.YtdlpbpikhmciaaaGreatDoor
open Go.RowKit
set_option linter.unusedSimpArgs false
set_option linter.unusedVariables false
set_option maxRecDepth 1000000
theorem alloc_le {L : Nat} {w : World} (h : L ≤ w.heap.size) (o : Obj) : L ≤ (w.alloc o).heap.size := by simp; omega
/-- A block that holds one object and may be written. -/
def BlkIs (w : World) (b : Nat) (cs : Array Value) (T : TypeId) : Prop := w.heap[b]? = some (.cells cs T)
theorem BlkIs.lt {w : World} {b : Nat} {cs : Array Value} {T : TypeId} (h : BlkIs w b cs T) : b < w.heap.size := (Array.getElem?_eq_some_iff.1 h).1
theorem blkIs_new (w : World) (cs : Array Value) (T : TypeId) : BlkIs (w.alloc (.cells cs T)) w.heap.size cs T := heap_alloc_new w _
theorem BlkIs.below {w w' : World} {B b : Nat} {cs : Array Value} {T : TypeId} (h : BlkIs w b cs T) (hb : Below B w w') (hlt : b < B) : BlkIs w' b cs T := by unfold BlkIs; rw [hb.block b hlt]; exact h
theorem BlkIs.later {w w' : World} {b : Nat} {cs : Array Value} {T : TypeId} (h : BlkIs w b cs T) (hb : Below w.heap.size w w') : BlkIs w' b cs T := h.below hb h.lt
theorem BlkIs.alloc {w : World} {b : Nat} {cs : Array Value} {T : TypeId} (h : BlkIs w b cs T) (o : Obj) : BlkIs (w.alloc o) b cs T := h.later ((Below.refl _ w).alloc (Nat.le_refl _) o)
theorem BlkIs.cell {w : World} {b : Nat} {cs : Array Value} {T : TypeId} (h : BlkIs w b cs T) (j : Nat) (v : Value) (hj : cs[j]? = some v) : w.cell? ⟨b, j, none⟩ = some v := by
  rw [Lib.cell_of_heap h]; exact hj
theorem BlkIs.free {w : World} {b : Nat} {cs : Array Value} {T : TypeId} (h : BlkIs w b cs T) (j : Nat) : w.frozen? ⟨b, j, none⟩ = false := Lib.frozen_of_heap h j
theorem BlkIs.grown {w w' : World} {b : Nat} {cs : Array Value} {T : TypeId} {row : Option Nat} (h : BlkIs w b cs T) (hg : w.grownBy w' row) (hne : row ≠ some b) : BlkIs w' b cs T := by unfold BlkIs; rw [hg.block b h.lt (fun e => hne e.symm)]; exact h
theorem BlkIs.set {w : World} {b : Nat} {cs : Array Value} {T : TypeId} (h : BlkIs w b cs T) (j : Nat) (v : Value) : BlkIs (w.setCell ⟨b, j, none⟩ v) b (cs.setIfInBounds j v) T := Joins.block_setCell h v
theorem BlkIs.setOther {w : World} {b : Nat} {cs : Array Value} {T : TypeId} (h : BlkIs w b cs T) (a : Addr) (v : Value) (hne : b ≠ a.block) : BlkIs (w.setCell a v) b cs T := by unfold BlkIs; rw [Below.heap_setCell w a v b hne]; exact h
/-- A row of another type does not stand in such a block. -/
theorem own_blk {w : World} {L b n s : Nat} {cs : Array Value} {T e : TypeId} {v : Value} {xs : List Value} (hown : w.ownsRow L e s v n xs) (h : BlkIs w b cs T) (hne : e ≠ T) : v.ownBlock ≠ some b := by
  rcases hown.2 with ⟨rfl, _⟩ | ⟨g, c, cur, rfl, _, hg, _⟩
  · simp [Value.ownBlock]
  · intro e2
    simp [Value.ownBlock] at e2
    subst e2
    unfold BlkIs at h
    rw [h] at hg
    injection hg with hg
    injection hg with _ hg
    exact hne hg.symm
theorem own_setOther {w : World} {L b j n s : Nat} {e : TypeId} {v u : Value} {xs : List Value} (hown : w.ownsRow L e s v n xs) (hne : v.ownBlock ≠ some b) : (w.setCell ⟨b, j, none⟩ u).ownsRow L e s v n xs :=
  hown.kept (row := some b) ⟨rfl, rfl, rfl, by simp, fun k hk hkb => Below.heap_setCell w ⟨b, j, none⟩ u k (fun e => hkb (by rw [e]))⟩ (Or.inr hne)
theorem par_bd (i n : Nat) (h : i < n) (hn : n ≤ 1073741824) : i + 1 ≤ maxLen ∧ (i + 1) * 40 ≤ 140737488355328 := by unfold maxLen; omega
theorem cells_new2 (w : World) (o : Obj) (e : TypeId) (l : List Value) : ∀ j u, l[j]? = some u → ((w.alloc o).alloc (.cells l.toArray e)).cell? ((⟨w.heap.size + 1, 0, none⟩ : Addr).add j) = some u := by
  intro j u hu
  have := cells_new (w.alloc o) e l j u hu
  rwa [show (w.alloc o).heap.size = w.heap.size + 1 from by simp] at this
end Go.Proofs.YtdlpbpikhmciaaaGreatDoor
namespace Go.Proofs.YtdlpbpikhmciaaaGreatDoor
open Go.RowKit
set_option linter.unusedSimpArgs false
set_option linter.unusedVariables false
set_option maxRecDepth 1000000
theorem results_cell_tmp1 {fn : Func} {p u : Tmp} {ty : TypeId} (h : fn.results = #[.cell p ty, .tmp u]) (tmps : Array Value) (P : Program) (w : World) :
    (results fn tmps).run P w = ((asAddr (tmps.getD p undef)).run P w).andThen fun a w₁ => ((loadVar ty a).run P w₁).andThen fun x w₂ => .ok (.tuple #[x, tmps.getD u undef]) w₂ := by
  simp only [results, h]
  simp [Sem.run_bind, Result.andThen]
theorem ck_cell {w W : World} {p : Addr} {v : Value} (h : w.cell? p = some v) (hb : Below w.heap.size w W) : W.cell? p = some v :=
  (hb.cell (World.block_lt_of_cell? _ _ h)).trans h
theorem ck_add (b o j : Nat) : (⟨b, o, none⟩ : Addr).add j = ⟨b, o + j, none⟩ := by unfold Addr.add; split <;> simp_all
theorem own_at {W : World} {b g n c k : Nat} {T : TypeId} {xs : List Value} (h : W.ownsRow b T k (.slice (some ⟨g, 0, none⟩) n c) n xs) (j : Nat) (u : Value) (hj : xs[j]? = some u) : W.cell? ⟨g, j, none⟩ = some u := by
  have := h.cells (g := g) rfl j u hj
  rw [ck_add, Nat.zero_add] at this
  exact this
theorem own1 {W : World} {b n : Nat} {T : TypeId} {k : Nat} {v : Value} {xs : List Value} (h : W.ownsRow b T k v n xs) (hn : n ≠ 0) : ∃ g c, v = .slice (some ⟨g, 0, none⟩) n c ∧ b ≤ g ∧ g < W.heap.size := by
  rcases h.2 with ⟨_, h0⟩ | ⟨g, c, cur, hv, hb, hg, _⟩
  · exact absurd h0 hn
  · exact ⟨g, c, hv, hb, (Array.getElem?_eq_some_iff.1 hg).1⟩
abbrev ckZ : Array Value := #[.string ⟨#[]⟩, .string ⟨#[]⟩]
theorem ck_cut_no (m : Int) (w : World) (hm : w.cell? ⟨4, 0, none⟩ = some (.int .i64 m)) :
    Calls Tryz.prog 120 #[.string ⟨#[111, 116, 104, 101, 114]⟩, .string ⟨#[61]⟩] w fun e w' => e = .returned (.tuple #[.string ⟨#[111, 116, 104, 101, 114]⟩, .string ⟨#[]⟩, .bool false]) ∧ ∃ n, w' = w.drewN n := by
  have h := Tryz.strings_Cut ⟨#[111, 116, 104, 101, 114]⟩ ⟨#[61]⟩ m w (by decide) hm
  rw [show (⟨#[111, 116, 104, 101, 114]⟩ : ByteArray).data.toList = otL from rfl, show (⟨#[61]⟩ : ByteArray).data.toList = [61] from rfl, ck_free 61 otL (by decide)] at h
  exact h
theorem ck_cut_yes (n ds : List UInt8) (hn : n.all isSg = true) (hl : n.length + ds.length ≤ 4096) (m : Int) (w : World) (hm : w.cell? ⟨4, 0, none⟩ = some (.int .i64 m)) :
    Calls Tryz.prog 120 #[.string ⟨(32 :: ckL n ds).toArray⟩, .string ⟨#[61]⟩] w fun e w' => e = .returned (.tuple #[.string ⟨(32 :: n).toArray⟩, .string ⟨ds.toArray⟩, .bool true]) ∧ ∃ n, w' = w.drewN n := by
  have h := Tryz.strings_Cut ⟨(32 :: ckL n ds).toArray⟩ ⟨#[61]⟩ m w (by rw [size_mk]; simp [ckL]; omega) hm
  rw [show (⟨(32 :: ckL n ds).toArray⟩ : ByteArray).data.toList = 32 :: ckL n ds from rfl, show (⟨#[61]⟩ : ByteArray).data.toList = [61] from rfl, ck_cut2 n ds hn] at h
  exact h
theorem ck_below (w : World) (o : Obj) : Below w.heap.size w (w.alloc o) := (Below.refl _ w).alloc (Nat.le_refl _) _
set_option maxHeartbeats 8000000 in
theorem ckpair_no (m : Int) (w : World) (hm : w.cell? ⟨4, 0, none⟩ = some (.int .i64 m)) :
    Calls Tryz.prog 140 #[.string ⟨#[111, 116, 104, 101, 114]⟩] w fun e w' => e = .returned (.tuple #[.agg ckZ, .bool false]) ∧ Below w.heap.size w w' := by
  obtain ⟨B, hB⟩ : ∃ B, w.heap.size = B := ⟨_, rfl⟩
  obtain ⟨W0, hW0⟩ : ∃ W, w.alloc (.cells ckZ 128) = W := ⟨_, rfl⟩
  have hb0 : Below w.heap.size w W0 := by rw [← hW0]; exact ck_below _ _
  have hk0 : BlkIs W0 B ckZ 128 := by rw [← hW0, ← hB]; exact blkIs_new _ _ _
  have hc := ck_cut_no m W0 (ck_cell hm hb0)
  have ht1 := fun W => cktrim ⟨#[111, 116, 104, 101, 114]⟩ W (by decide)
  have ht2 := fun W => cktrim ⟨#[]⟩ W (by decide)
  have HW0 := Lib.hid hW0; have HC := Lib.hid hc; have HT1 := Lib.hid ht1; have HT2 := Lib.hid ht2; have HI := Lib.hid (And.intro hb0 hk0); have HSB := Lib.hid hB
  clear hW0 hb0 hk0 hc ht1 ht2 hm
  go_enter Tryz.func140, Tryz.ntmps140
  go_upto_region 1 with fail
  rw [HW0.out]
  go_wp2_with fail
  refine (HC.out).mono ?_
  rintro e w1 ⟨rfl, k, rfl⟩
  go_wp2_with fail
  refine (HT1.out _).mono ?_
  rintro e w2 ⟨rfl, hb2⟩
  go_wp2_with fail
  refine (HT2.out _).mono ?_
  rintro e w3 ⟨rfl, hb3⟩
  have hb4 : Below W0.heap.size W0 w3 := (below_drewN (Below.refl _ W0) k).trans ((hb2.trans (hb3.mono hb2.size)).mono (by simp))
  have hk := HI.out.2.later hb4
  have c0 := hk.cell 0 _ rfl
  have c1 := hk.cell 1 _ rfl
  have g0 := hk.free 0
  have g1 := hk.free 1
  have lt5 := hk.lt
  have HBW := Lib.hid (HI.out.1.trans (hb4.mono HI.out.1.size))
  have HBS := Lib.hid (show w.heap.size ≤ B from Nat.le_of_eq HSB.out)
  have HS3 := Lib.hid (HI.out.1.trans (hb4.mono HI.out.1.size)).size
  clear hk hb2 hb3 hb4 HI
  go_wp2
  (try simp only [Exit.inBlock, Exit.then])
  refine bodyPost_ret (v := .tuple #[.agg ckZ, .bool false]) ?plr rfl ⟨rfl, ?plb⟩
  case plr => rw [results_cell_tmp1 rfl]; simp [go_sem, c0, c1, g0, g1, lt5]
  case plb => exact ((HBW.out.setCell (p := ⟨B, 0, none⟩) HBS.out _).setCell (p := ⟨B, 1, none⟩) HBS.out _).alloc (by have := HS3.out; simpa using this) _
set_option maxHeartbeats 8000000 in
theorem ckpair_yes (n ds : List UInt8) (hn : isTok n = true) (hd : ds.all qdg = true) (hl : n.length + ds.length ≤ 4096) (m : Int) (w : World) (hm : w.cell? ⟨4, 0, none⟩ = some (.int .i64 m)) (hg : SgAt w) :
    Calls Tryz.prog 140 #[.string ⟨(32 :: ckL n ds).toArray⟩] w fun e w' => e = .returned (.tuple #[.agg #[.string ⟨n.toArray⟩, .string ⟨ds.toArray⟩], .bool true]) ∧ Below w.heap.size w w' := by
  have hn2 : n.all isSg = true := by unfold isTok at hn; rw [Bool.and_eq_true] at hn; exact hn.2
  obtain ⟨B, hB⟩ : ∃ B, w.heap.size = B := ⟨_, rfl⟩
  obtain ⟨W0, hW0⟩ : ∃ W, w.alloc (.cells ckZ 128) = W := ⟨_, rfl⟩
  have hb0 : Below w.heap.size w W0 := by rw [← hW0]; exact ck_below _ _
  have hk0 : BlkIs W0 B ckZ 128 := by rw [← hW0, ← hB]; exact blkIs_new _ _ _
  have hc := ck_cut_yes n ds hn2 hl m W0 (ck_cell hm hb0)
  have ht1 := fun W => cktrim ⟨(32 :: n).toArray⟩ W (by rw [size_mk, List.length_cons]; omega)
  rw [show (⟨(32 :: n).toArray⟩ : ByteArray).data.toList = 32 :: n from rfl, trim_sp n (fun d hdm => (sg_no d (List.all_eq_true.1 hn2 d hdm)).2.2)] at ht1
  have ht2 := fun W => cktrim ⟨ds.toArray⟩ W (by rw [size_mk]; omega)
  rw [show (⟨ds.toArray⟩ : ByteArray).data.toList = ds from rfl, trim_free ds (fun d hdm => (dg_no d (List.all_eq_true.1 hd d hdm)).2)] at ht2
  have hr := fun (W : World) (h : Below w.heap.size w W) => ckright_any ⟨n.toArray⟩ ⟨ds.toArray⟩ W hn (by rw [size_mk, size_mk]; exact hl) hd (hg.below h)
  have HW0 := Lib.hid hW0; have HC := Lib.hid hc; have HT1 := Lib.hid ht1; have HT2 := Lib.hid ht2; have HI := Lib.hid (And.intro hb0 hk0); have HSB := Lib.hid hB; have HRT := Lib.hid hr
  clear hW0 hb0 hk0 hc ht1 ht2 hm hr hn hd hl hn2 hg
  go_enter Tryz.func140, Tryz.ntmps140
  go_upto_region 1 with fail
  rw [HW0.out]
  go_wp2_with fail
  refine (HC.out).mono ?_
  rintro e w1 ⟨rfl, k, rfl⟩
  go_wp2_with fail
  refine (HT1.out _).mono ?_
  rintro e w2 ⟨rfl, hb2⟩
  go_wp2_with fail
  refine (HT2.out _).mono ?_
  rintro e w3 ⟨rfl, hb3⟩
  have hb4 : Below W0.heap.size W0 w3 := (below_drewN (Below.refl _ W0) k).trans ((hb2.trans (hb3.mono hb2.size)).mono (by simp))
  have hk := HI.out.2.later hb4
  have c0 := hk.cell 0 _ rfl
  have c1 := hk.cell 1 _ rfl
  have g0 := hk.free 0
  have g1 := hk.free 1
  have lt5 := hk.lt
  have hbw := HI.out.1.trans (hb4.mono HI.out.1.size)
  have HBW := Lib.hid hbw
  have HBS := Lib.hid (show w.heap.size ≤ B from Nat.le_of_eq HSB.out)
  have HS3 := Lib.hid hbw.size
  have HR3 := Lib.hid (fun o => HRT.out (w3.alloc o) (hbw.alloc hbw.size o))
  clear hk hb2 hb3 hb4 HI hbw
  go_wp2_with fail
  refine (HR3.out _).mono ?_
  rintro e w4 ⟨rfl, rfl⟩
  go_wp2
  (try simp only [Exit.inBlock, Exit.then])
  refine bodyPost_ret (v := .tuple #[.agg #[.string ⟨n.toArray⟩, .string ⟨ds.toArray⟩], .bool true]) ?plr rfl ⟨rfl, ?plb⟩
  case plr => rw [results_cell_tmp1 rfl]; simp [go_sem, c0, c1, g0, g1, lt5]
  case plb => exact ((HBW.out.setCell (p := ⟨B, 0, none⟩) HBS.out _).setCell (p := ⟨B, 1, none⟩) HBS.out _).alloc (by have := HS3.out; simpa using this) _
end Go.Proofs.YtdlpbpikhmciaaaGreatDoor
