/- Reg, RegH, HdR: texts of the seat, one behind the other (a claim holds at most sixty). Conditions: each theorem names its own. -/
import Derived.Test.YtdlpbpikhmciaaaGreatDoorPk00
import Derived.RegionTactic
import Derived.Deep.AppendLies
import Derived.OrdersHeld
import Derived.Test.YtdlpbpikhmciaaaGreatDoorPk03
import Derived.Test.YtdlpbpikhmciaaaGreatDoorPk04
import Derived.Test.YtdlpbpikhmciaaaGreatDoorPk05
import Derived.Shelf.Strings.BuilderK
namespace Go.Proofs.YtdlpbpikhmciaaaGreatDoor
open Go.RowKit
set_option linter.unusedSimpArgs false
set_option linter.unusedVariables false

def txCheck (ops : Array Oper) : List (Nat × Bool) → Array Bool → Bool
  | [], L => Region.ready .any ops L == []
  | (i, true) :: r, L => Region.free .any ops L i && (Region.ready .any ops L).contains i && txCheck ops r (L.setIfInBounds i true)
  | (i, false) :: r, L => Region.ready .any ops L == [i] && txCheck ops r (L.setIfInBounds i true)

def wpTx (P : Program) (ops : Array Oper) (Q : Exit → Act → World → Prop) : List (Nat × Bool) → Act → World → Prop
  | [], a, w => Q .normal a w
  | (i, true) :: r, a, w => ∃ o v, ops[i]? = some o ∧ Yields P ops o v a ∧ wpTx P ops Q r (a.put o.dst v) w
  | (i, false) :: r, a, w => ∃ o, ops[i]? = some o ∧ ∀ K : Act → World → Prop, (∀ a w, wpTx P ops Q r a w → K a w) → if Region.wanted o (yielded ops a.tmps) = true then Oper.wp P o a w K Q else K (a.put o.dst undef) w

theorem wpTx_sound {P : Program} {ops : Array Oper} {Q : Exit → Act → World → Prop} (hs : Region.noSelect ops = true)
    (hQ : ∀ c d v a w, Q (.panic c) (Act.put a d v) w → Q (.panic c) a w) :
    ∀ (l : List (Nat × Bool)) (L : Array Bool) (a : Act) (w : World), txCheck ops l L = true → wpTx P ops Q l a w → wpAny P .any ops Q l.length L a w := by
  intro l
  induction l with
  | nil =>
    intro L a w hc h
    exact wpAny_done (by simpa [txCheck] using hc) h 0
  | cons x r ih =>
    intro L a w hc h
    obtain ⟨i, b⟩ := x
    cases b with
    | true =>
      obtain ⟨o, v, ho, hy, h⟩ := h
      simp only [txCheck, Bool.and_eq_true] at hc
      exact wpAny_take ho hs hc.1.1 hc.1.2 (fun c a w => hQ c _ _ a w) hy (ih _ _ _ hc.2 h)
    | false =>
      obtain ⟨o, ho, h⟩ := h
      simp only [txCheck, Bool.and_eq_true, beq_iff_eq] at hc
      exact wpAny_ready hc.1 (by simp) (AllReady.cons ho (fun K hK => h K (fun a w h' => hK a w (ih _ _ _ hc.2 h'))) AllReady.nil)

/-- Q, but False at a panic. -/
def offPanic (Q : Exit → Act → World → Prop) : Exit → Act → World → Prop
  | .panic _, _, _ => False
  | e, a, w => Q e a w
/-- A REGION THAT DRAWS, IN ONE ORDER: 'true': the operation yields in whatever world and is taken first; 'false': no other one may come up. -/
theorem wp_region_text {P : Program} {id : Nat} {ops : Array Oper} {Q : Exit → Act → World → Prop} {a : Act} {w : World} (l : List (Nat × Bool)) (hm : P.follows .mixedOrders = true) (hs : Region.noSelect ops = true) (hl : l.length = ops.size) (hc : txCheck ops l (Array.replicate ops.size false) = true)
    (h : wpTx P ops (offPanic Q) l a w.drew) : (Code.region id ops true).wp P Q a w := by
  refine Code.wp_mono (Q := offPanic Q) (fun e a w h => ?_) (wp_region_any hm ?_)
  · cases e <;> first | exact h | exact (h : False).elim
  · have := wpTx_sound (P := P) (Q := offPanic Q) hs (fun _ _ _ _ _ h => h) l _ a w.drew hc h
    rw [hl] at this
    exact this
theorem wpTx_take {P : Program} {ops : Array Oper} {Q : Exit → Act → World → Prop} {i : Nat} {o : Oper} {r : List (Nat × Bool)} {a : Act} {w : World} {v : Value} (ho : ops[i]? = some o) (hw : Region.wanted o (yielded ops a.tmps) = true)
    (hv : ∀ w, (execOp a.eval o).run P w = .ok (.value v) w) (h : wpTx P ops Q r (a.put o.dst v) w) : wpTx P ops Q ((i, true) :: r) a w := ⟨o, v, ho, .inl ⟨hw, hv⟩, h⟩
theorem wpTx_pass {P : Program} {ops : Array Oper} {Q : Exit → Act → World → Prop} {i : Nat} {o : Oper} {r : List (Nat × Bool)} {a : Act} {w : World} (ho : ops[i]? = some o) (hw : Region.wanted o (yielded ops a.tmps) = false)
    (h : wpTx P ops Q r (a.put o.dst undef) w) : wpTx P ops Q ((i, true) :: r) a w := ⟨o, undef, ho, .inr ⟨hw, rfl⟩, h⟩
theorem wpTx_step {P : Program} {ops : Array Oper} {Q : Exit → Act → World → Prop} {i : Nat} {o : Oper} {r : List (Nat × Bool)} {a : Act} {w : World} (ho : ops[i]? = some o)
    (h : ∀ K : Act → World → Prop, (∀ a w, wpTx P ops Q r a w → K a w) → if Region.wanted o (yielded ops a.tmps) = true then Oper.wp P o a w K Q else K (a.put o.dst undef) w) : wpTx P ops Q ((i, false) :: r) a w := ⟨o, ho, h⟩
theorem wpTx_nil {P : Program} {ops : Array Oper} {Q : Exit → Act → World → Prop} {a : Act} {w : World} (h : Q .normal a w) : wpTx P ops (offPanic Q) [] a w := h

/-- append onto a row of the call's own, as one step of a region that draws. -/
theorem step_append_own {P : Program} {ops : Array Oper} {o : Oper} {a : Act} {w : World} {K : Act → World → Prop} {Q : Exit → Act → World → Prop} {E : Prop} (hgd : o.guard = none) (s x : Operand) (t : TypeId)
    (ho : o.op = .call { callee := .builtin .append, args := #[s, x], argTypes := #[t, t] })
    (base : Nat) (e : TypeId) (i : TypeInfo) (z : Value) (size bytes : Nat) (ht : P.underlying t = some (.slice e)) (hi : P.info? e = some i) (hz : i.zero = some z)
    (hsize : i.size = size) (hby : i.bytes = bytes) (hzs : z.cells.size = size) (hsz : 0 < size)
    (v : Value) (n : Nat) (xs : List Value) (hs : a.eval s = v) (hown : w.ownsRow base e size v n xs)
    (ad : Addr) (m c : Nat) (news : List Value) (hx : a.eval x = .slice (some ad) m c) (hl : news.length = m * size) (hnews : ∀ j u, news[j]? = some u → w.cell? (ad.add j) = some u) (h1 : ∀ u ∈ news, u.oneCell' = true)
    (h63 : n + m ≤ maxLen) (hbytes : (n + m) * bytes ≤ 140737488355328) (hbase : base ≤ w.heap.size)
    (h : ∀ v' w', w'.ownsRow base e size v' (n + m) (xs ++ news) → w.grownBy w' v.ownBlock → K (a.put o.dst v') w') :
    if Region.wanted o (yielded ops a.tmps) = true then Oper.wp P o a w K Q else E := by
  have hw : Region.wanted o (yielded ops a.tmps) = true := by simp [Region.wanted, hgd]
  rw [if_pos hw]
  exact wp_append_own w s x t ho base e i z size bytes ht hi hz hsize hby hzs hsz v n xs hs hown ad m c news hx hl hnews h1 h63 hbytes hbase fun v' w' h2 h3 _ => h v' w' h2 h3
end Go.Proofs.YtdlpbpikhmciaaaGreatDoor
namespace Go.Proofs.YtdlpbpikhmciaaaGreatDoor
open Go.RowKit
set_option linter.unusedSimpArgs false
set_option linter.unusedVariables false
def wpTxH (P : Program) (ops : Array Oper) (S : World → Prop) (Q : Exit → Act → World → Prop) : List (Nat × Bool) → Act → World → Prop
  | [], a, w => Q .normal a w
  | (i, true) :: r, a, w => ∃ o v, ops[i]? = some o ∧ YieldsIf P ops S o v a ∧ wpTxH P ops S Q r (a.put o.dst v) w
  | (i, false) :: r, a, w => ∃ o, ops[i]? = some o ∧ ∀ K : Act → World → Prop, (∀ a w, S w → wpTxH P ops S Q r a w → K a w) → if Region.wanted o (yielded ops a.tmps) = true then Oper.wp P o a w K Q else K (a.put o.dst undef) w
theorem wpTxH_sound {P : Program} {ops : Array Oper} {S : World → Prop} {Q : Exit → Act → World → Prop} (hs : Region.noSelect ops = true)
    (hQ : ∀ c d v a w, Q (.panic c) (Act.put a d v) w → Q (.panic c) a w) :
    ∀ (l : List (Nat × Bool)) (L : Array Bool) (a : Act) (w : World), S w → txCheck ops l L = true → wpTxH P ops S Q l a w → wpAnyH P .any ops Q S l.length L a w := by
  intro l
  induction l with
  | nil =>
    intro L a w _ hc h
    exact wpAnyH_done (by simpa [txCheck] using hc) h 0
  | cons x r ih =>
    intro L a w hS hc h
    obtain ⟨i, b⟩ := x
    cases b with
    | true =>
      obtain ⟨o, v, ho, hy, h⟩ := h
      simp only [txCheck, Bool.and_eq_true] at hc
      exact wpAnyH_take ho hs hc.1.1 hc.1.2 (fun c a w => hQ c _ _ a w) hy hS (ih _ _ _ hS hc.2 h)
    | false =>
      obtain ⟨o, ho, h⟩ := h
      simp only [txCheck, Bool.and_eq_true, beq_iff_eq] at hc
      refine wpAnyH_all hc.1 (by simp) (fun j hj => ?_)
      obtain rfl : j = i := by simpa using hj
      exact wpOp_step ho (fun K hK => h K (fun a w hS' h' => hK a w ⟨hS', ih _ _ _ hS' hc.2 h'⟩))
theorem wp_region_textH {P : Program} {id : Nat} {ops : Array Oper} {Q : Exit → Act → World → Prop} {a : Act} {w : World} (S : World → Prop) (l : List (Nat × Bool)) (hm : P.follows .mixedOrders = true) (hs : Region.noSelect ops = true) (hl : l.length = ops.size) (hc : txCheck ops l (Array.replicate ops.size false) = true)
    (hS : S w.drew) (h : wpTxH P ops S (offPanic Q) l a w.drew) : (Code.region id ops true).wp P Q a w := by
  refine Code.wp_mono (Q := offPanic Q) (fun e a w h => ?_) (wp_region_held (S := S) hm ?_)
  · cases e <;> first | exact h | exact (h : False).elim
  · have := wpTxH_sound (P := P) (Q := offPanic Q) hs (fun _ _ _ _ _ h => h) l _ a w.drew hS hc h
    rw [hl] at this
    exact this
theorem wpTxH_take {P : Program} {ops : Array Oper} {S : World → Prop} {Q : Exit → Act → World → Prop} {i : Nat} {o : Oper} {r : List (Nat × Bool)} {a : Act} {w : World} {v : Value} (ho : ops[i]? = some o) (hw : Region.wanted o (yielded ops a.tmps) = true)
    (hv : ∀ w, S w → (execOp a.eval o).run P w = .ok (.value v) w) (h : wpTxH P ops S Q r (a.put o.dst v) w) : wpTxH P ops S Q ((i, true) :: r) a w := ⟨o, v, ho, .inl ⟨hw, hv⟩, h⟩
theorem wpTxH_step {P : Program} {ops : Array Oper} {S : World → Prop} {Q : Exit → Act → World → Prop} {i : Nat} {o : Oper} {r : List (Nat × Bool)} {a : Act} {w : World} (ho : ops[i]? = some o)
    (h : ∀ K : Act → World → Prop, (∀ a w, S w → wpTxH P ops S Q r a w → K a w) → if Region.wanted o (yielded ops a.tmps) = true then Oper.wp P o a w K Q else K (a.put o.dst undef) w) : wpTxH P ops S Q ((i, false) :: r) a w := ⟨o, ho, h⟩
theorem wpTxH_nil {P : Program} {ops : Array Oper} {S : World → Prop} {Q : Exit → Act → World → Prop} {a : Act} {w : World} (h : Q .normal a w) : wpTxH P ops S (offPanic Q) [] a w := h
end Go.Proofs.YtdlpbpikhmciaaaGreatDoor
namespace Go.Proofs.YtdlpbpikhmciaaaGreatDoor
open Go.RowKit Go.Shelf
set_option linter.unusedSimpArgs false
set_option linter.unusedVariables false
set_option maxRecDepth 1000000
theorem ext_list (s : ByteArray) (a b : Nat) : (s.extract a b).data.toList = seg s.data.toList a b := by
  rw [ext_mk]; simp [seg]
theorem ext_seg (s : ByteArray) (a b : Nat) : s.extract a b = ⟨(seg s.data.toList a b).toArray⟩ := ext_mk s a b
theorem ext_size (s : ByteArray) (a b : Nat) (h : b ≤ s.size) : (s.extract a b).size ≤ s.size := by
  rw [← size_list, ext_list]
  unfold seg
  rw [List.length_take, List.length_drop, size_list]
  omega
theorem toL (s : ByteArray) : s.toList = s.data.toList := ByteArray.toList_eq s
theorem bldStr (B b : Nat) (l : List UInt8) (w : World) (h : Lib.IsBuilder 83 5 B b (Lib.byteCells l) w) (hB : B ≤ w.heap.size) :
    Calls Tryz.prog 35 #[.pointer (some ⟨b, 0, none⟩)] w fun e w' => e = .returned (.string ⟨l.toArray⟩) ∧ Below B w w' ∧ Lib.OthersKept 5 (some b) w w' :=
  (Any.Builder_String_any_k Tryz.lays169 Tryz.Builder_Extra_169 B b l w (Lib.IsBuilderF.of h) hB).mono fun e w' ⟨he, _, h1, h2⟩ => ⟨he, h1, h2⟩
theorem pos20 (pos n : Nat) (h : pos ≤ n) (hn : n ≤ 1048576) : pos * 1048577 ≤ 1099512676352 := by
  have := Nat.mul_le_mul_right 1048577 (Nat.le_trans h hn)
  omega
theorem bd_open (a k pos n : Nat) (h : a + k ≤ pos * 1048577) (hp : pos ≤ n) (hn : n ≤ 1048576) : a + k ≤ 140737488355328 := by have := pos20 pos n hp hn; omega
theorem bd_shut (a k pos n : Nat) (h : a ≤ pos * 1048577) (hk : k ≤ 1048576) (hp : pos ≤ n) (hn : n ≤ 1048576) : a + k ≤ 140737488355328 := by have := pos20 pos n hp hn; omega
/-- What stands at a round's head. -/
def RfW (w : World) (b it : Nat) (s : ByteArray) (ps : List Par) (fv av : Int) (pos : Nat) (wr : World) : Prop :=
  ∃ acc, RfR ps s.data.toList fv av pos acc ∧ Lib.IsBuilder 83 5 b b (Lib.byteCells acc) wr ∧ wr.heap[it]? = some (.stringIter s pos) ∧ Below w.heap.size w wr
set_option maxHeartbeats 8000000 in
theorem orefer_any (s : ByteArray) (v : Value) (ps : List Par) (w : World) (hs : s.size ≤ 1048576) (hN : totP ps + ps.length ≤ 1048576) (h : ParsIn w v ps) :
    Calls Tryz.prog 12 #[.string s, v] w fun e w' => e = .returned (.tuple #[.string ⟨(rfT ps s.data.toList).1.toArray⟩, .int .i64 ((rfT ps s.data.toList).2 : Nat)]) ∧ Below w.heap.size w w' := by
  by_cases h0 : s.size = 0
  · have hT := rfT_bad ps s.data.toList (refR_empty ps _ (by rw [list_nil_o s h0]; rfl))
    have HT := Lib.hid hT
    obtain rfl := emp_o s h0
    clear hT h0
    go_enter Tryz.func12, Tryz.ntmps12
    go_wp2
    go_ret2
    rw [HT.out]
    exact ⟨rfl, Below.refl _ _⟩
  · have hemp : s.data.toList.isEmpty = false := by rw [← toL]; exact full_o s (by omega)
    have f1 : s.toList.isEmpty = false := full_o s (by omega)
    have f2 : ¬ s.toList = [] := full_o2 s (by omega)
    have htr := otrim_any s w (by omega)
    obtain ⟨t, ht⟩ : ∃ t : ByteArray, ⟨(trimL s.data.toList).toArray⟩ = t := ⟨_, rfl⟩
    rw [ht] at htr
    have hTL : t.toList = trimL s.data.toList := by rw [← ht, toL]
    have HTR := Lib.hid htr
    clear htr
    by_cases hT : (trimL s.data.toList == s.data.toList) = true
    case neg =>
      have hTf : (trimL s.data.toList == s.data.toList) = false := by simpa using hT
      have HR := Lib.hid (rfT_bad ps _ (refR_notrim ps _ hTf))
      have e1 : (t.toList == s.toList) = false := by rw [hTL, toL]; exact hTf
      clear hT hTf hTL ht
      go_enter Tryz.func12, Tryz.ntmps12
      go_wp2_with fail
      refine (HTR.out).mono ?_
      rintro e w1 ⟨rfl, hb1⟩
      have HB := Lib.hid hb1
      clear hb1
      go_wp2
      go_ret2
      rw [HR.out]
      exact ⟨rfl, HB.out⟩
    have e1 : (t.toList == s.toList) = true := by rw [hTL, toL]; exact hT
    cases hF : isFld s.data.toList with
    | false =>
      have HR := Lib.hid (rfT_bad ps _ (refR_nofld ps _ hF))
      have HF := Lib.hid hF
      clear hT hTL ht hF
      go_enter Tryz.func12, Tryz.ntmps12
      go_wp2_with fail
      refine (HTR.out).mono ?_
      rintro e w1 ⟨rfl, hb1⟩
      have HB := Lib.hid hb1
      clear hb1
      go_wp2_with fail
      refine (oisfield_any s _ (by omega)).mono ?_
      rintro e w2 ⟨rfl, rfl⟩
      rw [HF.out]
      go_wp2
      go_ret2
      rw [HR.out]
      exact ⟨rfl, HB.out⟩
    | true =>
    have HGO := Lib.hid (refR_go ps _ hemp hF hT)
    have HF := Lib.hid hF
    have HP := Lib.hid h
    have HVL := Lib.hid (show ∀ n, (valL ps n).length ≤ 1048576 from fun n => by have := valL_len n ps; omega)
    clear hT hTL ht hF hemp h
    go_enter Tryz.func12, Tryz.ntmps12
    go_wp2_with fail
    refine (HTR.out).mono ?_
    rintro e w1 ⟨rfl, hb1⟩
    have HB := Lib.hid hb1
    clear hb1 HTR
    go_wp2_with fail
    refine (oisfield_any s _ (by omega)).mono ?_
    rintro e w2 ⟨rfl, rfl⟩
    rw [HF.out]
    clear HF
    obtain ⟨b, hb⟩ : ∃ b, w2.heap.size = b := ⟨_, rfl⟩
    obtain ⟨it, hit⟩ : ∃ it, b + 1 = it := ⟨_, rfl⟩
    obtain ⟨W0, hW0⟩ : ∃ W0, (w2.alloc (.cells #[.pointer none, .slice none 0 0] 83)).iter s 0 = W0 := ⟨_, rfl⟩
    have hst : RfW w b it s ps (-1) 0 0 W0 := by
      have hb2 : Below w.heap.size w ((w2.alloc (.cells #[.pointer none, .slice none 0 0] 83)).iter s 0) := (HB.out.alloc HB.out.size _).alloc (by have := HB.out.size; simp; omega) _
      have hI := World.iter_heap (w2.alloc (.cells #[.pointer none, .slice none 0 0] 83)) s 0
      rw [World.size_alloc, hb, hit] at hI
      have hB := Lib.fresh_isBuilder 83 5 w2
      rw [hb] at hB
      rw [← hW0]
      exact ⟨[], rfr_start ps _, bld_laterK hB ((Below.refl _ _).alloc (Nat.le_refl _) _), hI, hb2⟩
    have HST := Lib.hid hst; have HW0 := Lib.hid hW0; have HBI := Lib.hid (And.intro hb hit)
    clear hst hW0
    go_wp2
    rw [HW0.out]
    go_loopw [7, 8] (fun fv av wr => ∃ (f a : Int) (pos : Nat), fv = .int .i64 f ∧ av = .int .i64 a ∧ pos ≤ s.size ∧ RfW w b it s ps f a pos wr) (fun _ _ wr => s.size - wr.iterPos it)
    case atStart => exact ⟨-1, 0, 0, rfl, rfl, Nat.zero_le _, HST.out⟩
    case round =>
      obtain ⟨f, a, pos, rfl, rfl, hpos, acc, hR, hB, hI, hbw⟩ := hrel
      clear HST HW0
      have hbs : b ≤ wr.heap.size := by
        rcases hB with h | h
        · exact Nat.le_of_lt h.lt
        · exact Nat.le_of_lt h.lt
      have hbit : w.heap.size ≤ b := by rw [← HBI.out.1]; exact HB.out.size
      by_cases hp : pos < s.size
      case neg =>
        obtain rfl : pos = s.size := by omega
        have hnx : ∀ ty, (Instr.next (.pointer (some ⟨it, 0, none⟩)) true ty).run Tryz.prog wr = .ok (.tuple #[.bool false]) wr := fun ty => Lib.run_next_end_at wr it s s.size ty hI (Nat.lt_irrefl _)
        rcases rfr_cases _ _ _ _ _ _ hR with rfl | ⟨fN, rfl⟩
        · obtain ⟨aN, rfl, ha1, ha2, ha3⟩ := rfr_end ps _ _ _ _ hR (size_list s).symm
          have HX := Lib.hid (rfT_good ps _ _ (HGO.out.trans ha3))
          have HBW := Lib.hid hbw; have HBB := Lib.hid (And.intro hB hbs)
          have q0 : (0 : Int) ≤ (aN : Int) := Int.natCast_nonneg _
          have q1 : (aN : Int) ≤ (s.size : Int) := by omega
          have bd := bd_open _ _ _ _ ha2 (Nat.le_refl _) hs
          have nof : ¬ 9223372036854775807 < acc.length + (s.size - aN) := by omega
          have hts : List.take (s.size - aN) (List.drop aN s.data.toList) = List.drop aN s.data.toList := List.take_of_length_le (by rw [List.length_drop, size_list]; exact Nat.le_refl _)
          have HC := Lib.hid (show (⟨acc.toArray⟩ : ByteArray) ++ s.extract aN s.size = ⟨(acc ++ s.data.toList.drop aN).toArray⟩ by rw [ext_back]; exact ba_ext (by simp))
          clear hR hB hI hbw ha3 ha2
          go_upto_region 19 with fail
          refine wp_region_text [(1, true), (2, true), (3, true), (0, false), (4, true), (5, true), (6, true)] (by kernel_rfl) (by kernel_rfl) (by kernel_rfl) (by kernel_rfl) ?_
          iterate 3 (refine wpTx_take rfl (by rfl) (v := ?_) ?_ ?_; rotate_left; · (intro w; go_simp; with_reducible rfl))
          refine wpTx_step rfl (fun K hK => ?_)
          go_simp
          refine (bldStr b b acc _ (bld_laterK HBB.out.1 ((Below.refl _ wr).drew)) HBB.out.2).mono ?_
          rintro e w5 ⟨rfl, hb5, _⟩
          refine hK _ _ ?_
          clear hK K
          have HB5 := Lib.hid (HBW.out.trans (((Below.refl _ wr).drew.trans hb5).mono hbit))
          clear hb5
          iterate 3 (refine wpTx_take rfl (by rfl) (v := ?_) ?_ ?_; rotate_left; · (intro w; go_simp; with_reducible rfl))
          refine wpTx_nil ?_
          go_simp
          go_wp2
          go_ret2
          rw [HX.out]
          refine ⟨?_, HB5.out⟩
          show Ending.returned (.tuple #[.string (⟨acc.toArray⟩ ++ s.extract aN s.size), .int .i64 0]) = _
          rw [HC.out]
          rfl
        · have HX := Lib.hid (rfT_bad ps _ (HGO.out.trans (rfr_endbad ps _ _ _ _ _ hR (size_list s).symm)))
          have HBW := Lib.hid hbw
          have q0 : (0 : Int) ≤ (fN : Int) := Int.natCast_nonneg _
          clear hR hB hI hbw
          go_wp2
          go_ret2
          rw [HX.out]
          exact ⟨rfl, HBW.out⟩
      obtain ⟨c, hc⟩ : ∃ c, s[pos]'hp = c := ⟨_, rfl⟩
      have hget := list_get s pos hp
      rw [hc] at hget
      obtain ⟨x, hx⟩ : ∃ x, c.toNat = x := ⟨_, rfl⟩
      by_cases hlow : x < 128
      case neg =>
        obtain ⟨r, hr⟩ : ∃ r, (Utf8.decode s pos).1 = r := ⟨_, rfl⟩
        obtain ⟨n, hn⟩ : ∃ n, (Utf8.decode s pos).2 = n := ⟨_, rfl⟩
        obtain ⟨ra, ra1, ra2, ra3, ra4, ra5, ra6, ra7⟩ := rune_high s pos hp (by rw [hc, hx]; omega)
        rw [hn] at ra1 ra3 ra4 ra5 ra7
        rw [hr] at ra6
        have hR4 := rfr_high ps _ _ _ _ _ _ _ hR ra1 ra7 ra3 ra2
        obtain ⟨W4, hW4⟩ : ∃ W, wr.iterAt it s (pos + n) = W := ⟨_, rfl⟩
        have hnx : ∀ ty, (Instr.next (.pointer (some ⟨it, 0, none⟩)) true ty).run Tryz.prog wr = .ok (.tuple #[.bool true, .int .i64 pos, .int .i32 r]) W4 := fun ty => by
          rw [Lib.run_next_any_at wr it s pos ty hI hp, hr, hn, hW4]
        have hB4 : Lib.IsBuilder 83 5 b b (Lib.byteCells acc) W4 := by rw [← hW4]; exact bld_iterAt hB hI _
        have hI4 : W4.heap[it]? = some (.stringIter s (pos + n)) := by rw [← hW4]; exact Lib.iterAt_heap _ _ _ _ _ hI
        have hb4 : Below w.heap.size w W4 := by rw [← hW4]; exact Lib.below_iterAt hbw (by have := HBI.out.2; omega) _ _
        have hm0 : wr.iterPos it = pos := by simp [World.iterPos, hI]
        have hm4 : W4.iterPos it = pos + n := by simp [World.iterPos, hI4]
        have H4 := Lib.hid (show RfW w b it s ps f a (pos + n) W4 from ⟨acc, hR4, hB4, hI4, hb4⟩)
        have HM := Lib.hid (And.intro hm0 (And.intro hm4 (And.intro ra4 ra5)))
        have i1 : ((r : Int) == 123) = false := by simp; omega
        have i2 : ((r : Int) == 125) = false := by simp; omega
        clear hW4 hB4 hI4 hb4 hm0 hm4 hx hget hc hB hI hbw hbs hR hR4 ra1 ra2 ra3 ra4 ra5 ra6 ra7 hr hn hlow hpos
        go_wp2
        go_roundw
        case rel => exact ⟨f, a, pos + n, rfl, rfl, HM.out.2.2.1, H4.out⟩
        case measure => rw [HM.out.1, HM.out.2.1]; have := HM.out.2.2; omega
      obtain ⟨W4, hW4⟩ : ∃ W, wr.iterAt it s (pos + 1) = W := ⟨_, rfl⟩
      have hnx : ∀ ty, (Instr.next (.pointer (some ⟨it, 0, none⟩)) true ty).run Tryz.prog wr = .ok (.tuple #[.bool true, .int .i64 pos, .int .i32 x]) W4 := fun ty => by
        rw [Lib.run_next_ascii_at wr it s pos ty hI hp (by rw [hc, hx]; exact hlow), hc, hx, hW4]
      have hB4 : Lib.IsBuilder 83 5 b b (Lib.byteCells acc) W4 := by rw [← hW4]; exact bld_iterAt hB hI _
      have hI4 : W4.heap[it]? = some (.stringIter s (pos + 1)) := by rw [← hW4]; exact Lib.iterAt_heap _ _ _ _ _ hI
      have hb4 : Below w.heap.size w W4 := by rw [← hW4]; exact Lib.below_iterAt hbw (by have := HBI.out.2; omega) _ _
      have hs4 : b ≤ W4.heap.size := by rw [← hW4, Lib.iterAt_size]; exact hbs
      have hm0 : wr.iterPos it = pos := by simp [World.iterPos, hI]
      have H4 := Lib.hid (And.intro hB4 (And.intro hI4 (And.intro hb4 hs4)))
      have HM0 := Lib.hid hm0; have HXC := Lib.hid (And.intro hx hget)
      clear hW4 hB4 hI4 hb4 hs4 hm0 hx hget hc hB hI hbw hbs
      by_cases h123 : x = 123
      · have i1 : ((x : Int) == 123) = true := by subst h123; rfl
        have i2 : ((x : Int) == 125) = false := by subst h123; rfl
        rcases rfr_cases _ _ _ _ _ _ hR with rfl | ⟨fN, rfl⟩
        · obtain ⟨aN, rfl, ha1, ha2, hR5⟩ := rfr_open ps _ _ _ _ c hR HXC.out.2 (by rw [HXC.out.1]; exact h123) (by rw [size_list]; exact hpos)
          have q0 : (0 : Int) ≤ (aN : Int) := Int.natCast_nonneg _
          have q1 : (aN : Int) ≤ (pos : Int) := by omega
          have q2 : (pos : Int) ≤ (s.size : Int) := by omega
          have bd := bd_open _ _ _ _ ha2 hpos hs
          have hwi := w64o pos (by omega)
          have HR5 := Lib.hid (And.intro hR5 (And.intro hwi bd))
          clear hR hR5 hwi bd ha2 h123
          go_wp2_with fail
          refine (writeString_k b b acc (s.extract aN pos) W4 H4.out.1 (by rw [← size_list, ext_list, seg_len _ _ _ (by rw [size_list]; exact hpos) ha1]; exact HR5.out.2.2) H4.out.2.2.2).mono ?_
          rintro e w5 ⟨rfl, hB5, hb5, hk5⟩
          rw [ext_list] at hB5
          have hI5 := hk5.iter H4.out.2.1 (by have := HBI.out.2; omega)
          have hm5 : w5.iterPos it = pos + 1 := by simp [World.iterPos, hI5]
          have HX := Lib.hid (show RfW w b it s ps ((pos + 1 : Nat) : Int) (aN : Int) (pos + 1) w5 from ⟨_, HR5.out.1, hB5, hI5, H4.out.2.2.1.trans (hb5.mono hbit)⟩)
          have HM5 := Lib.hid hm5
          clear hB5 hb5 hk5 hI5 hm5
          go_wp2
          have hwi := HR5.out.2.1
          go_roundw
          case rel => (try rw [hwi]); clear hwi; exact ⟨_, _, pos + 1, by go_num, rfl, hp, HX.out⟩
          case measure => (try rw [hwi]); clear hwi; rw [HM0.out, HM5.out]; omega
        · have HX := Lib.hid (rfT_bad ps _ (HGO.out.trans (rfr_openbad ps _ _ _ _ _ c hR HXC.out.2 (by rw [HXC.out.1]; exact h123))))
          have q0 : (0 : Int) ≤ (fN : Int) := Int.natCast_nonneg _
          clear hR h123
          go_wp2
          go_ret2
          rw [HX.out]
          exact ⟨rfl, H4.out.2.2.1⟩
      have i1 : ((x : Int) == 123) = false := by simp; omega
      by_cases h125 : x = 125
      · have i2 : ((x : Int) == 125) = true := by subst h125; rfl
        rcases rfr_cases _ _ _ _ _ _ hR with rfl | ⟨fN, rfl⟩
        · have HX := Lib.hid (rfT_bad ps _ (HGO.out.trans (rfr_stray ps _ _ _ _ c hR HXC.out.2 (by rw [HXC.out.1]; exact h125))))
          clear hR h125 h123
          go_wp2
          go_ret2
          rw [HX.out]
          exact ⟨rfl, H4.out.2.2.1⟩
        · have hfp := rfr_le ps _ _ _ _ _ hR
          have q0 : (0 : Int) ≤ (fN : Int) := Int.natCast_nonneg _
          have q1 : (fN : Int) ≤ (pos : Int) := by omega
          have q2 : (pos : Int) ≤ (s.size : Int) := by omega
          have hnm := fun W => oisname_any (s.extract fN pos) W (by have := ext_size s fN pos hpos; omega)
          rw [ext_list] at hnm
          cases hN2 : isNm (seg s.data.toList fN pos) with
          | false =>
            have HX := Lib.hid (rfT_bad ps _ (HGO.out.trans (rfr_badname ps _ _ _ _ _ c hR HXC.out.2 (by rw [HXC.out.1]; exact h125) hN2)))
            rw [hN2] at hnm
            have HNM := Lib.hid hnm
            clear hR h125 h123 hnm hN2 hfp
            go_wp2_with fail
            refine (HNM.out _).mono ?_
            rintro e w5 ⟨rfl, hb5⟩
            have HB5 := Lib.hid (H4.out.2.2.1.trans (hb5.mono H4.out.2.2.1.size))
            clear hb5
            go_wp2
            go_ret2
            rw [HX.out]
            exact ⟨rfl, HB5.out⟩
          | true =>
            obtain ⟨hal, hR5⟩ := rfr_shut ps _ _ _ _ _ c hR HXC.out.2 (by rw [HXC.out.1]; exact h125) hN2 (HVL.out _)
            rw [hN2] at hnm
            have hwi := w64o pos (by omega)
            have bd := bd_shut _ _ _ _ hal (HVL.out (seg s.data.toList fN pos)) hpos hs
            have HNM := Lib.hid hnm; have HR5 := Lib.hid (And.intro hR5 (And.intro hwi bd))
            clear hR h125 h123 hnm hN2 hfp hal hR5 hwi bd
            go_wp2_with fail
            refine (HNM.out _).mono ?_
            rintro e w5 ⟨rfl, hb5⟩
            have H5 := Lib.hid (show Lib.IsBuilder 83 5 b b (Lib.byteCells acc) w5 ∧ w5.heap[it]? = some (.stringIter s (pos + 1)) ∧ Below w.heap.size w w5 ∧ b ≤ w5.heap.size from ⟨bld_laterK H4.out.1 hb5, heap_laterK H4.out.2.1 hb5, H4.out.2.2.1.trans (hb5.mono H4.out.2.2.1.size), Nat.le_trans H4.out.2.2.2 hb5.size⟩)
            clear hb5
            have hpv := oparam_any v ps (seg s.data.toList fN pos) w5 (by omega) (HP.out.below H5.out.2.2.1)
            rw [← ext_seg] at hpv
            have HPV := Lib.hid hpv
            clear hpv
            go_wp2_with fail
            refine (HPV.out).mono ?_
            rintro e w6 ⟨rfl, hb6⟩
            have H6 := Lib.hid (show Lib.IsBuilder 83 5 b b (Lib.byteCells acc) w6 ∧ w6.heap[it]? = some (.stringIter s (pos + 1)) ∧ Below w.heap.size w w6 ∧ b ≤ w6.heap.size from ⟨bld_laterK H5.out.1 hb6, heap_laterK H5.out.2.1 hb6, H5.out.2.2.1.trans (hb6.mono H5.out.2.2.1.size), Nat.le_trans H5.out.2.2.2 hb6.size⟩)
            clear hb6
            go_wp2_with fail
            refine (writeString_k b b acc (⟨(valL ps (seg s.data.toList fN pos)).toArray⟩ : ByteArray) w6 H6.out.1 (by rw [size_mk]; exact HR5.out.2.2) H6.out.2.2.2).mono ?_
            rintro e w7 ⟨rfl, hB7, hb7, hk7⟩
            rw [show (⟨(valL ps (seg s.data.toList fN pos)).toArray⟩ : ByteArray).data.toList = valL ps (seg s.data.toList fN pos) by simp] at hB7
            have hI7 := hk7.iter H6.out.2.1 (by have := HBI.out.2; omega)
            have hm7 : w7.iterPos it = pos + 1 := by simp [World.iterPos, hI7]
            have HX := Lib.hid (show RfW w b it s ps (-1) ((pos + 1 : Nat) : Int) (pos + 1) w7 from ⟨_, HR5.out.1, hB7, hI7, H6.out.2.2.1.trans (hb7.mono hbit)⟩)
            have HM7 := Lib.hid hm7
            clear hB7 hb7 hk7 hI7 hm7
            go_wp2
            have hwi := HR5.out.2.1
            go_roundw
            case rel => (try rw [hwi]); clear hwi; exact ⟨_, _, pos + 1, rfl, by go_num, hp, HX.out⟩
            case measure => (try rw [hwi]); clear hwi; rw [HM0.out, HM7.out]; omega
      · have i2 : ((x : Int) == 125) = false := by simp; omega
        have hR5 := rfr_text ps _ _ _ _ _ c hR HXC.out.2 (by rw [HXC.out.1]; exact h125) (by rw [HXC.out.1]; exact h123)
        have hm4 : W4.iterPos it = pos + 1 := by have := H4.out.2.1; simp [World.iterPos, this]
        have HX := Lib.hid (show RfW w b it s ps f a (pos + 1) W4 from ⟨acc, hR5, H4.out.1, H4.out.2.1, H4.out.2.2.1⟩)
        have HM4 := Lib.hid hm4
        clear hR hR5 h125 h123 hm4
        go_wp2
        go_roundw
        case rel => exact ⟨f, a, pos + 1, rfl, rfl, hp, HX.out⟩
        case measure => rw [HM0.out, HM4.out]; omega
end Go.Proofs.YtdlpbpikhmciaaaGreatDoor
