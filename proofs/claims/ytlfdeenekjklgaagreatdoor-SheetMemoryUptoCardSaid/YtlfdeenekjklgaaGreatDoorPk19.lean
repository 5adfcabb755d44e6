/- As, Prs, LaidSg, BryP, Dig: texts of the seat, one behind the other (a claim holds at most sixty). Conditions: each theorem names its own. -/
import Derived.Test.YtlfdeenekjklgaaGreatDoorPk11
import Derived.WalkKit
import Derived.LaidEql
import Derived.Stop.Asserts
import Derived.RowKitTokens
import Derived.Test.YtlfdeenekjklgaaGreatDoorPa18
import Derived.Test.YtlfdeenekjklgaaGreatDoorPk06
import Derived.Test.YtlfdeenekjklgaaGreatDoorRows
import Derived.Test.YtlfdeenekjklgaaGreatDoorPk03
import Derived.Lib.LaidTab
import Derived.Lib.ItoaNum
import Derived.Lib.IndexLaws
import Derived.Test.YtlfdeenekjklgaaGreatDoorPk17
import Derived.Lib.ItoaMem
import Derived.Lib.AppendIntMem
namespace Go.Proofs.YtlfdeenekjklgaaGreatDoor
open Go.RowKit Go.Extern.Stop Go.Stop Go.Extern
set_option linter.unusedSimpArgs false
set_option linter.unusedVariables false
set_option maxRecDepth 1000000
abbrev rtOf (t : Nat) : Value := .pointer (some ⟨8, t, none⟩)
theorem as_nil (t : Value) (w : World) : Calls Tryz.prog 25 #[.nilIface, t] w fun e w' => e = .returned (.bool false) ∧ w' = w := by
  go_enter Tryz.func25, Tryz.ntmps25
  go_wp2
  go_ret
  exact ⟨rfl, rfl⟩
theorem as_valueOfP (t : Addr) (w : World) : (ReflectliteValue.unpack (.iface 73 (.pointer (some t)))).run Tryz.prog w
    = .ok (.agg #[.pointer (some ⟨8, 73, none⟩), .pointer (some ⟨w.heap.size, 0, none⟩), .int .u64 150]) (w.alloc (.cells #[.pointer (some t)] 73)) := by kernel_rfl
theorem as_typeP (a : Addr) (w : World) : (ReflectliteValue.methodAny (ReflectliteValue.valueError "reflectlite.Value.Type" 0) (fun t _ _ _ => ReflectliteType.toType t) #[.agg #[.pointer (some ⟨8, 73, none⟩), .pointer (some a), .int .u64 150]]).run Tryz.prog w
    = .ok (.iface 147 (.agg #[.pointer (some ⟨8, 73, none⟩)])) w := by kernel_rfl
theorem as_mKind (h : Value) (w : World) : (Go.method 337 147 (.agg #[h]) "Kind").run Tryz.prog w = .ok (171, h) w := by kernel_rfl
theorem as_kindP (w : World) : ((ReflectliteType.abiMethod fun t => (fun a : Nat => Value.int IntKind.u8 (a : Int)) <$> Rtype.kind t) #[.pointer (some ⟨8, 73, none⟩)]).run Tryz.prog w = .ok (.int .u8 22) w := by kernel_rfl
theorem as_kindF (w : World) : ((ReflectliteType.abiMethod fun t => (fun a : Nat => Value.int IntKind.u8 (a : Int)) <$> Rtype.kind t) #[.pointer (some ⟨8, 68, none⟩)]).run Tryz.prog w = .ok (.int .u8 25) w := by kernel_rfl
theorem rlm (z : Sem Value) (f : TypeId → Addr → Nat → Nat → Sem Value) (v : Value) :
    ReflectliteValue.method z f #[v] = (do match ← ReflectliteValue.parts v with | none => z | some (t, a, fl) => f t a fl (fl % 32)) := rfl
theorem as_partsP (a : Addr) (w : World) : (ReflectliteValue.parts (.agg #[.pointer (some ⟨8, 73, none⟩), .pointer (some a), .int .u64 150])).run Tryz.prog w = .ok (some (73, a, 150)) w := by kernel_rfl
theorem as_isNil (a p : Addr) (W : World) (ha : W.cell? a = some (.pointer (some p))) :
    (ReflectliteValue.method (ReflectliteValue.valueError "reflectlite.Value.IsNil" 0) ReflectliteValue.isNil #[.agg #[.pointer (some ⟨8, 73, none⟩), .pointer (some a), .int .u64 150]]).run Tryz.prog W = .ok (.bool false) W := by
  rw [rlm]
  simp only [Sem.run_bind, as_partsP, Result.andThen]
  simp [ReflectliteValue.isNil, loadVar, isAgg, underlying, Tryz.underlying73, ha, Result.andThen]
theorem as_mElem (h : Value) (w : World) : (Go.method 337 147 (.agg #[h]) "Elem").run Tryz.prog w = .ok (183, .agg #[h]) w := by kernel_rfl
theorem as_mImpl (h : Value) (w : World) : (Go.method 337 147 (.agg #[h]) "Implements").run Tryz.prog w = .ok (184, .agg #[h]) w := by kernel_rfl
theorem as_mAssign (h : Value) (w : World) : (Go.method 337 147 (.agg #[h]) "AssignableTo").run Tryz.prog w = .ok (181, .agg #[h]) w := by kernel_rfl
theorem as_elemP (w : World) : (ReflectliteType.method ReflectliteType.elem #[.agg #[.pointer (some ⟨8, 73, none⟩)]]).run Tryz.prog w = .ok (.iface 147 (.agg #[.pointer (some ⟨8, 68, none⟩)])) w := by kernel_rfl
theorem as_impl (w : World) : (ReflectliteType.relation "Implements" ReflectliteType.implements_ #[.agg #[.pointer (some ⟨8, 68, none⟩)], .iface 147 (.agg #[.pointer (some ⟨8, 71, none⟩)])]).run Tryz.prog w = .ok (.bool true) w := by kernel_rfl
theorem as_typeOf (v : Value) (w : World) : (ReflectliteType.typeOf #[.iface 68 v]).run Tryz.prog w = .ok (.iface 147 (.agg #[.pointer (some ⟨8, 68, none⟩)])) w := by kernel_rfl
theorem as_assign (w : World) : (ReflectliteType.relation "AssignableTo" ReflectliteType.assignableTo #[.agg #[.pointer (some ⟨8, 68, none⟩)], .iface 147 (.agg #[.pointer (some ⟨8, 68, none⟩)])]).run Tryz.prog w = .ok (.bool true) w := by kernel_rfl
theorem as_valueOfF (c q : Int) (w : World) : (ReflectliteValue.unpack (.iface 68 (.agg #[.int .i64 c, .int .i64 q]))).run Tryz.prog w
    = .ok (.agg #[.pointer (some ⟨8, 68, none⟩), .pointer (some ⟨w.heap.size, 0, none⟩), .int .u64 153]) (w.alloc (.cells #[.int .i64 c, .int .i64 q] 68)) := by kernel_rfl
theorem as_elemOf (w : World) : (Rtype.elem? 73).run Tryz.prog w = .ok (some 68) w := by kernel_rfl
theorem as_mk (p : Addr) (w : World) : (ReflectliteValue.mk 68 p ReflectliteValue.flagAddr).run Tryz.prog w = .ok (.agg #[.pointer (some ⟨8, 68, none⟩), .pointer (some p), .int .u64 409]) w := by kernel_rfl
theorem as_elemV (a p : Addr) (W : World) (ha : W.cell? a = some (.pointer (some p))) :
    (ReflectliteValue.method (ReflectliteValue.valueError "reflectlite.Value.Elem" 0) ReflectliteValue.elem #[.agg #[.pointer (some ⟨8, 73, none⟩), .pointer (some a), .int .u64 150]]).run Tryz.prog W
      = .ok (.agg #[.pointer (some ⟨8, 68, none⟩), .pointer (some p), .int .u64 409]) W := by
  rw [rlm]
  simp only [Sem.run_bind, as_partsP, Result.andThen]
  simp [ReflectliteValue.elem, loadVar, isAgg, underlying, Tryz.underlying73, ha, Result.andThen, as_elemOf, as_mk]
theorem rls (v x : Value) : ∃ (s1 s2 s3 s4 s5 : String), ReflectliteValue.set #[v, x] = (do
    let (some (dst, a, fl), some (src, b, _)) := (← ReflectliteValue.parts v, ← ReflectliteValue.parts x)
      | unsupported (.noEntry s1)
    if fl / ReflectliteValue.flagAddr % 2 == 0 then unsupported (.noEntry s2)
    let val ← loadVar src b
    if ← Rtype.directlyAssignable dst src then storeVar dst a val
    else if ← Rtype.implements dst src then
      if (← Rtype.kind src) == 20 then
        match val with
        | .nilIface => unsupported (.noEntry s3)
        | _ => storeVar dst a val
      else storeVar dst a (.iface src val)
    else panicString (s4 ++ (← Rtype.spelt src) ++ s5 ++ (← Rtype.spelt dst))
    pure (.tuple #[])) := ⟨_, _, _, _, _, rfl⟩
theorem as_partsA (a : Addr) (w : World) : (ReflectliteValue.parts (.agg #[.pointer (some ⟨8, 68, none⟩), .pointer (some a), .int .u64 409])).run Tryz.prog w = .ok (some (68, a, 409)) w := by kernel_rfl
theorem as_partsF (a : Addr) (w : World) : (ReflectliteValue.parts (.agg #[.pointer (some ⟨8, 68, none⟩), .pointer (some a), .int .u64 153])).run Tryz.prog w = .ok (some (68, a, 153)) w := by kernel_rfl
theorem as_direct (w : World) : (Rtype.directlyAssignable 68 68).run Tryz.prog w = .ok true w := by kernel_rfl
theorem as_size (w : World) : (sizeOf 68).run Tryz.prog w = .ok 2 w := by kernel_rfl
theorem as_load (b : Nat) (c q : Int) (W : World) (h0 : W.cell? ⟨b, 0, none⟩ = some (.int .i64 c)) (h1 : W.cell? ⟨b, 1, none⟩ = some (.int .i64 q)) : (loadVar 68 ⟨b, 0, none⟩).run Tryz.prog W = .ok (.agg #[.int .i64 c, .int .i64 q]) W := by
  simp [loadVar, isAgg, underlying, Tryz.underlying68, as_size, loadCells, loadCellsFrom, Addr.add, h0, h1, Result.andThen]
theorem as_set (ta b : Nat) (c q : Int) (o0 o1 : Value) (W : World) (hb0 : W.cell? ⟨b, 0, none⟩ = some (.int .i64 c)) (hb1 : W.cell? ⟨b, 1, none⟩ = some (.int .i64 q)) (ht0 : W.cell? ⟨ta, 0, none⟩ = some o0) (ht1 : W.cell? ⟨ta, 1, none⟩ = some o1) (hf0 : W.frozen? ⟨ta, 0, none⟩ = false) (hf1 : W.frozen? ⟨ta, 1, none⟩ = false) :
    (ReflectliteValue.set #[.agg #[.pointer (some ⟨8, 68, none⟩), .pointer (some ⟨ta, 0, none⟩), .int .u64 409], .agg #[.pointer (some ⟨8, 68, none⟩), .pointer (some ⟨b, 0, none⟩), .int .u64 153]]).run Tryz.prog W
      = .ok (.tuple #[]) ((W.setCell ⟨ta, 0, none⟩ (.int .i64 c)).setCell ⟨ta, 1, none⟩ (.int .i64 q)) := by
  obtain ⟨s1, s2, s3, s4, s5, hset⟩ := rls (.agg #[.pointer (some ⟨8, 68, none⟩), .pointer (some ⟨ta, 0, none⟩), .int .u64 409]) (.agg #[.pointer (some ⟨8, 68, none⟩), .pointer (some ⟨b, 0, none⟩), .int .u64 153])
  rw [hset]
  simp only [Sem.run_bind, as_partsA, as_partsF, Result.andThen]
  simp [ReflectliteValue.flagAddr, as_load b c q W hb0 hb1, Result.andThen, as_direct, storeVar, Value.cells, storeCells, Addr.add]
  rw [run_store Tryz.prog W ⟨ta, 0, none⟩ _ _ (by rfl)]
  simp [ht0, ht1, hf0, hf1]
  have hx : (W.setCell ⟨ta, 0, none⟩ (.int .i64 c)).cell? ⟨ta, 1, none⟩ = some o1 := (World.cell?_setCell_other W ⟨ta, 0, none⟩ ⟨ta, 1, none⟩ _ (by simp)).trans ht1
  rw [run_store Tryz.prog _ ⟨ta, 1, none⟩ _ _ (by rfl)]
  simp [hx, hf1]
set_option maxHeartbeats 4000000 in
theorem as_hit (c q : Int) (t : Nat) (o0 o1 : Value) (w : World) (hg : w.cell? ⟨0, 0, none⟩ = some (.iface 147 (.agg #[.pointer (some ⟨8, 71, none⟩)]))) (ht0 : w.cell? ⟨t, 0, none⟩ = some o0) (ht1 : w.cell? ⟨t, 1, none⟩ = some o1) (hf0 : w.frozen? ⟨t, 0, none⟩ = false) (hf1 : w.frozen? ⟨t, 1, none⟩ = false) :
    Calls Tryz.prog 25 #[.iface 68 (.agg #[.int .i64 c, .int .i64 q]), .iface 73 (.pointer (some ⟨t, 0, none⟩))] w fun ev w' => ev = .returned (.bool true) ∧ w' = (((((w.alloc (.cells #[.pointer (some ⟨t, 0, none⟩)] 73)).alloc (.cells #[.pointer (some ⟨8, 73, none⟩), .pointer (some ⟨w.heap.size, 0, none⟩), .int .u64 150] 113)).alloc (.cells #[.pointer (some ⟨8, 73, none⟩), .pointer (some ⟨w.heap.size, 0, none⟩), .int .u64 150] 113)).alloc (.cells #[.int .i64 c, .int .i64 q] 68)).setCell ⟨t, 0, none⟩ (.int .i64 c)).setCell ⟨t, 1, none⟩ (.int .i64 q) := by
  have h6 := @run_callFunc_extern Tryz.prog 57 _ (fun args => ReflectliteValue.unpack (args.getD 0 (.tuple #[]))) Tryz.func57 (by kernel_rfl) (by kernel_rfl) (by kernel_rfl) (by kernel_rfl)
  have h7 := @run_callFunc_extern Tryz.prog 58 _ (ReflectliteValue.methodAny (ReflectliteValue.valueError "reflectlite.Value.Type" 0) (fun t _ _ _ => ReflectliteType.toType t)) Tryz.func58 (by kernel_rfl) (by kernel_rfl) (by kernel_rfl) (by kernel_rfl)
  have h8 := @run_callFunc_extern Tryz.prog 59 _ (ReflectliteValue.method (ReflectliteValue.valueError "reflectlite.Value.IsNil" 0) ReflectliteValue.isNil) Tryz.func59 (by kernel_rfl) (by kernel_rfl) (by kernel_rfl) (by kernel_rfl)
  have h27 := @run_callFunc_extern Tryz.prog 171 _ (ReflectliteType.abiMethod fun t => do pure (.int .u8 (← Rtype.kind t))) Tryz.func171 (by kernel_rfl) (by kernel_rfl) (by kernel_rfl) (by kernel_rfl)
  have h37 := @run_callFunc_extern Tryz.prog 183 _ (ReflectliteType.method ReflectliteType.elem) Tryz.func183 (by kernel_rfl) (by kernel_rfl) (by kernel_rfl) (by kernel_rfl)
  have h38 := @run_callFunc_extern Tryz.prog 184 _ (ReflectliteType.relation "Implements" ReflectliteType.implements_) Tryz.func184 (by kernel_rfl) (by kernel_rfl) (by kernel_rfl) (by kernel_rfl)
  have h10 := @run_callFunc_extern Tryz.prog 96 _ ReflectliteType.typeOf Tryz.func96 (by kernel_rfl) (by kernel_rfl) (by kernel_rfl) (by kernel_rfl)
  have h35 := @run_callFunc_extern Tryz.prog 181 _ (ReflectliteType.relation "AssignableTo" ReflectliteType.assignableTo) Tryz.func181 (by kernel_rfl) (by kernel_rfl) (by kernel_rfl) (by kernel_rfl)
  have h11 := @run_callFunc_extern Tryz.prog 97 _ (ReflectliteValue.method (ReflectliteValue.valueError "reflectlite.Value.Elem" 0) ReflectliteValue.elem) Tryz.func97 (by kernel_rfl) (by kernel_rfl) (by kernel_rfl) (by kernel_rfl)
  have h12 := @run_callFunc_extern Tryz.prog 98 _ ReflectliteValue.set Tryz.func98 (by kernel_rfl) (by kernel_rfl) (by kernel_rfl) (by kernel_rfl)
  have tO := as_typeOf
  have mA := as_mAssign
  have a25 := as_assign
  have v25 := as_valueOfF
  have f6 := as_valueOfP
  have f7 := as_typeP
  have mK := as_mKind
  have mE := as_mElem
  have mI := as_mImpl
  have k27 := as_kindP
  have k25 := as_kindF
  have e27 := as_elemP
  have i25 := as_impl
  have n8 := as_isNil ⟨w.heap.size, 0, none⟩ ⟨t, 0, none⟩ ((w.alloc (.cells #[.pointer (some ⟨t, 0, none⟩)] 73)).alloc (.cells #[.pointer (some ⟨8, 73, none⟩), .pointer (some ⟨w.heap.size, 0, none⟩), .int .u64 150] 113)) (by simp)
  have hlt : 0 < w.heap.size := by
    rcases Nat.lt_or_ge 0 w.heap.size with h | h
    · exact h
    · simp [World.cell?, Array.getElem?_eq_none h] at hg
  have hg2 : ((w.alloc (.cells #[.pointer (some ⟨t, 0, none⟩)] 73)).alloc (.cells #[.pointer (some ⟨8, 73, none⟩), .pointer (some ⟨w.heap.size, 0, none⟩), .int .u64 150] 113)).cell? ⟨0, 0, none⟩ = some (.iface 147 (.agg #[.pointer (some ⟨8, 71, none⟩)])) := by
    rw [World.cell?_alloc_lt _ _ ⟨0, 0, none⟩ (by simp), World.cell?_alloc_lt _ _ ⟨0, 0, none⟩ hlt]; exact hg
  have htl : t < w.heap.size := by
    rcases Nat.lt_or_ge t w.heap.size with h | h
    · exact h
    · simp [World.cell?, Array.getElem?_eq_none h] at ht0
  have el := as_elemV ⟨w.heap.size, 0, none⟩ ⟨t, 0, none⟩ (((w.alloc (.cells #[.pointer (some ⟨t, 0, none⟩)] 73)).alloc (.cells #[.pointer (some ⟨8, 73, none⟩), .pointer (some ⟨w.heap.size, 0, none⟩), .int .u64 150] 113)).alloc (.cells #[.pointer (some ⟨8, 73, none⟩), .pointer (some ⟨w.heap.size, 0, none⟩), .int .u64 150] 113)) (by rw [World.cell?_alloc_lt _ _ ⟨w.heap.size, 0, none⟩ (by simp; omega)]; simp)
  have st := as_set t (w.heap.size + 1 + 1 + 1) c q o0 o1 ((((w.alloc (.cells #[.pointer (some ⟨t, 0, none⟩)] 73)).alloc (.cells #[.pointer (some ⟨8, 73, none⟩), .pointer (some ⟨w.heap.size, 0, none⟩), .int .u64 150] 113)).alloc (.cells #[.pointer (some ⟨8, 73, none⟩), .pointer (some ⟨w.heap.size, 0, none⟩), .int .u64 150] 113)).alloc (.cells #[.int .i64 c, .int .i64 q] 68))
    (by rw [World.cell?_alloc_at _ _ _ _ (by simp)]; rfl)
    (by rw [World.cell?_alloc_at _ _ _ _ (by simp)]; rfl)
    (by rw [World.cell?_alloc_lt _ _ ⟨t, 0, none⟩ (by simp; omega), World.cell?_alloc_lt _ _ ⟨t, 0, none⟩ (by simp; omega), World.cell?_alloc_lt _ _ ⟨t, 0, none⟩ (by simp; omega), World.cell?_alloc_lt _ _ ⟨t, 0, none⟩ htl]; exact ht0)
    (by rw [World.cell?_alloc_lt _ _ ⟨t, 1, none⟩ (by simp; omega), World.cell?_alloc_lt _ _ ⟨t, 1, none⟩ (by simp; omega), World.cell?_alloc_lt _ _ ⟨t, 1, none⟩ (by simp; omega), World.cell?_alloc_lt _ _ ⟨t, 1, none⟩ htl]; exact ht1)
    (by rw [World.frozen?_alloc_old _ _ ⟨t, 0, none⟩ (by simp; omega), World.frozen?_alloc_old _ _ ⟨t, 0, none⟩ (by simp; omega), World.frozen?_alloc_old _ _ ⟨t, 0, none⟩ (by simp; omega), World.frozen?_alloc_old _ _ ⟨t, 0, none⟩ (Nat.ne_of_lt htl)]; exact hf0)
    (by rw [World.frozen?_alloc_old _ _ ⟨t, 1, none⟩ (by simp; omega), World.frozen?_alloc_old _ _ ⟨t, 1, none⟩ (by simp; omega), World.frozen?_alloc_old _ _ ⟨t, 1, none⟩ (by simp; omega), World.frozen?_alloc_old _ _ ⟨t, 1, none⟩ (Nat.ne_of_lt htl)]; exact hf1)
  go_enter Tryz.func25, Tryz.ntmps25
  go_wp2
  refine wp_loop_rounds 1 ?_
  rw [rounds_succ]
  go_wp2
  go_ret
  exact ⟨rfl, rfl⟩
end Go.Proofs.YtlfdeenekjklgaaGreatDoor
namespace Go.Proofs.YtlfdeenekjklgaaGreatDoor
open Go.RowKit Go.Shelf
set_option linter.unusedSimpArgs false
set_option linter.unusedVariables false
set_option maxRecDepth 1000000
/-- errors.errorType holds error's type. -/
def ErrAt (w : World) : Prop := w.cell? ⟨0, 0, none⟩ = some (.iface 147 (.agg #[.pointer (some ⟨8, 71, none⟩)]))
theorem ErrAt.later {w w' : World} (h : ErrAt w) (hb : Below w.heap.size w w') : ErrAt w' := mx_later (B := 0) h hb
/-- What Parse answers: the parts in a row of its own, a place, a number. -/
def PsPost (R : PsRes) (w : World) (e : Ending) (w' : World) : Prop :=
  ∃ v, e = .returned (.tuple #[v, .int .i64 (R.2.1 : Nat), .int .i64 (R.2.2 : Nat)]) ∧ w'.ownsRow w.heap.size 34 5 v R.1.length (prtsV R.1) ∧ Below w.heap.size w w'
theorem own_down {w : World} {b b' size n : Nat} {T : TypeId} {v : Value} {xs : List Value} (h : w.ownsRow b T size v n xs) (hb : b' ≤ b) : w.ownsRow b' T size v n xs := by
  refine ⟨h.1, ?_⟩
  rcases h.2 with h0 | ⟨g, cap, cur, e, hg, rest⟩
  · exact .inl h0
  · exact .inr ⟨g, cap, cur, e, Nat.le_trans hb hg, rest⟩
theorem al4 (w : World) (o1 o2 o3 o4 : Obj) : Below w.heap.size w ((((w.alloc o1).alloc o2).alloc o3).alloc o4) := by
  iterate 4 (refine Below.alloc ?_ (by first | exact Nat.le_refl _ | (simp only [World.size_alloc]; omega)) _)
  exact Below.refl _ w
theorem isMrk_len (l : List UInt8) (h : isMrk l = true) : l.length ≤ 70 := by
  unfold isMrk at h
  simp only [Bool.and_eq_true, decide_eq_true_eq] at h
  omega
set_option maxHeartbeats 8000000 in
theorem sparse_any (bd s : List UInt8) (most : Int) (m : Int) (w : World) (hbd : bd.length ≤ 1099511627776) (hs : s.length ≤ 2147483648) (hm : w.cell? ⟨2, 0, none⟩ = some (.int .i64 m)) (hg : SgAt w) (hE : ErrAt w) :
    Calls Tryz.prog 8 #[.string ⟨bd.toArray⟩, .string ⟨s.toArray⟩, .int .i64 most] w (PsPost (psR bd s most) w) := by
  have hib := isbound_any ⟨bd.toArray⟩ w (by rw [size_mk]; exact hbd)
  rw [show (⟨bd.toArray⟩ : ByteArray).data.toList = bd from rfl] at hib
  have HIB := Lib.hid hib
  have hkn := psR_known bd s most
  have hR : psR bd s most = if isMrk bd = false then ([], 0, 151) else if most < 1 then ([], 0, 1) else alF (s.length + 2) (45 :: 45 :: bd) s most [] (fst9 (45 :: 45 :: bd) s 0) := rfl
  obtain ⟨R, hRR⟩ : ∃ R, psR bd s most = R := ⟨_, rfl⟩
  rw [hRR] at hkn hR ⊢
  have HKN := Lib.hid hkn
  have HR := Lib.hid hR
  have HM := Lib.hid (And.intro hm (And.intro hg (And.intro hE hs)))
  clear hib hkn hR hRR hm hg hE hs hbd
  obtain ⟨ib, hib⟩ : ∃ ib, isMrk bd = ib := ⟨_, rfl⟩
  rw [hib] at HIB HR
  cases ib with
  | false =>
    have HR2 := Lib.hid (HR.out.trans (if_pos rfl))
    go_enter Tryz.func8, Tryz.ntmps8
    go_wp2_with fail
    refine HIB.out.mono ?_
    rintro e w1 ⟨rfl, rfl⟩
    go_wp2
    go_ret3
    rw [HR2.out]
    exact ⟨_, rfl, World.ownsRow_nil _ _ _ _, Below.refl _ _⟩
  | true =>
    have HR2 := Lib.hid (HR.out.trans (if_neg (by simp)))
    by_cases hmo : most < 1
    · have b0 : decide (most < 1) = true := decide_eq_true hmo
      have HR3 := Lib.hid (HR2.out.trans (if_pos hmo))
      have HMO := Lib.hid hmo
      clear HR HR2 hmo
      go_enter Tryz.func8, Tryz.ntmps8
      go_wp2_with fail
      refine HIB.out.mono ?_
      rintro e w1 ⟨rfl, rfl⟩
      go_wp2
      go_ret3
      rw [HR3.out]
      exact ⟨_, rfl, World.ownsRow_nil _ _ _ _, Below.refl _ _⟩
    · have b0 : decide (most < 1) = false := decide_eq_false hmo
      have HR3 := Lib.hid (HR2.out.trans (if_neg hmo))
      have hl := isMrk_len bd hib
      have HMO := Lib.hid hmo
      have e1 : (⟨#[45, 45]⟩ : ByteArray) ++ ⟨bd.toArray⟩ = ⟨(45 :: 45 :: bd).toArray⟩ := ba_ext (by simp)
      have l1 : ¬ 9223372036854775807 < bd.length + 2 := by omega
      have l2 : ¬ 9223372036854775807 < 2 + bd.length := by omega
      obtain ⟨mk, hmk⟩ : ∃ mk, 45 :: 45 :: bd = mk := ⟨_, rfl⟩
      have hkl : mk.length ≤ 4096 := by rw [← hmk]; simp only [List.length_cons]; omega
      have hR3 := HR3.out
      rw [hmk] at e1 hR3
      have HR4 := Lib.hid hR3; have HKL := Lib.hid hkl
      obtain ⟨r, hr⟩ : ∃ r, w.heap.size = r := ⟨_, rfl⟩
      obtain ⟨t, ht⟩ : ∃ t, r + 1 = t := ⟨_, rfl⟩
      obtain ⟨w2, hw2⟩ : ∃ w2, (w.alloc (.cells #[.string ⟨s.toArray⟩, .string ⟨mk.toArray⟩, .int .i64 most, .slice none 0 0] 66)).alloc (.cells #[.int .i64 0, .int .i64 0] 68) = w2 := ⟨_, rfl⟩
      have HHR := Lib.hid hr; have HT := Lib.hid ht; have HW2 := Lib.hid hw2
      clear HR HR2 HR3 hR3 hmo hl hmk hkl hr ht hw2 hib
      go_enter Tryz.func8, Tryz.ntmps8
      go_wp2_with fail
      refine HIB.out.mono ?_
      rintro e w1 ⟨rfl, rfl⟩
      go_upto_region 7 with fail
      simp only [HHR.out, HT.out, HW2.out]
      have hrd : RdAt w2 r s mk most (.slice none 0 0) := by
        rw [← HW2.out, ← HHR.out]
        exact BlkIs.alloc (blkIs_new w1 _ _) _
      have hft : BlkIs w2 t #[.int .i64 0, .int .i64 0] 68 := by
        rw [← HW2.out, ← HT.out, ← HHR.out, ← World.size_alloc w1 (.cells #[.string ⟨s.toArray⟩, .string ⟨mk.toArray⟩, .int .i64 most, .slice none 0 0] 66)]
        exact blkIs_new _ _ _
      have hb2 : Below w1.heap.size w1 w2 := by
        rw [← HW2.out]
        exact ((Below.refl _ w1).alloc (Nat.le_refl _) _).alloc (by rw [World.size_alloc]; omega) _
      have hall := rdall_any r s mk most m w2 hrd HM.out.2.2.2 HKL.out (mx_later (B := 0) HM.out.1 hb2) (HM.out.2.1.below hb2)
      have hrt : r ≠ t := by have := HT.out; omega
      rw [← HR4.out] at hall
      have HALL := Lib.hid hall
      have H2 := Lib.hid (And.intro hft (And.intro hb2 hrt))
      clear hall hrd hft hb2 hrt HIB HW2
      go_wp2_with fail
      refine HALL.out.mono ?_
      rintro e w3 ⟨rfl, hg3, hl3⟩
      have hft3 : BlkIs w3 t #[.int .i64 0, .int .i64 0] 68 := BlkIs.grown H2.out.1 hg3 (fun e => by injection e with e; exact H2.out.2.2 e)
      have hb3 : Below w1.heap.size w1 w3 := H2.out.2.1.grown hg3 H2.out.2.1.size (fun k e => by injection e with e; rw [HHR.out]; omega)
      obtain ⟨l, a, c⟩ := R
      simp only at hl3 ⊢
      by_cases hc : c = 0
      · subst hc
        obtain ⟨lv, hR3, hO3⟩ := hl3 rfl
        have hk := HKN.out
        have hat : a = 0 := by
          rcases hk with hk | hk
          · exact absurd rfl hk.1
          · exact hk.2.1
        subst hat
        obtain ⟨av, cv, rfl⟩ := own_slice hO3
        have c3 := hR3.cell 3 _ rfl
        have HF := Lib.hid (And.intro (own_down hO3 H2.out.2.1.size) hb3)
        have hn := as_nil (.iface 73 (.pointer (some ⟨t, 0, none⟩))) w3
        have HNI := Lib.hid hn
        clear hl3 hR3 hO3 hb3 hft3 hg3 hk hn HALL H2
        rw [show hdErr 0 0 = .nilIface from rfl]
        go_wp2_with fail
        refine HNI.out.mono ?_
        rintro e w4 ⟨rfl, rfl⟩
        go_wp2
        go_ret3
        exact ⟨_, rfl, HF.out.1, HF.out.2⟩
      · have hk := HKN.out
        have hln : l = [] := by
          rcases hk with hk | hk
          · exact hk.2
          · exact absurd hk.1 hc
        subst hln
        have hx := as_hit (c : Nat) (a : Nat) t _ _ w3 ((HM.out.2.2.1).later hb3) (hft3.cell 0 _ rfl) (hft3.cell 1 _ rfl) (hft3.free 0) (hft3.free 1)
        have HX := Lib.hid hx
        rw [hdErr_ne a c hc]
        clear hl3 hk hx HALL hg3
        go_wp2_with fail
        refine HX.out.mono ?_
        rintro e w4 ⟨rfl, hw4⟩
        have hb35 := al4 w3 (.cells #[.pointer (some ⟨t, 0, none⟩)] 73) (.cells #[.pointer (some ⟨8, 73, none⟩), .pointer (some ⟨w3.heap.size, 0, none⟩), .int .u64 150] 113) (.cells #[.pointer (some ⟨8, 73, none⟩), .pointer (some ⟨w3.heap.size, 0, none⟩), .int .u64 150] 113) (.cells #[.int .i64 c, .int .i64 a] 68)
        obtain ⟨w5, hw5⟩ : ∃ w5, (((w3.alloc (.cells #[.pointer (some ⟨t, 0, none⟩)] 73)).alloc (.cells #[.pointer (some ⟨8, 73, none⟩), .pointer (some ⟨w3.heap.size, 0, none⟩), .int .u64 150] 113)).alloc (.cells #[.pointer (some ⟨8, 73, none⟩), .pointer (some ⟨w3.heap.size, 0, none⟩), .int .u64 150] 113)).alloc (.cells #[.int .i64 c, .int .i64 a] 68) = w5 := ⟨_, rfl⟩
        rw [hw5] at hb35 hw4
        have hf5 := BlkIs.later hft3 hb35
        have hf4 : BlkIs w4 t #[.int .i64 (c : Nat), .int .i64 (a : Nat)] 68 := by rw [hw4]; exact BlkIs.set (BlkIs.set hf5 0 _) 1 _
        have hb5 := hb3.trans (hb35.mono hb3.size)
        have hb4 : Below w1.heap.size w1 w4 := by
          rw [hw4]
          exact (hb5.setCell (by show w1.heap.size ≤ t; rw [HHR.out]; have := HT.out; omega) _).setCell (by show w1.heap.size ≤ t; rw [HHR.out]; have := HT.out; omega) _
        have c0 := hf4.cell 0 _ rfl
        have c1 := hf4.cell 1 _ rfl
        have HB4 := Lib.hid hb4
        clear hw4 hw5 hb35 hf5 hf4 hb5 hb4 hb3 hft3 HX H2
        go_upto_region 8 with fail
        go_quiet (fail)
        go_wp2
        go_ret3
        exact ⟨_, rfl, World.ownsRow_nil _ _ _ _, HB4.out.trans ((below_drewN (Below.refl _ w4) nq).mono HB4.out.size)⟩
end Go.Proofs.YtlfdeenekjklgaaGreatDoor
namespace Go.Proofs.YtlfdeenekjklgaaGreatDoor
open Go.RowKit
set_option linter.unusedSimpArgs false
set_option linter.unusedVariables false
theorem laid_at {P : Program} {w : World} : ∀ (l : List (String × DataW Unit)) (ps : List MemPlace), DataW.LaidVars P w l ps → ∀ n d, (n, d) ∈ l → ∃ g t cs fuel p, P.globalNamed n = some g ∧ (P.globals[g]?).map (·.type) = some t ∧ w.var? P n = some cs ∧ DataW.trod (fun _ => ()) P w 0 (fun _ => true) false fuel t cs.toList = some (d, p)
  | [], _, _, n, d, h => by simp at h
  | (n0, d0) :: r, ps, h, n, d, hm => by
    obtain ⟨g, t, cs, fuel, p, q, h1, h2, h3, h4, h5, _⟩ := h
    rcases List.mem_cons.1 hm with e | hm
    · injection e with e1 e2
      subst e1; subst e2
      exact ⟨g, t, cs, fuel, p, h1, h2, h3, h4⟩
    · exact laid_at r q h5 n d hm
theorem tab_of_mem {P : Program} {W : World} {name : String} {k : IntKind} {zs : List Int} {l : List (String × DataW Unit)} {g : Nat} {t e : TypeId} {n : Nat}
    (hg : P.globalNamed name = some g) (hty : (P.globals[g]?).map (·.type) = some t) (ht : P.underlying t = some (.array n e)) (he : P.underlying e = some (.int k)) (hce : P.cellsOf e = 1) (hct : P.cellsOf t = n)
    (hm : (name, Lib.tabData k zs) ∈ l) (h : laidMet P l W) : Lib.TabIs P W name k zs := by
  obtain ⟨ps, hl, _⟩ := h
  obtain ⟨g', t', cs, fuel, p, hg', ht', hvar, hd⟩ := laid_at l ps hl name _ hm
  obtain rfl := Option.some.inj (hg.symm.trans hg')
  obtain rfl := Option.some.inj (hty.symm.trans ht')
  unfold Lib.TabIs
  rw [hvar, ← Lib.cells_of_tab ht he hce hct hd]
theorem gSigns : Tryz.prog.globalNamed "turnpike/octet.signs" = some 1 := by kernel_rfl
theorem gSignsType : (Tryz.prog.globals[1]?).map (·.type) = some 180 := by kernel_rfl
theorem sg_of_laid {W : World} {l : List (String × DataW Unit)} (hm : ("turnpike/octet.signs", (Rows.laid_turnpike_octet_signs : DataW Unit)) ∈ l) (h : laidMet Tryz.prog l W) : SgAt W := by
  have ht : Lib.TabIs Tryz.prog W "turnpike/octet.signs" .u32 [0, 67071226, 3355443198, 1476395007] := tab_of_mem gSigns gSignsType Tryz.underlying180 Tryz.underlying179 (by kernel_rfl) (by kernel_rfl) hm h
  exact ⟨ht.cell gSigns 0 (by decide), ht.cell gSigns 1 (by decide), ht.cell gSigns 2 (by decide), ht.cell gSigns 3 (by decide)⟩
end Go.Proofs.YtlfdeenekjklgaaGreatDoor
namespace Go.Proofs.YtlfdeenekjklgaaGreatDoor
open Go.RowKit
set_option linter.unusedSimpArgs false
set_option linter.unusedVariables false
theorem dec_val (u : Nat) : (Lib.decDigits u).foldl (fun a c => 10 * a + (c.toNat - 48)) 0 = u := by
  induction u using Nat.strongRecOn with
  | ind u ih =>
    rw [Lib.decDigits]
    split
    · simp; omega
    · rw [List.foldl_append, ih (u / 10) (by omega)]
      simp
      omega
theorem dec_inj (a b : Nat) (h : Lib.decDigits a = Lib.decDigits b) : a = b := by rw [← dec_val a, ← dec_val b, h]
/-- The boundary of a number, with its dashes. -/
def mkN (n : Nat) : List UInt8 := 102 :: 111 :: 114 :: 109 :: Lib.decDigits n
theorem mkN_inj (a b : Nat) (h : 45 :: 45 :: mkN a = 45 :: 45 :: mkN b) : a = b := by
  unfold mkN at h
  simp only [List.cons.injEq, true_and] at h
  exact dec_inj a b h
theorem nodup_sub : ∀ (xs ys : List (List UInt8)), xs.Nodup → (∀ x ∈ xs, x ∈ ys) → xs.length ≤ ys.length
  | [], ys, _, _ => Nat.zero_le _
  | x :: xs, ys, hn, hs => by
    rw [List.nodup_cons] at hn
    have hx := hs x (by simp)
    have := nodup_sub xs (ys.erase x) hn.2 (fun y hy => by
      rw [List.mem_erase_of_ne (by intro e; subst e; exact hn.1 hy)]
      exact hs y (by simp [hy]))
    rw [List.length_erase_of_mem hx] at this
    have hp : 0 < ys.length := List.length_pos_of_mem hx
    simp only [List.length_cons]
    omega
/-- All texts that stand in a text. -/
def subs (l : List UInt8) : List (List UInt8) := (List.range (l.length + 1)).flatMap fun i => (List.range (l.length + 1)).map fun k => (l.drop i).take k
theorem subs_mem (l t : List UInt8) (h : Lib.contains l t = true) : t ∈ subs l := by
  unfold Lib.contains at h
  rw [decide_eq_true_eq] at h
  rcases Lib.index_spec l t with ⟨h1, _⟩ | ⟨i, _, hi, ho, _⟩
  · omega
  · have hp := List.isPrefixOf_iff_prefix.1 (show t.isPrefixOf (l.drop i) = true from ho)
    have hl := hp.length_le
    rw [List.length_drop] at hl
    unfold subs
    rw [List.mem_flatMap]
    refine ⟨i, by rw [List.mem_range]; omega, ?_⟩
    rw [List.mem_map]
    exact ⟨t.length, by rw [List.mem_range]; omega, (List.prefix_iff_eq_take.1 hp).symm⟩
theorem sum_const (c : Nat) (n : Nat) (f : Nat → Nat) (h : ∀ i, f i = c) : ((List.range n).map f).sum = n * c := by
  induction n with
  | zero => simp
  | succ n ih => rw [List.range_succ, List.map_append, List.sum_append, ih, Nat.succ_mul]; simp [h]
theorem subs_len (l : List UInt8) : (subs l).length = (l.length + 1) * (l.length + 1) := by
  unfold subs
  rw [List.length_flatMap]
  exact sum_const (l.length + 1) (l.length + 1) _ (fun i => by rw [List.length_map, List.length_range])
def cand (l : List Prt) : List (List UInt8) := l.flatMap fun p => subs p.body ++ (subs p.name ++ (subs p.file ++ subs p.media))
theorem cand_mem (l : List Prt) (t : List UInt8) (h : stood l t = true) : t ∈ cand l := by
  unfold stood at h
  rw [List.any_eq_true] at h
  obtain ⟨p, hp, hs⟩ := h
  unfold cand
  rw [List.mem_flatMap]
  refine ⟨p, hp, ?_⟩
  unfold std at hs
  simp only [Bool.or_eq_true] at hs
  simp only [List.mem_append]
  rcases hs with h | h | h | h
  · exact Or.inl (subs_mem _ _ h)
  · exact Or.inr (Or.inl (subs_mem _ _ h))
  · exact Or.inr (Or.inr (Or.inl (subs_mem _ _ h)))
  · exact Or.inr (Or.inr (Or.inr (subs_mem _ _ h)))
theorem sq_le (a m : Nat) (h : a ≤ m) : (a + 1) * (a + 1) ≤ (m + 1) * (m + 1) := Nat.mul_le_mul (by omega) (by omega)
theorem cand_len (l : List Prt) (m : Nat) (h : totQ l ≤ m) : (cand l).length ≤ l.length * (4 * ((m + 1) * (m + 1))) := by
  induction l with
  | nil => simp [cand]
  | cons p r ih =>
    have e : cand (p :: r) = (subs p.body ++ (subs p.name ++ (subs p.file ++ subs p.media))) ++ cand r := rfl
    simp only [totQ] at h
    have hr := ih (by omega)
    rw [e]
    simp only [List.length_append, subs_len, List.length_cons]
    unfold prtLen at h
    have h1 := sq_le p.body.length m (by omega)
    have h2 := sq_le p.name.length m (by omega)
    have h3 := sq_le p.file.length m (by omega)
    have h4 := sq_le p.media.length m (by omega)
    generalize (m + 1) * (m + 1) = M at *
    have e2 : (r.length + 1) * (4 * M) = r.length * (4 * M) + 4 * M := by rw [Nat.add_mul, Nat.one_mul]
    rw [e2]
    omega
theorem range_nodup (B : Nat) : ((List.range B).map fun n => 45 :: 45 :: mkN n).Nodup := by
  rw [List.nodup_iff_pairwise_ne, List.pairwise_map]
  exact List.Pairwise.imp (fun {a b} hab e => by have := mkN_inj a b e; omega) List.pairwise_lt_range
/-- There is a first one. -/
theorem bry_first (l : List Prt) (hT : totQ l ≤ 1048576) (hN : l.length ≤ 1048576) : ∃ N : Nat, N ≤ 4611703610613432320 ∧ stood l (45 :: 45 :: mkN N) = false ∧ ∀ j, j < N → stood l (45 :: 45 :: mkN j) = true := by
  have key : ∀ B : Nat, (∀ j, j < B → stood l (45 :: 45 :: mkN j) = true) ∨ ∃ N, N < B ∧ stood l (45 :: 45 :: mkN N) = false ∧ ∀ j, j < N → stood l (45 :: 45 :: mkN j) = true := by
    intro B
    induction B with
    | zero => left; intro j hj; omega
    | succ B ih =>
      rcases ih with h | ⟨N, h1, h2, h3⟩
      · cases hb : stood l (45 :: 45 :: mkN B) with
        | true =>
          left
          intro j hj
          by_cases hjb : j < B
          · exact h j hjb
          · obtain rfl : j = B := by omega
            exact hb
        | false => exact Or.inr ⟨B, by omega, hb, h⟩
      · exact Or.inr ⟨N, by omega, h2, h3⟩
  rcases key 4611703610613432321 with h | ⟨N, h1, h2, h3⟩
  · exfalso
    have h4 := nodup_sub _ (cand l) (range_nodup 4611703610613432321) (fun x hx => by
      rw [List.mem_map] at hx
      obtain ⟨n, hn, rfl⟩ := hx
      rw [List.mem_range] at hn
      exact cand_mem l _ (h n hn))
    rw [List.length_map, List.length_range] at h4
    have h5 := cand_len l 1048576 hT
    have h6 : l.length * (4 * ((1048576 + 1) * (1048576 + 1))) ≤ 1048576 * (4 * ((1048576 + 1) * (1048576 + 1))) := Nat.mul_le_mul_right _ hN
    have h7 : 1048576 * (4 * ((1048576 + 1) * (1048576 + 1))) < 4611703610613432321 := by decide
    omega
  · exact ⟨N, by omega, h2, h3⟩
end Go.Proofs.YtlfdeenekjklgaaGreatDoor
namespace Go.Proofs.YtlfdeenekjklgaaGreatDoor
open Go.RowKit
set_option linter.unusedSimpArgs false
set_option linter.unusedVariables false
set_option maxRecDepth 1000000
def PowAt (w : World) : Prop := Lib.TabIs Tryz.prog w "internal/strconv.uint64pow10" .u64 Lib.pow10Tab
theorem gPow : Tryz.prog.globalNamed "internal/strconv.uint64pow10" = some 5 := by kernel_rfl
theorem PowAt.below {w w' : World} (h : PowAt w) (hb : Below w.heap.size w w') : PowAt w' := by
  unfold PowAt Lib.TabIs at h ⊢
  unfold World.var? at h ⊢
  simp only [gPow, Option.bind_some] at h ⊢
  have lt : 5 < w.heap.size := by
    rcases Nat.lt_or_ge 5 w.heap.size with h1 | h1
    · exact h1
    · rw [Array.getElem?_eq_none h1] at h; cases h
  rw [hb.block 5 lt]
  exact h
theorem odigits_any (n : Nat) (w : World) (hn : n ≤ 4611703610613432320) (h : PowAt w) :
    Calls Tryz.prog 46 #[.int .i64 (n : Int)] w fun e w' => e = .returned (.string ⟨(Lib.decDigits n).toArray⟩) ∧ Below w.heap.size w w' := by
  have hi := Tryz.strconv_Itoa (n : Int) (by omega) (by omega) w h
  rw [Lib.itoa_nonneg] at hi
  have HI := Lib.hid hi; clear hi
  clear hn
  go_enter Tryz.func46, Tryz.ntmps46
  go_wp2_with fail
  refine (HI.out).mono ?_
  rintro e w1 ⟨rfl, k, os, rfl⟩
  have hb := Lib.below_grow w.heap.size w (Nat.le_refl _) k os
  have HB := Lib.hid hb; clear hb
  go_wp2
  go_ret
  exact ⟨rfl, HB.out⟩
end Go.Proofs.YtlfdeenekjklgaaGreatDoor
