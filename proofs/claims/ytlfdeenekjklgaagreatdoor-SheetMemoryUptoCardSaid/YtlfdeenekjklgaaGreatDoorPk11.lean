/- Mda, Rdr, Rdb: texts of the seat, one behind the other (a claim holds at most sixty). Conditions: each theorem names its own. -/
import Derived.Test.YtlfdeenekjklgaaGreatDoorPk01
import Derived.Test.YtlfdeenekjklgaaGreatDoorPk10
import Derived.Test.YtlfdeenekjklgaaGreatDoorPk09
namespace Go.Proofs.YtlfdeenekjklgaaGreatDoor
open Go.RowKit
set_option linter.unusedSimpArgs false
set_option linter.unusedVariables false
set_option maxRecDepth 1000000
theorem alloc_le {L : Nat} {w : World} (h : L ≤ w.heap.size) (o : Obj) : L ≤ (w.alloc o).heap.size := by simp; omega
/-- A block that holds one object and may be written. -/
def BlkIs (w : World) (b : Nat) (cs : Array Value) (T : TypeId) : Prop := w.heap[b]? = some (.cells cs T)
theorem BlkIs.lt {w : World} {b : Nat} {cs : Array Value} {T : TypeId} (h : BlkIs w b cs T) : b < w.heap.size := (Array.getElem?_eq_some_iff.1 h).1
theorem blkIs_new (w : World) (cs : Array Value) (T : TypeId) : BlkIs (w.alloc (.cells cs T)) w.heap.size cs T := heap_alloc_new w _
theorem BlkIs.below {w w' : World} {B b : Nat} {cs : Array Value} {T : TypeId} (h : BlkIs w b cs T) (hb : Below B w w') (hlt : b < B) : BlkIs w' b cs T := by unfold BlkIs; rw [hb.block b hlt]; exact h
theorem BlkIs.later {w w' : World} {b : Nat} {cs : Array Value} {T : TypeId} (h : BlkIs w b cs T) (hb : Below w.heap.size w w') : BlkIs w' b cs T := h.below hb h.lt
theorem BlkIs.alloc {w : World} {b : Nat} {cs : Array Value} {T : TypeId} (h : BlkIs w b cs T) (o : Obj) : BlkIs (w.alloc o) b cs T := h.later ((Below.refl _ w).alloc (Nat.le_refl _) o)
theorem BlkIs.cell {w : World} {b : Nat} {cs : Array Value} {T : TypeId} (h : BlkIs w b cs T) (j : Nat) (v : Value) (hj : cs[j]? = some v) : w.cell? ⟨b, j, none⟩ = some v := by
  rw [Lib.cell_of_heap h]; exact hj
theorem BlkIs.free {w : World} {b : Nat} {cs : Array Value} {T : TypeId} (h : BlkIs w b cs T) (j : Nat) : w.frozen? ⟨b, j, none⟩ = false := Lib.frozen_of_heap h j
theorem BlkIs.grown {w w' : World} {b : Nat} {cs : Array Value} {T : TypeId} {row : Option Nat} (h : BlkIs w b cs T) (hg : w.grownBy w' row) (hne : row ≠ some b) : BlkIs w' b cs T := by unfold BlkIs; rw [hg.block b h.lt (fun e => hne e.symm)]; exact h
theorem BlkIs.set {w : World} {b : Nat} {cs : Array Value} {T : TypeId} (h : BlkIs w b cs T) (j : Nat) (v : Value) : BlkIs (w.setCell ⟨b, j, none⟩ v) b (cs.setIfInBounds j v) T := Joins.block_setCell h v
theorem BlkIs.setOther {w : World} {b : Nat} {cs : Array Value} {T : TypeId} (h : BlkIs w b cs T) (a : Addr) (v : Value) (hne : b ≠ a.block) : BlkIs (w.setCell a v) b cs T := by unfold BlkIs; rw [Below.heap_setCell w a v b hne]; exact h
/-- A row of another type does not stand in such a block. -/
theorem own_blk {w : World} {L b n s : Nat} {cs : Array Value} {T e : TypeId} {v : Value} {xs : List Value} (hown : w.ownsRow L e s v n xs) (h : BlkIs w b cs T) (hne : e ≠ T) : v.ownBlock ≠ some b := by
  rcases hown.2 with ⟨rfl, _⟩ | ⟨g, c, cur, rfl, _, hg, _⟩
  · simp [Value.ownBlock]
  · intro e2
    simp [Value.ownBlock] at e2
    subst e2
    unfold BlkIs at h
    rw [h] at hg
    injection hg with hg
    injection hg with _ hg
    exact hne hg.symm
theorem own_setOther {w : World} {L b j n s : Nat} {e : TypeId} {v u : Value} {xs : List Value} (hown : w.ownsRow L e s v n xs) (hne : v.ownBlock ≠ some b) : (w.setCell ⟨b, j, none⟩ u).ownsRow L e s v n xs :=
  hown.kept (row := some b) ⟨rfl, rfl, rfl, by simp, fun k hk hkb => Below.heap_setCell w ⟨b, j, none⟩ u k (fun e => hkb (by rw [e]))⟩ (Or.inr hne)
theorem par_bd (i n : Nat) (h : i < n) (hn : n ≤ 1073741824) : i + 1 ≤ maxLen ∧ (i + 1) * 40 ≤ 140737488355328 := by unfold maxLen; omega
theorem cells_new2 (w : World) (o : Obj) (e : TypeId) (l : List Value) : ∀ j u, l[j]? = some u → ((w.alloc o).alloc (.cells l.toArray e)).cell? ((⟨w.heap.size + 1, 0, none⟩ : Addr).add j) = some u := by
  intro j u hu
  have := cells_new (w.alloc o) e l j u hu
  rwa [show (w.alloc o).heap.size = w.heap.size + 1 from by simp] at this
end Go.Proofs.YtlfdeenekjklgaaGreatDoor
namespace Go.Proofs.YtlfdeenekjklgaaGreatDoor
open Go.RowKit
set_option linter.unusedSimpArgs false
set_option linter.unusedVariables false
set_option maxRecDepth 1000000
theorem quiet_sum {P : Program} {f : FuncId} {args : Array Value} {w : World} {n k : Nat} {v : Value} (h : Calls P f args (w.drewN (n + k)) fun e w' => e = .returned v ∧ w' = w.drewN (n + k)) : Calls P f args (w.drewN (n + k)) fun e w'' => e = .returned v ∧ ∃ j, w'' = w.drewN (n + j) :=
  h.mono fun _ _ ⟨he, hm⟩ => ⟨he, k, hm⟩
def RdAt (W : World) (r : Nat) (s mk : List UInt8) (most : Int) (lv : Value) : Prop := BlkIs W r #[.string ⟨s.toArray⟩, .string ⟨mk.toArray⟩, .int .i64 most, lv] 66
theorem RdAt.later {W W' : World} {r : Nat} {s mk : List UInt8} {most : Int} {lv : Value} (h : RdAt W r s mk most lv) (hb : Below W.heap.size W W') : RdAt W' r s mk most lv := BlkIs.later h hb
abbrev fltV (c q : Nat) : Value := .iface 68 (.agg #[.int .i64 (c : Nat), .int .i64 (q : Nat)])
theorem pre_call (a t : List UInt8) (w : World) : Calls Tryz.prog 65 #[.string ⟨a.toArray⟩, .string ⟨t.toArray⟩] w fun e w' => e = .returned (.bool (t.isPrefixOf a)) ∧ w' = w := Tryz.strings_HasPrefix ⟨a.toArray⟩ ⟨t.toArray⟩ w
theorem ix_call (a t : List UInt8) (m : Int) (w : World) (ha : a.length < 4294967281) (hm : w.cell? ⟨2, 0, none⟩ = some (.int .i64 m)) : Calls Tryz.prog 99 #[.string ⟨a.toArray⟩, .string ⟨t.toArray⟩] w fun e w' => e = .returned (.int .i64 (optI (fnd t a))) ∧ w' = w := by
  have := Tryz.strings_Index ⟨a.toArray⟩ ⟨t.toArray⟩ m w (by rw [size_mk]; exact ha) hm
  rw [show (⟨a.toArray⟩ : ByteArray).data.toList = a from rfl, show (⟨t.toArray⟩ : ByteArray).data.toList = t from rfl, index_fnd] at this
  exact this
theorem contains_bl (c : UInt8) : ([32, 9] : List UInt8).contains c = isBl c := by
  unfold isBl
  simp only [List.contains_cons, List.contains_nil, Bool.or_false]
  congr 1
  · rw [Bool.eq_iff_iff, beq_iff_eq, beq_iff_eq]
    exact ⟨fun e => by rw [e]; rfl, fun e => UInt8.toNat_inj.1 e⟩
  · rw [Bool.eq_iff_iff, beq_iff_eq, beq_iff_eq]
    exact ⟨fun e => by rw [e]; rfl, fun e => UInt8.toNat_inj.1 e⟩
theorem tl_call (a : List UInt8) (w : World) : Calls Tryz.prog 93 #[.string ⟨a.toArray⟩, .string ⟨#[32, 9]⟩] w fun e w' => e = .returned (.string ⟨(a.dropWhile isBl).toArray⟩) ∧ Below w.heap.size w w' := by
  have ht := Any.strings_TrimLeft_laid Tryz.lays161 (by kernel_rfl) ⟨a.toArray⟩ ⟨#[32, 9]⟩ w (by decide) (by
    intro j b hj
    have : ∀ j : Fin 2, ([32, 9] : List UInt8)[j.val].toNat < 128 := by decide
    obtain ⟨hl, he⟩ := List.getElem?_eq_some_iff.1 hj
    have := this ⟨j, hl⟩
    rw [← he]; exact this)
  have e : Lib.trimLeftS (⟨a.toArray⟩ : ByteArray).data.toList (⟨#[32, 9]⟩ : ByteArray).data.toList = a.dropWhile isBl := by
    show a.dropWhile (([32, 9] : List UInt8).contains ·) = _
    congr 1
    funext c
    exact contains_bl c
  rw [e] at ht
  exact ht
theorem ext_mk2 (s : List UInt8) (a : Nat) : (⟨s.toArray⟩ : ByteArray).extract a (⟨s.toArray⟩ : ByteArray).size = ⟨(s.drop a).toArray⟩ := by
  rw [ext_back]
theorem w64i (z : Int) (h0 : -9007199254740992 ≤ z) (h1 : z ≤ 9007199254740992) : wrap64 z = z ∧ IntKind.i64.wrap z = z := by
  constructor
  · unfold wrap64; omega
  · rw [IntKind.wrap_i64]; omega
set_option maxHeartbeats 8000000 in
theorem rdfirst_any (r : Nat) (s mk : List UInt8) (most : Int) (lv : Value) (a : Nat) (m : Int) (w : World) (h : RdAt w r s mk most lv) (hs : s.length ≤ 2147483648) (hk : mk.length ≤ 4096) (ha : a ≤ s.length) (hm : w.cell? ⟨2, 0, none⟩ = some (.int .i64 m)) :
    Calls Tryz.prog 61 #[.pointer (some ⟨r, 0, none⟩), .int .i64 (a : Int)] w fun e w' => e = .returned (.int .i64 (optI (fst9 mk s a))) ∧ Below w.heap.size w w' := by
  have c0 : w.cell? ⟨r, 0, none⟩ = some (.string ⟨s.toArray⟩) := h.cell 0 _ rfl
  have c1 : w.cell? ⟨r, 1, none⟩ = some (.string ⟨mk.toArray⟩) := h.cell 1 _ rfl
  have hR : fst9 mk s a = if a = 0 ∧ mk.isPrefixOf s = true then some 0 else (fnd (13 :: 10 :: mk) (s.drop a)).map (fun i => a + i + 2) := rfl
  obtain ⟨R, hRR⟩ : ∃ R, fst9 mk s a = R := ⟨_, rfl⟩
  rw [hRR] at hR ⊢
  clear hRR
  have hpc := fun W => pre_call s mk W
  obtain ⟨b, hb⟩ : ∃ b, mk.isPrefixOf s = b := ⟨_, rfl⟩
  rw [hb] at hpc hR
  have HPC := Lib.hid hpc
  have hix := fun W (hmm : W.cell? ⟨2, 0, none⟩ = some (.int .i64 m)) => ix_call (s.drop a) (13 :: 10 :: mk) m W (by rw [List.length_drop]; omega) hmm
  have hsz : (⟨s.toArray⟩ : ByteArray).size = s.length := size_mk s
  have hxx : (⟨s.toArray⟩ : ByteArray).extract a s.length = ⟨(s.drop a).toArray⟩ := by rw [← hsz]; exact ext_mk2 s a
  have e1 : (⟨#[13, 10]⟩ : ByteArray) ++ ⟨mk.toArray⟩ = ⟨(13 :: 10 :: mk).toArray⟩ := ba_ext (by simp)
  have l1 : ¬ 9223372036854775807 < mk.length + 2 := by omega
  have l2 : ¬ 9223372036854775807 < 2 + mk.length := by omega
  obtain ⟨F, hF⟩ : ∃ F, fnd (13 :: 10 :: mk) (s.drop a) = F := ⟨_, rfl⟩
  have hFb : ∀ i, F = some i → a + i + 2 ≤ s.length := fun i hi => by
    rw [← hF] at hi
    have := (fnd_spec _ _ _ hi).1
    rw [List.length_drop] at this
    simp only [List.length_cons] at this
    omega
  rw [hF] at hix hR
  have HIX := Lib.hid hix; have HFB := Lib.hid hFb; have HR := Lib.hid hR; have HM := Lib.hid hm
  obtain ⟨X, hX⟩ : ∃ X, s.drop a = X := ⟨_, rfl⟩
  obtain ⟨Y, hY⟩ : ∃ Y, 13 :: 10 :: mk = Y := ⟨_, rfl⟩
  rw [hX] at hxx HIX
  rw [hY] at e1 HIX
  have i0 : (0 : Int) ≤ (a : Int) := Int.natCast_nonneg _
  have i1 : (a : Int) ≤ (s.length : Int) := by omega
  clear h hm hF hFb hb hpc hix hR hX hY
  by_cases ha0 : a = 0
  · have k0 : ((a : Int) == 0) = true := by rw [ha0]; rfl
    have k1 : (0 : Int) = (a : Int) := by omega
    cases b with
    | true =>
      have HR2 := Lib.hid (show R = some 0 by rw [HR.out, if_pos ⟨ha0, rfl⟩])
      clear ha0 k1
      go_enter Tryz.func61, Tryz.ntmps61
      go_upto_region 1 with fail
      go_quiet (exact Calls.quiet_of_same (HPC.out _))
      go_wp2
      go_ret
      rw [HR2.out]
      exact ⟨rfl, below_drewN (Below.refl _ w) nq⟩
    | false =>
      have HR2 := Lib.hid (show R = F.map (fun i => a + i + 2) by rw [HR.out, if_neg (by simp)])
      clear ha0 k1
      go_enter Tryz.func61, Tryz.ntmps61
      go_upto_region 1 with fail
      go_quiet (exact Calls.quiet_of_same (HPC.out _))
      go_upto_region 3 with fail
      cases F with
      | none =>
        have HIY := Lib.hid (show ∀ W (hmm : W.cell? ⟨2, 0, none⟩ = some (.int .i64 m)), Calls Tryz.prog 99 #[.string ⟨X.toArray⟩, .string ⟨Y.toArray⟩] W fun e w' => e = .returned (.int .i64 (-1)) ∧ w' = W from HIX.out)
        go_quiet (exact quiet_sum (HIY.out _ (by rw [World.cell?_drewN]; exact HM.out)))
        have HR3 := Lib.hid (show R = none by rw [HR2.out]; rfl)
        go_wp2
        go_ret
        rw [HR3.out]
        exact ⟨rfl, below_drewN (Below.refl _ w) _⟩
      | some i =>
        have HIY := Lib.hid (show ∀ W (hmm : W.cell? ⟨2, 0, none⟩ = some (.int .i64 m)), Calls Tryz.prog 99 #[.string ⟨X.toArray⟩, .string ⟨Y.toArray⟩] W fun e w' => e = .returned (.int .i64 (i : Int)) ∧ w' = W from HIX.out)
        go_quiet (exact quiet_sum (HIY.out _ (by rw [World.cell?_drewN]; exact HM.out)))
        have HR3 := Lib.hid (show R = some (a + i + 2) by rw [HR2.out]; rfl)
        have hfb := HFB.out i rfl
        have j0 : (0 : Int) ≤ (i : Int) := Int.natCast_nonneg _
        have j1 : decide ((i : Int) < 0) = false := decide_eq_false (by omega)
        have j2 : ¬ ((i : Int) < 0) := by omega
        obtain ⟨ai, hai⟩ : ∃ ai, a + i = ai := ⟨_, rfl⟩
        have j3 : (a : Int) + (i : Int) = (ai : Int) := by omega
        have j4 := (w64i (ai : Int) (by omega) (by omega))
        have j5 := (w64i ((ai : Int) + 2) (by omega) (by omega))
        obtain ⟨j4a, j4b⟩ := j4
        obtain ⟨j5a, j5b⟩ := j5
        have HAI := Lib.hid hai
        clear hai hfb
        go_wp2
        go_ret
        rw [HR3.out]
        refine ⟨?_, below_drewN (Below.refl _ w) _⟩
        show _ = Ending.returned (.int .i64 (((a + i + 2 : Nat)) : Int))
        rw [HAI.out]
        first | rfl | (rw [j5b]; rfl)
  · have k0 : ((a : Int) == 0) = false := beq_false_of_ne (by omega)
    have HR2 := Lib.hid (show R = F.map (fun i => a + i + 2) by rw [HR.out, if_neg (fun e => ha0 e.1)])
    clear ha0
    go_enter Tryz.func61, Tryz.ntmps61
    go_upto_region 1 with fail
    go_quiet (exact Calls.quiet_of_same (HPC.out _))
    go_upto_region 3 with fail
    cases F with
    | none =>
      have HIY := Lib.hid (show ∀ W (hmm : W.cell? ⟨2, 0, none⟩ = some (.int .i64 m)), Calls Tryz.prog 99 #[.string ⟨X.toArray⟩, .string ⟨Y.toArray⟩] W fun e w' => e = .returned (.int .i64 (-1)) ∧ w' = W from HIX.out)
      go_quiet (exact quiet_sum (HIY.out _ (by rw [World.cell?_drewN]; exact HM.out)))
      have HR3 := Lib.hid (show R = none by rw [HR2.out]; rfl)
      go_wp2
      go_ret
      rw [HR3.out]
      exact ⟨rfl, below_drewN (Below.refl _ w) _⟩
    | some i =>
      have HIY := Lib.hid (show ∀ W (hmm : W.cell? ⟨2, 0, none⟩ = some (.int .i64 m)), Calls Tryz.prog 99 #[.string ⟨X.toArray⟩, .string ⟨Y.toArray⟩] W fun e w' => e = .returned (.int .i64 (i : Int)) ∧ w' = W from HIX.out)
      go_quiet (exact quiet_sum (HIY.out _ (by rw [World.cell?_drewN]; exact HM.out)))
      have HR3 := Lib.hid (show R = some (a + i + 2) by rw [HR2.out]; rfl)
      have hfb := HFB.out i rfl
      have j0 : (0 : Int) ≤ (i : Int) := Int.natCast_nonneg _
      have j1 : decide ((i : Int) < 0) = false := decide_eq_false (by omega)
      have j2 : ¬ ((i : Int) < 0) := by omega
      obtain ⟨ai, hai⟩ : ∃ ai, a + i = ai := ⟨_, rfl⟩
      have j3 : (a : Int) + (i : Int) = (ai : Int) := by omega
      have j4 := (w64i (ai : Int) (by omega) (by omega))
      have j5 := (w64i ((ai : Int) + 2) (by omega) (by omega))
      obtain ⟨j4a, j4b⟩ := j4
      obtain ⟨j5a, j5b⟩ := j5
      have HAI := Lib.hid hai
      clear hai hfb
      go_wp2
      go_ret
      rw [HR3.out]
      refine ⟨?_, below_drewN (Below.refl _ w) _⟩
      show _ = Ending.returned (.int .i64 (((a + i + 2 : Nat)) : Int))
      rw [HAI.out]
      first | rfl | (rw [j5b]; rfl)
end Go.Proofs.YtlfdeenekjklgaaGreatDoor
namespace Go.Proofs.YtlfdeenekjklgaaGreatDoor
open Go.RowKit
set_option linter.unusedSimpArgs false
set_option linter.unusedVariables false
set_option maxRecDepth 1000000
theorem subN (N K y : Nat) (h : K + y = N) (hN : N ≤ 2147483648) : wrap64 ((N : Int) - (K : Int)) = (y : Int) ∧ IntKind.i64.wrap ((N : Int) - (K : Int)) = (y : Int) ∧ wrap64 (y : Int) = (y : Int) ∧ IntKind.i64.wrap (y : Int) = (y : Int) ∧ wrap64 ((y : Int) + 2) = (y : Int) + 2 ∧ IntKind.i64.wrap ((y : Int) + 2) = (y : Int) + 2 := by
  refine ⟨?_, ?_, ?_, ?_, ?_, ?_⟩
  · unfold wrap64; omega
  · rw [IntKind.wrap_i64]; omega
  · unfold wrap64; omega
  · rw [IntKind.wrap_i64]; omega
  · unfold wrap64; omega
  · rw [IntKind.wrap_i64]; omega
def bhV : Bh → Value
  | .go q => .tuple #[.int .i64 (q : Nat), .bool false, .nilIface]
  | .over => .tuple #[.int .i64 0, .bool true, .nilIface]
  | .bad c q => .tuple #[.int .i64 0, .bool false, fltV c q]
set_option maxHeartbeats 2000000 in
theorem rdshort_any (r : Nat) (s mk : List UInt8) (most : Int) (lv : Value) (w : World) (h : RdAt w r s mk most lv) : Calls Tryz.prog 62 #[.pointer (some ⟨r, 0, none⟩)] w fun e w' => e = .returned (fltV 154 s.length) ∧ w' = w := by
  have c0 : w.cell? ⟨r, 0, none⟩ = some (.string ⟨s.toArray⟩) := h.cell 0 _ rfl
  have hsz : (⟨s.toArray⟩ : ByteArray).size = s.length := size_mk s
  clear h
  go_enter Tryz.func62, Tryz.ntmps62
  go_wp2
  go_ret
  exact ⟨rfl, rfl⟩
theorem bhd_of (mk s : List UInt8) (more : Bool) (a : Nat) (X L : List UInt8) (hX : s.drop (a + mk.length) = X) (hL : X.dropWhile isBl = L) : bhd mk s more a =
  if (more && ([45, 45] : List UInt8).isPrefixOf X) = true then
    if X.drop 2 = [] ∨ crlf.isPrefixOf (X.drop 2) = true then .over
    else if X.drop 2 = [13] then .bad 154 s.length else .bad 151 (a + mk.length)
  else if crlf.isPrefixOf L = true then .go (s.length - L.length + 2)
  else if L = [] ∨ L = [13] ∨ (more = true ∧ X = [45]) then .bad 154 s.length
  else .bad 151 (a + mk.length) := by unfold bhd; rw [hX, hL]
set_option maxHeartbeats 16000000 in
theorem rdbehind_any (r : Nat) (s mk : List UInt8) (most : Int) (av : Option Addr) (n cv : Nat) (a : Nat) (w : World) (h : RdAt w r s mk most (.slice av n cv)) (hs : s.length ≤ 2147483648) (hk : mk.length ≤ 4096) (ha : a + mk.length ≤ s.length) :
    Calls Tryz.prog 63 #[.pointer (some ⟨r, 0, none⟩), .int .i64 (a : Int)] w fun e w' => e = .returned (bhV (bhd mk s (decide (0 < n)) a)) ∧ Below w.heap.size w w' := by
  have c0 : w.cell? ⟨r, 0, none⟩ = some (.string ⟨s.toArray⟩) := h.cell 0 _ rfl
  have c1 : w.cell? ⟨r, 1, none⟩ = some (.string ⟨mk.toArray⟩) := h.cell 1 _ rfl
  have c3 : w.cell? ⟨r, 3, none⟩ = some (.slice av n cv) := h.cell 3 _ rfl
  have hsz : (⟨s.toArray⟩ : ByteArray).size = s.length := size_mk s
  have hkz : (⟨mk.toArray⟩ : ByteArray).size = mk.length := size_mk mk
  obtain ⟨q, hq⟩ : ∃ q, a + mk.length = q := ⟨_, rfl⟩
  obtain ⟨X, hX⟩ : ∃ X, s.drop (a + mk.length) = X := ⟨_, rfl⟩
  obtain ⟨L, hL⟩ : ∃ L, X.dropWhile isBl = L := ⟨_, rfl⟩
  have hxx : (⟨s.toArray⟩ : ByteArray).extract q s.length = ⟨X.toArray⟩ := by rw [← hX, hq, ← hsz]; exact ext_mk2 s q
  have hXl : X.length = s.length - q := by rw [← hX, List.length_drop, hq]
  have hLl : L.length ≤ X.length := by rw [← hL]; exact dropW_len isBl X
  have htl := fun W => tl_call X W
  rw [hL] at htl
  have hof := bhd_of mk s (decide (0 < n)) a X L hX hL
  rw [hq] at hof ha
  obtain ⟨R, hR⟩ : ∃ R, bhd mk s (decide (0 < n)) a = R := ⟨_, rfl⟩
  rw [hR] at hof ⊢
  have q1 : (a : Int) + (mk.length : Int) = (q : Int) := by omega
  obtain ⟨q2, q3⟩ := w64i (q : Int) (by omega) (by omega)
  have q4 : (0 : Int) ≤ (q : Int) := Int.natCast_nonneg _
  have q5 : (q : Int) ≤ (s.length : Int) := by omega
  have HRD := Lib.hid h
  have HRD := Lib.hid h
  have HSH := Lib.hid (fun W (hW : Below w.heap.size w W) => rdshort_any r s mk most (.slice av n cv) W (h.later hW))
  have HTL := Lib.hid htl
  have HP1 := Lib.hid (fun W => pre_call X [45, 45] W)
  have HP2 := Lib.hid (fun W => pre_call (X.drop 2) crlf W)
  have HP3 := Lib.hid (fun W => pre_call L crlf W)
  have hXz : (⟨X.toArray⟩ : ByteArray).size = X.length := size_mk X
  have hLz : (⟨L.toArray⟩ : ByteArray).size = L.length := size_mk L
  have HOF := Lib.hid hof; have HXL := Lib.hid (And.intro hXl hLl)
  have HS := Lib.hid (And.intro hs ha)
  clear h hX hL htl hof hR hq hXl hLl
  obtain ⟨b1, hb1⟩ : ∃ b, ([45, 45] : List UInt8).isPrefixOf X = b := ⟨_, rfl⟩
  rw [hb1] at HP1 HOF
  by_cases hn : 0 < n
  · have n1 : decide ((0 : Int) < (n : Int)) = true := decide_eq_true (by omega)
    have n2 : (0 : Int) < (n : Int) := by omega
    have n3 : decide (0 < n) = true := decide_eq_true hn
    rw [n3] at HOF
    cases b1 with
    | true =>
      have hX2 : 2 ≤ X.length := (List.isPrefixOf_iff_prefix.1 hb1).length_le
      have hx2 : (⟨X.toArray⟩ : ByteArray).extract 2 X.length = ⟨(X.drop 2).toArray⟩ := by rw [← hXz]; exact ext_mk2 X 2
      obtain ⟨T, hT⟩ : ∃ T, X.drop 2 = T := ⟨_, rfl⟩
      rw [hT] at hx2 HP2 HOF
      have x1 : (2 : Int) ≤ (X.length : Int) := by omega
      have HO2 := Lib.hid (show R = if T = [] ∨ crlf.isPrefixOf T = true then .over else if T = [13] then .bad 154 s.length else .bad 151 q by rw [HOF.out, if_pos (by rfl)])
      clear hb1 hT hX2 HOF
      go_enter Tryz.func63, Tryz.ntmps63
      go_wp2_with fail
      refine (HP1.out _).mono ?_
      rintro e w1 ⟨rfl, rfl⟩
      by_cases t0 : T = []
      · subst t0
        have HR := Lib.hid (show R = .over by rw [HO2.out, if_pos (.inl rfl)])
        go_wp2
        go_ret3
        rw [HR.out]
        exact ⟨rfl, Below.refl _ _⟩
      · have t1 : (T == []) = false := beq_false_of_ne t0
        have t2 : T.isEmpty = false := by cases T with | nil => exact absurd rfl t0 | cons => rfl
        have t3 : decide (T = []) = false := decide_eq_false t0
        obtain ⟨b2, hb2⟩ : ∃ b, crlf.isPrefixOf T = b := ⟨_, rfl⟩
        rw [hb2] at HP2
        go_wp2_with fail
        refine (HP2.out _).mono ?_
        rintro e w1 ⟨rfl, rfl⟩
        cases b2 with
        | true =>
          have HR := Lib.hid (show R = .over by rw [HO2.out, if_pos (.inr hb2)])
          go_wp2
          go_ret3
          rw [HR.out]
          exact ⟨rfl, Below.refl _ _⟩
        | false =>
          by_cases t4 : T = [13]
          · subst t4
            have HR := Lib.hid (show R = .bad 154 s.length by rw [HO2.out, if_neg (by rintro (h | h); exact t0 h; rw [hb2] at h; cases h), if_pos rfl])
            go_wp2_with fail
            refine (HSH.out _ (Below.refl _ _)).mono ?_
            rintro e w1 ⟨rfl, rfl⟩
            go_wp2
            go_ret3
            rw [HR.out]
            exact ⟨rfl, Below.refl _ _⟩
          · have t5 : (T == [13]) = false := beq_false_of_ne t4
            have HR := Lib.hid (show R = .bad 151 q by rw [HO2.out, if_neg (by rintro (h | h); exact t0 h; rw [hb2] at h; cases h), if_neg t4])
            go_wp2
            go_ret3
            rw [HR.out]
            exact ⟨rfl, Below.refl _ _⟩
    | false =>
      have HO3 := Lib.hid (show R = if crlf.isPrefixOf L = true then .go (s.length - L.length + 2) else if L = [] ∨ L = [13] ∨ (true = true ∧ X = [45]) then .bad 154 s.length else .bad 151 q by rw [HOF.out, if_neg (by simp)])
      clear HOF hb1
      go_enter Tryz.func63, Tryz.ntmps63
      go_wp2_with fail
      refine (HP1.out _).mono ?_
      rintro e w1 ⟨rfl, rfl⟩
      go_wp2_with fail
      refine (HTL.out _).mono ?_
      rintro e w2 ⟨rfl, hb2⟩
      have HB2 := Lib.hid hb2
      have c0' : w2.cell? ⟨r, 0, none⟩ = some (.string ⟨s.toArray⟩) := (HRD.out.later hb2).cell 0 _ rfl
      have c3' : w2.cell? ⟨r, 3, none⟩ = some (.slice av n cv) := (HRD.out.later hb2).cell 3 _ rfl
      clear hb2 c0 c1 c3
      obtain ⟨b3, hb3⟩ : ∃ b, crlf.isPrefixOf L = b := ⟨_, rfl⟩
      rw [hb3] at HP3 HO3
      have HB3 := Lib.hid hb3
      clear hb3
      go_wp2_with fail
      refine (HP3.out _).mono ?_
      rintro e w3 ⟨rfl, hwe⟩
      obtain rfl : w2 = w3 := hwe.symm
      clear hwe
      cases b3 with
      | true =>
        have HR := Lib.hid (show R = .go (s.length - L.length + 2) by rw [HO3.out, if_pos rfl])
        obtain ⟨y, hy⟩ : ∃ y, s.length - L.length = y := ⟨_, rfl⟩
        obtain ⟨y2, y3, y4, y5, y6, y7⟩ := subN s.length L.length y (by have := HXL.out; omega) (by have := HS.out; omega)
        have HY := Lib.hid hy
        clear hy
        go_wp2
        go_ret3
        rw [HR.out, HY.out]
        exact ⟨rfl, HB2.out⟩
      | false =>
        by_cases t0 : L = []
        · have HR := Lib.hid (show R = .bad 154 s.length by rw [HO3.out, if_neg (by simp), if_pos (.inl t0)])
          subst t0
          go_wp2_with fail
          refine (HSH.out _ HB2.out).mono ?_
          rintro e w4 ⟨rfl, rfl⟩
          go_wp2
          go_ret3
          rw [HR.out]
          exact ⟨rfl, HB2.out⟩
        · have t1 : (L == []) = false := beq_false_of_ne t0
          have t2 : L.isEmpty = false := by cases L with | nil => exact absurd rfl t0 | cons => rfl
          have t3 : decide (L = []) = false := decide_eq_false t0
          by_cases t4 : L = [13]
          · have HR := Lib.hid (show R = .bad 154 s.length by rw [HO3.out, if_neg (by simp), if_pos (.inr (.inl t4))])
            subst t4
            go_wp2_with fail
            refine (HSH.out _ HB2.out).mono ?_
            rintro e w4 ⟨rfl, rfl⟩
            go_wp2
            go_ret3
            rw [HR.out]
            exact ⟨rfl, HB2.out⟩
          · have t5 : (L == [13]) = false := beq_false_of_ne t4
            by_cases t6 : X = [45]
            · have HR := Lib.hid (show R = .bad 154 s.length by rw [HO3.out, if_neg (by simp), if_pos (.inr (.inr ⟨by simp, t6⟩))])
              subst t6
              clear t0
              go_wp2_with fail
              refine (HSH.out _ HB2.out).mono ?_
              rintro e w4 ⟨rfl, rfl⟩
              go_wp2
              go_ret3
              rw [HR.out]
              exact ⟨rfl, HB2.out⟩
            · have t7 : (X == [45]) = false := beq_false_of_ne t6
              have HR := Lib.hid (show R = .bad 151 q by rw [HO3.out, if_neg (by simp), if_neg (by rintro (h | h | h); exact t0 h; exact t4 h; exact t6 h.2)])
              clear t0 t4 t6
              go_wp2
              go_ret3
              rw [HR.out]
              exact ⟨rfl, HB2.out⟩
  · obtain rfl : n = 0 := by omega
    have n3 : decide (0 < 0) = false := rfl
    rw [n3] at HOF
    have HO3 := Lib.hid (show R = if crlf.isPrefixOf L = true then .go (s.length - L.length + 2) else if L = [] ∨ L = [13] ∨ (false = true ∧ X = [45]) then .bad 154 s.length else .bad 151 q by rw [HOF.out, if_neg (by simp)])
    clear HOF hb1
    go_enter Tryz.func63, Tryz.ntmps63
    go_wp2_with fail
    refine (HTL.out _).mono ?_
    rintro e w2 ⟨rfl, hb2⟩
    have HB2 := Lib.hid hb2
    have c0' : w2.cell? ⟨r, 0, none⟩ = some (.string ⟨s.toArray⟩) := (HRD.out.later hb2).cell 0 _ rfl
    have c3' : w2.cell? ⟨r, 3, none⟩ = some (.slice av 0 cv) := (HRD.out.later hb2).cell 3 _ rfl
    clear hb2 c0 c1 c3
    obtain ⟨b3, hb3⟩ : ∃ b, crlf.isPrefixOf L = b := ⟨_, rfl⟩
    rw [hb3] at HP3 HO3
    have HB3 := Lib.hid hb3
    clear hb3
    go_wp2_with fail
    refine (HP3.out _).mono ?_
    rintro e w3 ⟨rfl, hwe⟩
    obtain rfl : w2 = w3 := hwe.symm
    clear hwe
    cases b3 with
    | true =>
      have HR := Lib.hid (show R = .go (s.length - L.length + 2) by rw [HO3.out, if_pos rfl])
      obtain ⟨y, hy⟩ : ∃ y, s.length - L.length = y := ⟨_, rfl⟩
      obtain ⟨y2, y3, y4, y5, y6, y7⟩ := subN s.length L.length y (by have := HXL.out; omega) (by have := HS.out; omega)
      have HY := Lib.hid hy
      clear hy
      go_wp2
      go_ret3
      rw [HR.out, HY.out]
      exact ⟨rfl, HB2.out⟩
    | false =>
      by_cases t0 : L = []
      · have HR := Lib.hid (show R = .bad 154 s.length by rw [HO3.out, if_neg (by simp), if_pos (.inl t0)])
        subst t0
        go_wp2_with fail
        refine (HSH.out _ HB2.out).mono ?_
        rintro e w4 ⟨rfl, rfl⟩
        go_wp2
        go_ret3
        rw [HR.out]
        exact ⟨rfl, HB2.out⟩
      · have t1 : (L == []) = false := beq_false_of_ne t0
        have t2 : L.isEmpty = false := by cases L with | nil => exact absurd rfl t0 | cons => rfl
        have t3 : decide (L = []) = false := decide_eq_false t0
        by_cases t4 : L = [13]
        · have HR := Lib.hid (show R = .bad 154 s.length by rw [HO3.out, if_neg (by simp), if_pos (.inr (.inl t4))])
          subst t4
          go_wp2_with fail
          refine (HSH.out _ HB2.out).mono ?_
          rintro e w4 ⟨rfl, rfl⟩
          go_wp2
          go_ret3
          rw [HR.out]
          exact ⟨rfl, HB2.out⟩
        · have t5 : (L == [13]) = false := beq_false_of_ne t4
          have HR := Lib.hid (show R = .bad 151 q by rw [HO3.out, if_neg (by simp), if_neg (by rintro (h | h | h); exact t0 h; exact t4 h; cases h.1)])
          clear t0 t4
          go_wp2
          go_ret3
          rw [HR.out]
          exact ⟨rfl, HB2.out⟩
end Go.Proofs.YtlfdeenekjklgaaGreatDoor
