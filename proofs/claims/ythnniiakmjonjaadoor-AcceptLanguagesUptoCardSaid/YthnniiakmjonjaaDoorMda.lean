/- Struct blocks beside rows of the call's own; the walks of turnpikelaw07.media and alike. Conditions: at most 2^30 parameters. -/
import Derived.Test.YthnniiakmjonjaaDoorMeet
import Derived.Test.YthnniiakmjonjaaDoorPmSame
import Derived.Test.YthnniiakmjonjaaDoorRegH
import Derived.Test.YthnniiakmjonjaaDoorOct10
namespace Go.Proofs.YthnniiakmjonjaaDoor
open Go.RowKit
set_option linter.unusedSimpArgs false
set_option linter.unusedVariables false
set_option maxRecDepth 1000000
theorem alloc_le {L : Nat} {w : World} (h : L ≤ w.heap.size) (o : Obj) : L ≤ (w.alloc o).heap.size := by simp; omega
/-- A block that holds one object and may be written. -/
def BlkIs (w : World) (b : Nat) (cs : Array Value) (T : TypeId) : Prop := w.heap[b]? = some (.cells cs T)
theorem BlkIs.lt {w : World} {b : Nat} {cs : Array Value} {T : TypeId} (h : BlkIs w b cs T) : b < w.heap.size := (Array.getElem?_eq_some_iff.1 h).1
theorem blkIs_new (w : World) (cs : Array Value) (T : TypeId) : BlkIs (w.alloc (.cells cs T)) w.heap.size cs T := heap_alloc_new w _
theorem BlkIs.below {w w' : World} {B b : Nat} {cs : Array Value} {T : TypeId} (h : BlkIs w b cs T) (hb : Below B w w') (hlt : b < B) : BlkIs w' b cs T := by unfold BlkIs; rw [hb.block b hlt]; exact h
theorem BlkIs.later {w w' : World} {b : Nat} {cs : Array Value} {T : TypeId} (h : BlkIs w b cs T) (hb : Below w.heap.size w w') : BlkIs w' b cs T := h.below hb h.lt
theorem BlkIs.alloc {w : World} {b : Nat} {cs : Array Value} {T : TypeId} (h : BlkIs w b cs T) (o : Obj) : BlkIs (w.alloc o) b cs T := h.later ((Below.refl _ w).alloc (Nat.le_refl _) o)
theorem BlkIs.cell {w : World} {b : Nat} {cs : Array Value} {T : TypeId} (h : BlkIs w b cs T) (j : Nat) (v : Value) (hj : cs[j]? = some v) : w.cell? ⟨b, j, none⟩ = some v := by
  rw [Lib.cell_of_heap h]; exact hj
theorem BlkIs.free {w : World} {b : Nat} {cs : Array Value} {T : TypeId} (h : BlkIs w b cs T) (j : Nat) : w.frozen? ⟨b, j, none⟩ = false := Lib.frozen_of_heap h j
theorem BlkIs.grown {w w' : World} {b : Nat} {cs : Array Value} {T : TypeId} {row : Option Nat} (h : BlkIs w b cs T) (hg : w.grownBy w' row) (hne : row ≠ some b) : BlkIs w' b cs T := by unfold BlkIs; rw [hg.block b h.lt (fun e => hne e.symm)]; exact h
theorem BlkIs.set {w : World} {b : Nat} {cs : Array Value} {T : TypeId} (h : BlkIs w b cs T) (j : Nat) (v : Value) : BlkIs (w.setCell ⟨b, j, none⟩ v) b (cs.setIfInBounds j v) T := Joins.block_setCell h v
theorem BlkIs.setOther {w : World} {b : Nat} {cs : Array Value} {T : TypeId} (h : BlkIs w b cs T) (a : Addr) (v : Value) (hne : b ≠ a.block) : BlkIs (w.setCell a v) b cs T := by unfold BlkIs; rw [Below.heap_setCell w a v b hne]; exact h
/-- A row of another type does not stand in such a block. -/
theorem own_blk {w : World} {L b n s : Nat} {cs : Array Value} {T e : TypeId} {v : Value} {xs : List Value} (hown : w.ownsRow L e s v n xs) (h : BlkIs w b cs T) (hne : e ≠ T) : v.ownBlock ≠ some b := by
  rcases hown.2 with ⟨rfl, _⟩ | ⟨g, c, cur, rfl, _, hg, _⟩
  · simp [Value.ownBlock]
  · intro e2
    simp [Value.ownBlock] at e2
    subst e2
    unfold BlkIs at h
    rw [h] at hg
    injection hg with hg
    injection hg with _ hg
    exact hne hg.symm
theorem own_setOther {w : World} {L b j n s : Nat} {e : TypeId} {v u : Value} {xs : List Value} (hown : w.ownsRow L e s v n xs) (hne : v.ownBlock ≠ some b) : (w.setCell ⟨b, j, none⟩ u).ownsRow L e s v n xs :=
  hown.kept (row := some b) ⟨rfl, rfl, rfl, by simp, fun k hk hkb => Below.heap_setCell w ⟨b, j, none⟩ u k (fun e => hkb (by rw [e]))⟩ (Or.inr hne)
abbrev zMed : Array Value := #[.string ⟨#[]⟩, .string ⟨#[]⟩, .slice none 0 0]
abbrev mC (m : Mdm) (v : Value) : Array Value := #[.string ⟨m.ty.toArray⟩, .string ⟨m.sub.toArray⟩, v]
theorem par_bd (i n : Nat) (h : i < n) (hn : n ≤ 1073741824) : i + 1 ≤ maxLen ∧ (i + 1) * 40 ≤ 140737488355328 := by unfold maxLen; omega
theorem cells_new2 (w : World) (o : Obj) (e : TypeId) (l : List Value) : ∀ j u, l[j]? = some u → ((w.alloc o).alloc (.cells l.toArray e)).cell? ((⟨w.heap.size + 1, 0, none⟩ : Addr).add j) = some u := by
  intro j u hu
  have := cells_new (w.alloc o) e l j u hu
  rwa [show (w.alloc o).heap.size = w.heap.size + 1 from by simp] at this
/-- While the parameters are laid: the argument's block, the result's, the variable's, and the row so far. -/
def MdRel (m : Mdm) (av : Value) (w : World) (i : Nat) (v : Value) (wr : World) : Prop := Below w.heap.size w wr ∧ BlkIs wr w.heap.size (mC m av) 24 ∧ BlkIs wr (w.heap.size + 1) zMed 30 ∧ BlkIs wr (w.heap.size + 1 + 1 + 1) (mC m v) 30 ∧ wr.ownsRow w.heap.size 109 3 v i (parsV (m.ps.take i))
set_option maxHeartbeats 4000000 in
theorem media_any (m : Mdm) (mv : Value) (w : World) (hn : m.ps.length ≤ 1073741824) (h : ParsIn w mv m.ps) :
    Calls Tryd.prog 25 #[.agg #[.string ⟨m.ty.toArray⟩, .string ⟨m.sub.toArray⟩, mv]] w fun e w' => ∃ v, e = .returned (.agg #[.string ⟨m.ty.toArray⟩, .string ⟨m.sub.toArray⟩, v]) ∧ w'.ownsRow w.heap.size 109 3 v m.ps.length (parsV m.ps) ∧ Below w.heap.size w w' := by
  obtain ⟨ty, sub, ps⟩ := m
  obtain ⟨ao, cap, rfl, hat⟩ := h
  obtain ⟨i0, hi0, hz0, hz1, hz2⟩ := info_partsRO infoRParO
  simp only at hn hat
  have hrel : MdRel ⟨ty, sub, ps⟩ (.slice ao ps.length cap) w 0 (.slice (some ⟨w.heap.size + 1 + 1, 0, none⟩) 0 0) ((((w.alloc (.cells (mC ⟨ty, sub, ps⟩ (.slice ao ps.length cap)) 24)).alloc (.cells zMed 30)).alloc (.cells #[] 109)).alloc (.cells (mC ⟨ty, sub, ps⟩ (.slice (some ⟨w.heap.size + 1 + 1, 0, none⟩) 0 0)) 30)) := by
    refine ⟨(((((Below.refl _ w).alloc (Nat.le_refl _) _).alloc (by simp) _).alloc (by simp; omega) _).alloc (by simp; omega) _), (((blkIs_new w _ 24).alloc _).alloc _).alloc _, ?_, ?_, ?_⟩
    · have := (((blkIs_new (w.alloc (.cells (mC ⟨ty, sub, ps⟩ (.slice ao ps.length cap)) 24)) zMed 30).alloc (.cells #[] 109)).alloc (.cells (mC ⟨ty, sub, ps⟩ (.slice (some ⟨w.heap.size + 1 + 1, 0, none⟩) 0 0)) 30))
      simpa using this
    · have := blkIs_new (((w.alloc (.cells (mC ⟨ty, sub, ps⟩ (.slice ao ps.length cap)) 24)).alloc (.cells zMed 30)).alloc (.cells #[] 109)) (mC ⟨ty, sub, ps⟩ (.slice (some ⟨w.heap.size + 1 + 1, 0, none⟩) 0 0)) 30
      simpa using this
    · have := World.ownsRow_made (e := 109) (base := w.heap.size) (size := 3) ((w.alloc (.cells (mC ⟨ty, sub, ps⟩ (.slice ao ps.length cap)) 24)).alloc (.cells zMed 30)) #[] 0 (by simp; omega) (by simp) rfl
      have := this.alloc (.cells (mC ⟨ty, sub, ps⟩ (.slice (some ⟨w.heap.size + 1 + 1, 0, none⟩) 0 0)) 30)
      simpa [parsV, Nat.add_assoc] using this
  have HAT := Lib.hid hat; have HREL := Lib.hid hrel
  clear hat hrel
  go_enter Tryd.func25, Tryd.ntmps25
  go_wp2
  go_loopw [4] (fun iv wr => ∃ (i : Nat) (v : Value), iv = .int .i64 i ∧ i ≤ ps.length ∧ MdRel ⟨ty, sub, ps⟩ (.slice ao ps.length cap) w i v wr) (fun iv _ => ps.length - (intOf iv).toNat)
  case atStart => exact ⟨0, _, rfl, Nat.zero_le _, HREL.out⟩
  case round =>
    clear HREL
    obtain ⟨i, v, rfl, hi, hR⟩ := hrel
    by_cases hlt : i < ps.length
    · obtain ⟨q, hq⟩ : ∃ q, ps[i]? = some q := ⟨_, List.getElem?_eq_getElem hlt⟩
      obtain ⟨hb, hB0, hB1, hB3, hown⟩ := hR
      obtain ⟨g, o, rfl, hg, c0, c1, c2⟩ := HAT.out.below hb i q hq
      have k0 : (0 : Int) ≤ (i : Int) := Int.natCast_nonneg _
      have k1 : (i : Int) < (ps.length : Int) := by omega
      have hwi := wrap64_small i (small30 i _ hi hn)
      have hbd := par_bd i ps.length hlt hn
      have hsn := parsV_take ps i q hq
      have e2 : wr.cell? ⟨w.heap.size, 2, none⟩ = some (.slice (some ⟨g, o, none⟩) ps.length cap) := hB0.cell 2 _ rfl
      have f2 : wr.cell? ⟨w.heap.size + 1 + 1 + 1, 2, none⟩ = some v := hB3.cell 2 _ rfl
      have l3 : w.heap.size + 1 + 1 + 1 < wr.heap.size := hB3.lt
      obtain ⟨q1, q2, q3⟩ := q
      simp only at c0 c1 c2 hsn
      have hbL := hb.size
      have HO := Lib.hid hown; have HW := Lib.hid hwi; have HSN := Lib.hid hsn; have HB := Lib.hid (And.intro hb (And.intro hB0 (And.intro hB1 hB3)))
      clear hown hwi hsn hb hB0 hB1 hB3 hq
      go_wp2_with (at_builtin; refine wpList_append_own _ rfl (.tmp 25) (.tmp 33) 28 rfl w.heap.size 109 i0 (.agg #[.string ByteArray.empty, .string ByteArray.empty, .bool false]) 3 40 Tryd.underlying28 hi0 hz0 hz1 hz2 rfl (by decide) _ _ _ rfl ((HO.out.alloc _).alloc _) ⟨wr.heap.size + 1, 0, none⟩ 1 1 [.string ⟨q1.toArray⟩, .string ⟨q2.toArray⟩, .bool q3] rfl rfl (cells_new2 _ _ _ _) (by simp [Value.oneCell']) hbd.1 hbd.2 ?dd ?_)
      case dd => omega
      intro v1 w7 hI1 hg7 _
      obtain ⟨ao1, cap1, rfl⟩ := own_slice hI1
      obtain ⟨hb, hB0, hB1, hB3⟩ := HB.out
      have ho2 := (HO.out.alloc (parO (q1, q2, q3) 80)).alloc (parO (q1, q2, q3) 109)
      have hA0 := (hB0.alloc (parO (q1, q2, q3) 80)).alloc (parO (q1, q2, q3) 109)
      have hA1 := (hB1.alloc (parO (q1, q2, q3) 80)).alloc (parO (q1, q2, q3) 109)
      have hA3 := (hB3.alloc (parO (q1, q2, q3) 80)).alloc (parO (q1, q2, q3) 109)
      have hG0 := hA0.grown hg7 (own_blk ho2 hA0 (by decide))
      have hG1 := hA1.grown hg7 (own_blk ho2 hA1 (by decide))
      have hG3 := hA3.grown hg7 (own_blk ho2 hA3 (by decide))
      have hb7 : Below w.heap.size w w7 := ((hb.alloc hbL _).alloc (alloc_le hbL _) _).grown hg7 (alloc_le (alloc_le hbL _) _) (fun k hk => (ho2.lt k hk).1)
      have z2 : w7.cell? ⟨w.heap.size + 1 + 1 + 1, 2, none⟩ = some v := hG3.cell 2 _ rfl
      have y2 := hG3.free 2
      have HR := Lib.hid (show MdRel ⟨ty, sub, ps⟩ (.slice (some ⟨g, o, none⟩) ps.length cap) w (i + 1) (.slice ao1 (i + 1) cap1) (w7.setCell ⟨w.heap.size + 1 + 1 + 1, 2, none⟩ (.slice ao1 (i + 1) cap1)) from
        ⟨hb7.setCell (p := ⟨w.heap.size + 1 + 1 + 1, 2, none⟩) (by show w.heap.size ≤ w.heap.size + 1 + 1 + 1; omega) _, hG0.setOther _ _ (by show w.heap.size ≠ w.heap.size + 1 + 1 + 1; omega), hG1.setOther _ _ (by show w.heap.size + 1 ≠ w.heap.size + 1 + 1 + 1; omega), hG3.set 2 (.slice ao1 (i + 1) cap1), own_setOther (by rw [HSN.out]; exact hI1) (own_blk hI1 hG3 (by decide))⟩)
      clear hI1 hg7 hb hB0 hB1 hB3 ho2 hA0 hA1 hA3 hG0 hG1 hG3 hb7 e2 f2
      go_wp2
      have hwi := HW.out
      go_roundw
      case rel => (try rw [hwi]); clear hwi; exact ⟨i + 1, (.slice ao1 (i + 1) cap1), by go_num, hlt, HR.out⟩
      case measure => (try rw [hwi]); clear hwi; simp [intOf]; omega
    · obtain rfl : i = ps.length := by omega
      obtain ⟨hb, hB0, hB1, hB3, hown⟩ := hR
      rw [List.take_length] at hown
      obtain ⟨ao1, cap1, rfl⟩ := own_slice hown
      have hd : decide (ps.length < ps.length) = false := decide_eq_false (Nat.lt_irrefl _)
      have e2 : wr.cell? ⟨w.heap.size, 2, none⟩ = some (.slice ao ps.length cap) := hB0.cell 2 _ rfl
      have f0 : wr.cell? ⟨w.heap.size + 1 + 1 + 1, 0, none⟩ = some (.string ⟨ty.toArray⟩) := hB3.cell 0 _ rfl
      have f1 : wr.cell? ⟨w.heap.size + 1 + 1 + 1, 1, none⟩ = some (.string ⟨sub.toArray⟩) := hB3.cell 1 _ rfl
      have f2 : wr.cell? ⟨w.heap.size + 1 + 1 + 1, 2, none⟩ = some (.slice ao1 ps.length cap1) := hB3.cell 2 _ rfl
      have z0 : wr.cell? ⟨w.heap.size + 1, 0, none⟩ = some (.string ⟨#[]⟩) := hB1.cell 0 _ rfl
      have z1 : wr.cell? ⟨w.heap.size + 1, 1, none⟩ = some (.string ⟨#[]⟩) := hB1.cell 1 _ rfl
      have z2 : wr.cell? ⟨w.heap.size + 1, 2, none⟩ = some (.slice none 0 0) := hB1.cell 2 _ rfl
      have y0 := hB1.free 0
      have y1 := hB1.free 1
      have y2 := hB1.free 2
      have lt5 := hB1.lt
      have hne := own_blk hown hB1 (by decide)
      have HZ := Lib.hid (show BlkIs _ (w.heap.size + 1) (mC ⟨ty, sub, ps⟩ (.slice ao1 ps.length cap1)) 30 from ((hB1.set 0 (.string ⟨ty.toArray⟩)).set 1 (.string ⟨sub.toArray⟩)).set 2 (.slice ao1 ps.length cap1))
      have HX := Lib.hid (And.intro hb (own_setOther (j := 2) (u := .slice ao1 ps.length cap1) (own_setOther (j := 1) (u := .string ⟨sub.toArray⟩) (own_setOther (j := 0) (u := .string ⟨ty.toArray⟩) hown hne) hne) hne))
      clear hb hB0 hB1 hB3 hown hne
      go_wp2
      (try simp only [Exit.inBlock, Exit.then])
      refine bodyPost_ret (v := .agg #[.string ⟨ty.toArray⟩, .string ⟨sub.toArray⟩, .slice ao1 ps.length cap1]) ?mr rfl ⟨.slice ao1 ps.length cap1, rfl, ?mo, ?mb⟩
      case mr => exact results_cell_row (p := 2) (ty := 30) rfl _ _ (w.heap.size + 1) 30 _ (0, 0) _ rfl HZ.out Tryd.underlying30 rfl (by kernel_rfl)
      case mo => exact HX.out.2
      case mb => exact ((HX.out.1.setCell (p := ⟨w.heap.size + 1, 0, none⟩) (by simp) _).setCell (p := ⟨w.heap.size + 1, 1, none⟩) (by simp) _).setCell (p := ⟨w.heap.size + 1, 2, none⟩) (by simp) _
end Go.Proofs.YthnniiakmjonjaaDoor
