/- The walks of Lower: octet's and the reference's. Conditions: fewer than 2^40 bytes. -/
import Derived.Test.YtdlpbpikhmciaaaGreatDoorOct5
import Derived.Test.YtdlpbpikhmciaaaGreatDoorRow1
namespace Go.Proofs.YtdlpbpikhmciaaaGreatDoor
open Go.RowKit
set_option linter.unusedSimpArgs false
set_option linter.unusedVariables false
set_option maxRecDepth 1000000
/-- Bytes in a block of the call's own: cell j holds f j. -/
structure LowAt (w : World) (g n : Nat) (f : Nat → UInt8) : Prop where
  lt : g < w.heap.size
  cell : ∀ j, j < n → w.cell? ⟨g, j, none⟩ = some (.int .u8 ((f j).toNat : Int))
  free : ∀ j, j < n → w.frozen? ⟨g, j, none⟩ = false
def lowF (l : List UInt8) (i j : Nat) : UInt8 := if j < i then low (l.getD j 0) else l.getD j 0
theorem lowAt_string (w : World) (e : TypeId) (s : ByteArray) : LowAt (Lib.bytesWorld w e s) w.heap.size s.size (lowF s.data.toList 0) := by
  refine ⟨by rw [Lib.bytesWorld_size]; omega, fun j hj => ?_, fun j hj => ?_⟩
  · rw [Lib.bytesWorld_cell w e s j hj]; rfl
  · have hn : s.size ≤ (Lib.bytesCells w e s).size := by
      unfold Lib.bytesCells; rw [Array.size_append, Array.size_map]; exact Nat.le_add_right _ _
    unfold World.frozen?
    rw [Lib.bytesWorld_at_new]
    show (decide ((Lib.bytesCells w e s).size ≤ j) && decide (j < (Lib.bytesCells w e s).size + 1)) = false
    rw [decide_eq_false (by omega)]; rfl
theorem bytesBelow (w : World) (e : TypeId) (s : ByteArray) : Below w.heap.size w (Lib.bytesWorld w e s) :=
  ⟨rfl, rfl, rfl, by rw [Lib.bytesWorld_size]; omega, fun k hk => Lib.bytesWorld_at_old w e s k hk⟩
theorem LowAt.keep {w : World} {g n : Nat} {l : List UInt8} {i : Nat} {c : UInt8} (h : LowAt w g n (lowF l i)) (hc : l[i]? = some c) (hl : low c = c) : LowAt w g n (lowF l (i + 1)) := by
  have e : lowF l (i + 1) = lowF l i := by
    funext j
    unfold lowF
    by_cases h1 : j < i
    · rw [if_pos h1, if_pos (by omega)]
    · rw [if_neg h1]
      by_cases h2 : j = i
      · subst h2; rw [if_pos (by omega), List.getD_eq_getElem?_getD, hc]; exact hl
      · rw [if_neg (by omega)]
  rw [e]; exact h
theorem LowAt.set {w : World} {g n : Nat} {l : List UInt8} {i : Nat} {c : UInt8} (h : LowAt w g n (lowF l i)) (hc : l[i]? = some c) (hi : i < n) : LowAt (w.setCell ⟨g, i, none⟩ (.int .u8 ((low c).toNat : Int))) g n (lowF l (i + 1)) := by
  refine ⟨by simpa [World.setCell] using h.lt, fun j hj => ?_, fun j hj => by rw [World.frozen?_setCell]; exact h.free j hj⟩
  by_cases h2 : j = i
  · subst h2
    rw [World.cell?_setCell_same _ _ _ (h.cell j hj)]
    unfold lowF
    rw [if_pos (by omega), List.getD_eq_getElem?_getD, hc]; rfl
  · rw [World.cell?_setCell_other _ _ _ _ (by intro e; injection e with _ e _; omega), h.cell j hj]
    unfold lowF
    by_cases h1 : j < i
    · rw [if_pos h1, if_pos (by omega)]
    · rw [if_neg h1, if_neg (by omega)]
theorem LowAt.cellAt {w : World} {g n : Nat} {l : List UInt8} {i : Nat} {c : UInt8} (h : LowAt w g n (lowF l i)) (hc : l[i]? = some c) (hi : i < n) : w.cell? ⟨g, i, none⟩ = some (.int .u8 (c.toNat : Int)) := by
  rw [h.cell i hi]
  unfold lowF
  rw [if_neg (by omega), List.getD_eq_getElem?_getD, hc]; rfl
theorem LowAt.done {w : World} {g : Nat} {s : ByteArray} (h : LowAt w g s.size (lowF s.data.toList s.size)) : ∀ j (hj : j < (lowL s.data.toList).length), w.cell? ⟨g, 0 + j, none⟩ = some (.int .u8 ((lowL s.data.toList)[j]'hj).toNat) := by
  intro j hj
  have hj2 : j < s.size := by rw [lowL_len, size_list] at hj; exact hj
  rw [Nat.zero_add, h.cell j hj2]
  unfold lowF
  rw [if_pos hj2]
  have h2 : j < s.data.toList.length := by rw [size_list]; exact hj2
  simp only [lowL, List.getElem_map, List.getD_eq_getElem?_getD, List.getElem?_eq_getElem h2, Option.getD_some]
theorem low_up (c : UInt8) (n : Nat) (h : c.toNat = n) (h1 : 65 ≤ n) (h2 : n ≤ 90) : ((low c).toNat : Int) = (n : Int) + 32 := by
  subst h
  unfold low
  rw [if_pos ⟨h1, h2⟩]
  simp; omega
theorem low_same (c : UInt8) (n : Nat) (h : c.toNat = n) (h1 : ¬ (65 ≤ n ∧ n ≤ 90)) : low c = c := by
  subst h
  unfold low
  rw [if_neg h1]
theorem u8w (n : Nat) (h : n < 256) : IntKind.u8.wrap (n : Int) = (n : Int) := IntWalk.u8_in _ (by omega)
set_option maxHeartbeats 2000000 in
theorem olower_any (s : ByteArray) (w : World) (hs : s.size ≤ 1099511627776) :
    Calls Tryz.prog 148 #[.string s] w fun e w' => e = .returned (.string ⟨(lowL s.data.toList).toArray⟩) ∧ Below w.heap.size w w' := by
  have hr0 := lowAt_string w 5 s
  have hb0 := bytesBelow w 5 s
  have hcv := Lib.run_convert_string_bytes (P := Tryz.prog) w 9 81 5 s Tryz.underlying9 Tryz.underlying81 Tryz.underlying5
  obtain ⟨L, hL⟩ : ∃ L, w.heap.size = L := ⟨_, rfl⟩
  rw [hL] at hr0 hb0 hcv
  obtain ⟨W0, hW0⟩ : ∃ W0, Lib.bytesWorld w 5 s = W0 := ⟨_, rfl⟩
  rw [hW0] at hr0 hb0 hcv
  have HR0 := Lib.hid hr0; have HB0 := Lib.hid hb0
  clear hr0 hb0 hW0
  have HL := Lib.hid hL; clear hL
  go_enter Tryz.func148, Tryz.ntmps148
  go_wp2
  go_loopw [10] (fun iv wr => ∃ i : Nat, iv = .int .i64 i ∧ i ≤ s.size ∧ LowAt wr L s.size (lowF s.data.toList i) ∧ Below L w wr) (fun iv _ => s.size - (intOf iv).toNat)
  case atStart => exact ⟨0, rfl, Nat.zero_le _, HR0.out, HB0.out⟩
  case round =>
    clear HR0 HB0 hcv
    obtain ⟨i, rfl, hi, hr, hb⟩ := hrel
    by_cases hlt : i < s.size
    · obtain ⟨c, hc⟩ : ∃ c, s[i]'hlt = c := ⟨_, rfl⟩
      have hget := list_get s i hlt
      rw [hc] at hget
      clear hc
      have cell := hr.cellAt hget hlt
      have free := hr.free i hlt
      obtain ⟨n, hn⟩ : ∃ n, c.toNat = n := ⟨_, rfl⟩
      have ln : n < 256 := by rw [← hn]; exact c.toBitVec.isLt
      rw [hn] at cell
      have k0 : (0 : Int) ≤ (i : Int) := Int.natCast_nonneg _
      have k1 : (i : Int) < (s.size : Int) := by omega
      have hwi := w64o i (le_oo i s.size hi hs)
      have HW := Lib.hid hwi; clear hwi
      by_cases hup : 65 ≤ n ∧ n ≤ 90
      · have hr2 := hr.set hget hlt
        rw [low_up c n hn hup.1 hup.2] at hr2
        have hb2 : Below L w (wr.setCell ⟨L, i, none⟩ (.int .u8 ((n : Int) + 32))) := hb.setCell (p := ⟨L, i, none⟩) (Nat.le_refl _) _
        have i1 : (65 : Int) ≤ (n : Int) := by omega
        have i2 : (n : Int) ≤ 90 := by omega
        have HX := Lib.hid (And.intro hr2 hb2)
        clear hr2 hb2 hr hb hget hn
        go_wp2
        rw [show (n : Int) + 97 - 65 = (n : Int) + 32 from by omega]
        have hwi := HW.out
        go_roundw
        case rel => (try rw [hwi]); clear hwi; exact ⟨i + 1, by go_num, by omega, HX.out.1, HX.out.2⟩
        case measure => (try rw [hwi]); clear hwi; simp [intOf]; omega
      · have hr2 := hr.keep hget (low_same c n hn hup)
        have HX := Lib.hid (And.intro hr2 hb)
        clear hr2 hb hr hget hn
        have hcase : n < 65 ∨ (65 ≤ n ∧ 90 < n) := by omega
        rcases hcase with h1 | ⟨h1, h2⟩
        · have i1 : ¬ (65 : Int) ≤ (n : Int) := by omega
          go_wp2
          have hwi := HW.out
          go_roundw
          case rel => (try rw [hwi]); clear hwi; exact ⟨i + 1, by go_num, by omega, HX.out.1, HX.out.2⟩
          case measure => (try rw [hwi]); clear hwi; simp [intOf]; omega
        · have i1 : (65 : Int) ≤ (n : Int) := by omega
          have i2 : ¬ (n : Int) ≤ 90 := by omega
          go_wp2
          have hwi := HW.out
          go_roundw
          case rel => (try rw [hwi]); clear hwi; exact ⟨i + 1, by go_num, by omega, HX.out.1, HX.out.2⟩
          case measure => (try rw [hwi]); clear hwi; simp [intOf]; omega
    · obtain rfl : i = s.size := by omega
      have hd : decide (s.size < s.size) = false := decide_eq_false (Nat.lt_irrefl _)
      have hlen : (lowL s.data.toList).length = s.size := by rw [lowL_len, size_list]
      have hcv := run_str_cells wr 81 5 Tryz.underlying81 Tryz.underlying5 L 0 (grownCap w s.size 0 5) s.size (lowL s.data.toList) hlen hr.done 9 Tryz.underlying9
      have HB := Lib.hid hb
      clear hr hb hlen
      go_wp2
      go_ret
      rw [HL.out]
      exact ⟨rfl, HB.out⟩
end Go.Proofs.YtdlpbpikhmciaaaGreatDoor
