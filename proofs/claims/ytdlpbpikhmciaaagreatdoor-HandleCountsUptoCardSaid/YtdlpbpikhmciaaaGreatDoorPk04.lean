/- Oct5, Oct6, Oct7, CkP: texts of the seat, one behind the other (a claim holds at most sixty). Conditions: each theorem names its own. -/
import Derived.Test.YtdlpbpikhmciaaaGreatDoorPk03
import Derived.Test.YtdlpbpikhmciaaaGreatDoorPk00
import Derived.Shelf.Strings.SlTrimAscii
import Derived.Test.YtdlpbpikhmciaaaGreatDoorPk01
import Derived.Lib.ItoaNum
namespace Go.Proofs.YtdlpbpikhmciaaaGreatDoor
open Go.RowKit
set_option linter.unusedSimpArgs false
set_option linter.unusedVariables false
set_option maxRecDepth 1000000
def unqRet (o : Option (List UInt8 × Nat)) : Value := match o with
  | some (x, k) => .tuple #[.string ⟨x.toArray⟩, .int .i64 (k : Int), .int .i64 0]
  | none => .tuple #[.string ⟨#[]⟩, .int .i64 0, .int .i64 13]
def UnqR (l acc : List UInt8) (i : Nat) : Prop := (unqT (l.drop i)).map (fun x => (acc ++ x.1, i + x.2)) = unq l
theorem UnqR.start (l r : List UInt8) (h : l = 34 :: r) : UnqR l [] 1 := by
  subst h
  unfold UnqR
  rw [show (34 :: r).drop 1 = r from rfl]
  show _ = if (34 : UInt8) = 34 then (unqT r).map fun x => (x.1, x.2 + 1) else none
  rw [if_pos rfl]
  cases unqT r with
  | none => rfl
  | some x => simp [Nat.add_comm]
theorem UnqR.done {l acc : List UInt8} {i : Nat} (h : UnqR l acc i) (hi : l[i]? = some 34) : unq l = some (acc, i + 1) := by
  unfold UnqR at h
  obtain ⟨hl, he⟩ := List.getElem?_eq_some_iff.1 hi
  rw [List.drop_eq_getElem_cons hl, he, unqT.eq_def] at h
  simpa using h.symm
theorem UnqR.over {l acc : List UInt8} {i : Nat} (h : UnqR l acc i) (hi : l.length ≤ i) : unq l = none := by
  unfold UnqR at h
  rw [List.drop_eq_nil_of_le hi, unqT.eq_def] at h
  simpa using h.symm
theorem UnqR.escOver {l acc : List UInt8} {i : Nat} (h : UnqR l acc i) (hi : l[i]? = some 92) (h2 : l.length ≤ i + 1) : unq l = none := by
  unfold UnqR at h
  obtain ⟨hl, he⟩ := List.getElem?_eq_some_iff.1 hi
  rw [List.drop_eq_getElem_cons hl, he, List.drop_eq_nil_of_le h2, unqT.eq_def] at h
  simpa using h.symm
theorem UnqR.esc {l acc : List UInt8} {i : Nat} {d : UInt8} (h : UnqR l acc i) (hi : l[i]? = some 92) (h2 : l[i + 1]? = some d) (hf : isFb d = true) : UnqR l (acc ++ [d]) (i + 2) := by
  unfold UnqR at h ⊢
  obtain ⟨hl, he⟩ := List.getElem?_eq_some_iff.1 hi
  obtain ⟨hl2, he2⟩ := List.getElem?_eq_some_iff.1 h2
  rw [List.drop_eq_getElem_cons hl, he, List.drop_eq_getElem_cons hl2, he2, unqT.eq_def] at h
  simp only [show ¬ (92 : UInt8) = 34 from by decide, if_false, if_true, hf] at h
  rw [← h]
  cases unqT (List.drop (i + 1 + 1) l) with
  | none => rfl
  | some x => simp; omega
theorem UnqR.escBad {l acc : List UInt8} {i : Nat} {d : UInt8} (h : UnqR l acc i) (hi : l[i]? = some 92) (h2 : l[i + 1]? = some d) (hf : isFb d = false) : unq l = none := by
  unfold UnqR at h
  obtain ⟨hl, he⟩ := List.getElem?_eq_some_iff.1 hi
  obtain ⟨hl2, he2⟩ := List.getElem?_eq_some_iff.1 h2
  rw [List.drop_eq_getElem_cons hl, he, List.drop_eq_getElem_cons hl2, he2, unqT.eq_def] at h
  simp only [show ¬ (92 : UInt8) = 34 from by decide, if_false, if_true, hf] at h
  simpa using h.symm
theorem UnqR.more {l acc : List UInt8} {i : Nat} {c : UInt8} (h : UnqR l acc i) (hi : l[i]? = some c) (h1 : c ≠ 34) (h2 : c ≠ 92) (hf : isFb c = true) : UnqR l (acc ++ [c]) (i + 1) := by
  unfold UnqR at h ⊢
  obtain ⟨hl, he⟩ := List.getElem?_eq_some_iff.1 hi
  rw [List.drop_eq_getElem_cons hl, he, unqT.eq_def] at h
  simp only [if_neg h1, if_neg h2, hf, if_true] at h
  rw [← h]
  cases unqT (List.drop (i + 1) l) with
  | none => rfl
  | some x => simp; omega
theorem UnqR.bad {l acc : List UInt8} {i : Nat} {c : UInt8} (h : UnqR l acc i) (hi : l[i]? = some c) (h1 : c ≠ 34) (h2 : c ≠ 92) (hf : isFb c = false) : unq l = none := by
  unfold UnqR at h
  obtain ⟨hl, he⟩ := List.getElem?_eq_some_iff.1 hi
  rw [List.drop_eq_getElem_cons hl, he, unqT.eq_def] at h
  simp only [if_neg h1, if_neg h2, hf] at h
  simpa using h.symm
theorem unq_no (l : List UInt8) (c : UInt8) (h : l[0]? = some c) (hc : c ≠ 34) : unq l = none := by
  cases l with
  | nil => simp at h
  | cons d r =>
    obtain rfl : d = c := by simpa using h
    unfold unq
    simp only [if_neg hc]
theorem ne_u8o (c : UInt8) (m : Nat) (hm : m < 256) (h : c ≠ UInt8.ofNat m) : ((c.toNat : Int) == (m : Int)) = false ∧ ((c.toNat : Int) != (m : Int)) = true := by
  have : c.toNat ≠ m := fun e => h (by rw [← e]; simp)
  constructor
  · simp; omega
  · simp; omega
theorem eq_u8o (m : Nat) (hm : m < 256) : (((UInt8.ofNat m).toNat : Int) == (m : Int)) = true ∧ (((UInt8.ofNat m).toNat : Int) != (m : Int)) = false := by
  have : (UInt8.ofNat m).toNat = m := by simp; omega
  rw [this]; simp
theorem emp_o (s : ByteArray) (h : s.size = 0) : s = ⟨#[]⟩ := by
  refine ba_ext ?_
  rw [show (⟨#[]⟩ : ByteArray).data.toList = [] from rfl]
  exact List.eq_nil_of_length_eq_zero (by rw [size_list]; exact h)
theorem full_o (s : ByteArray) (h : 0 < s.size) : s.toList.isEmpty = false := by
  rw [ByteArray.toList_eq]
  cases hl : s.data.toList with
  | nil => have := size_list s; rw [hl] at this; simp at this; omega
  | cons => rfl
theorem full_o2 (s : ByteArray) (h : 0 < s.size) : ¬ s.toList = [] := by
  intro e
  have := full_o s h
  rw [e] at this; cases this
theorem unq_bd (a i s : Nat) (h : a ≤ i) (hi : i ≤ s) (hs : s ≤ 1099511627776) : a + 1 ≤ 140737488355328 := by omega
set_option maxHeartbeats 4000000 in
theorem ounq_any (s : ByteArray) (w : World) (hs : s.size ≤ 1099511627776) :
    Calls Tryz.prog 252 #[.string s] w fun e w' => e = .returned (unqRet (unq s.data.toList)) ∧ Below w.heap.size w w' := by
  by_cases h0 : s.size = 0
  · obtain rfl := emp_o s h0
    clear h0
    go_enter Tryz.func252, Tryz.ntmps252
    go_wp2
    go_ret3
    exact ⟨rfl, Below.refl _ _⟩
  · have hpos : 0 < s.size := by omega
    clear h0
    obtain ⟨c0, hc0⟩ : ∃ c, s[0]'hpos = c := ⟨_, rfl⟩
    have hg0 := list_get s 0 hpos
    rw [hc0] at hg0
    have e0 := full_o s hpos
    have e1 := full_o2 s hpos
    have p0 : (0 : Int) < (s.size : Int) := by omega
    by_cases hq : c0 = 34
    · subst hq
      have hst : UnqR s.data.toList [] 1 := UnqR.start _ (s.data.toList.drop 1) (by rw [← hc0]; exact drop_get s 0 hpos ▸ rfl)
      have HST := Lib.hid (And.intro hst hg0)
      clear hst hg0
      go_enter Tryz.func252, Tryz.ntmps252
      go_wp2
      go_loopw [6] (fun iv wr => ∃ (i : Nat) (acc : List UInt8), iv = .int .i64 i ∧ 1 ≤ i ∧ i ≤ s.size ∧ acc.length ≤ i ∧ UnqR s.data.toList acc i ∧ Lib.IsBuilder 83 5 w.heap.size w.heap.size (Lib.byteCells acc) wr ∧ Below w.heap.size w wr)
        (fun iv _ => s.size - (intOf iv).toNat)
      case atStart => exact ⟨1, [], rfl, Nat.le_refl _, hpos, Nat.zero_le _, HST.out.1, Lib.fresh_isBuilder _ _ w, (Below.refl _ w).alloc (Nat.le_refl _) _⟩
      case round =>
        clear e0 e1 hc0 HST
        obtain ⟨i, acc, rfl, hi1, hi, hal, hR, hO, hbw⟩ := hrel
        have hbd := unq_bd acc.length i s.size hal hi hs
        have hBw := hbw.size
        have HR := Lib.hid hR; clear hR
        by_cases hlt : i < s.size
        · obtain ⟨c, hc⟩ : ∃ c, s[i]'hlt = c := ⟨_, rfl⟩
          have hget := list_get s i hlt
          rw [hc] at hget
          have HG := Lib.hid hget; clear hget
          have k0 : (0 : Int) ≤ (i : Int) := Int.natCast_nonneg _
          have k1 : (i : Int) < (s.size : Int) := by omega
          have hwi := w64o i (le_oo i s.size hi hs)
          obtain ⟨j, hj⟩ : ∃ j, i + 1 = j := ⟨_, rfl⟩
          have f1 : (i : Int) + 1 = (j : Int) := by omega
          have hjs : j ≤ s.size := by omega
          have HJ := Lib.hid hj; clear hj
          have HW := Lib.hid hwi; clear hwi
          by_cases h34 : c = 34
          · subst h34
            have hD := Lib.hid (HR.out.done HG.out)
            have HO := Lib.hid hO
            clear hO
            have b1 := (eq_u8o 34 (by decide)).1
            have hwj := w64j j (le_oo j s.size hjs hs)
            go_wp2_with (go_at_call 35; refine (Tryz.Builder_String_any _ _ acc _ HO.out hBw).mono ?_)
            rintro e w1 ⟨rfl, hb1⟩
            go_wp2
            go_ret3
            refine ⟨?_, hbw.trans hb1⟩
            rw [hD.out, HJ.out]; rfl
          · obtain ⟨b34, b34n⟩ := ne_u8o c 34 (by decide) h34
            by_cases h92 : c = 92
            · subst h92
              by_cases hl2 : j < s.size
              · obtain ⟨d, hd⟩ : ∃ d, s[j]'hl2 = d := ⟨_, rfl⟩
                have hget2 := list_get s j hl2
                rw [hd] at hget2
                rw [← HJ.out] at hget2
                have HG2 := Lib.hid hget2; clear hget2
                have l0 : (0 : Int) ≤ (j : Int) := Int.natCast_nonneg _
                have l1 : (j : Int) < (s.size : Int) := by omega
                have l2 : ((j : Int) == (s.size : Int)) = false := by simp; omega
                have hwj := w64o j (le_oo j s.size hjs hs)
                have HWJ := Lib.hid hwj; clear hwj
                cases hf : isFb d with
                | true =>
                  have hR2 := HR.out.esc HG.out HG2.out hf
                  have HR2 := Lib.hid (And.intro hR2 hf); clear hR2 hf
                  go_wp2_with fail
                  refine (ofield_any d _).mono ?_
                  rintro e wr ⟨rfl, rfl⟩
                  rw [HR2.out.2]
                  go_wp2_with fail
                  refine (writeByte_u8 _ _ acc d _ hO hbd hBw).mono ?_
                  rintro e w2 ⟨rfl, hO2, hb2⟩
                  have hwj := HWJ.out
                  go_wp2
                  go_roundw
                  case rel => (try rw [hwj]); clear hwj f1; exact ⟨j + 1, acc ++ [d], by go_num, by omega, by omega, by rw [List.length_append, ← HJ.out]; simp; omega, by rw [← HJ.out]; exact HR2.out.1, hO2, hbw.trans hb2⟩
                  case measure => (try rw [hwj]); clear hwj; simp [intOf]; omega
                | false =>
                  have hD := HR.out.escBad HG.out HG2.out hf
                  have HD := Lib.hid (And.intro hD hf); clear hD hf
                  go_wp2_with fail
                  refine (ofield_any d _).mono ?_
                  rintro e wr ⟨rfl, rfl⟩
                  rw [HD.out.2]
                  go_wp2
                  go_ret3
                  refine ⟨?_, hbw⟩
                  rw [HD.out.1]; rfl
              · obtain rfl : j = s.size := by omega
                have l2 : ((s.size : Int) == (s.size : Int)) = true := by simp
                have hD := Lib.hid (HR.out.escOver HG.out (by rw [size_list, HJ.out]; exact Nat.le_refl _))
                go_wp2
                go_ret3
                refine ⟨?_, hbw⟩
                rw [hD.out]; rfl
            · obtain ⟨b92, b92n⟩ := ne_u8o c 92 (by decide) h92
              cases hf : isFb c with
              | true =>
                have hR2 := HR.out.more HG.out h34 h92 hf
                have HR2 := Lib.hid (And.intro hR2 hf); clear hR2 hf
                go_wp2_with fail
                refine (ofield_any c _).mono ?_
                rintro e wr ⟨rfl, rfl⟩
                rw [HR2.out.2]
                go_wp2_with fail
                refine (writeByte_u8 _ _ acc c _ hO hbd hBw).mono ?_
                rintro e w2 ⟨rfl, hO2, hb2⟩
                have hwi := HW.out
                go_wp2
                go_roundw
                case rel => (try rw [hwi]); clear hwi; exact ⟨i + 1, acc ++ [c], by go_num, by omega, by omega, by rw [List.length_append]; simp; omega, HR2.out.1, hO2, hbw.trans hb2⟩
                case measure => (try rw [hwi]); clear hwi; simp [intOf]; omega
              | false =>
                have hD := HR.out.bad HG.out h34 h92 hf
                have HD := Lib.hid (And.intro hD hf); clear hD hf
                go_wp2_with fail
                refine (ofield_any c _).mono ?_
                rintro e wr ⟨rfl, rfl⟩
                rw [HD.out.2]
                go_wp2
                go_ret3
                refine ⟨?_, hbw⟩
                rw [HD.out.1]; rfl
        · have hD := Lib.hid (HR.out.over (by rw [size_list]; omega))
          have hge : i = s.size := by omega
          have hd : decide (i < s.size) = false := decide_eq_false hlt
          clear hge
          go_wp2
          go_ret3
          refine ⟨?_, hbw⟩
          rw [hD.out]; rfl
    · have hD := Lib.hid (unq_no _ c0 hg0 hq)
      have b0 := (ne_u8o c0 34 (by decide) hq).2
      clear hg0
      go_enter Tryz.func252, Tryz.ntmps252
      go_wp2
      go_ret3
      refine ⟨?_, Below.refl _ _⟩
      rw [hD.out]; rfl
end Go.Proofs.YtdlpbpikhmciaaaGreatDoor
namespace Go.Proofs.YtdlpbpikhmciaaaGreatDoor
open Go.RowKit
set_option linter.unusedSimpArgs false
set_option linter.unusedVariables false
set_option maxRecDepth 1000000
/-- Bytes in a block of the call's own: cell j holds f j. -/
structure LowAt (w : World) (g n : Nat) (f : Nat → UInt8) : Prop where
  lt : g < w.heap.size
  cell : ∀ j, j < n → w.cell? ⟨g, j, none⟩ = some (.int .u8 ((f j).toNat : Int))
  free : ∀ j, j < n → w.frozen? ⟨g, j, none⟩ = false
def lowF (l : List UInt8) (i j : Nat) : UInt8 := if j < i then low (l.getD j 0) else l.getD j 0
theorem lowAt_string (w : World) (e : TypeId) (s : ByteArray) : LowAt (Lib.bytesWorld w e s) w.heap.size s.size (lowF s.data.toList 0) := by
  refine ⟨by rw [Lib.bytesWorld_size]; omega, fun j hj => ?_, fun j hj => ?_⟩
  · rw [Lib.bytesWorld_cell w e s j hj]; rfl
  · have hn : s.size ≤ (Lib.bytesCells w e s).size := by
      unfold Lib.bytesCells; rw [Array.size_append, Array.size_map]; exact Nat.le_add_right _ _
    unfold World.frozen?
    rw [Lib.bytesWorld_at_new]
    show (decide ((Lib.bytesCells w e s).size ≤ j) && decide (j < (Lib.bytesCells w e s).size + 1)) = false
    rw [decide_eq_false (by omega)]; rfl
theorem bytesBelow (w : World) (e : TypeId) (s : ByteArray) : Below w.heap.size w (Lib.bytesWorld w e s) :=
  ⟨rfl, rfl, rfl, by rw [Lib.bytesWorld_size]; omega, fun k hk => Lib.bytesWorld_at_old w e s k hk⟩
theorem LowAt.keep {w : World} {g n : Nat} {l : List UInt8} {i : Nat} {c : UInt8} (h : LowAt w g n (lowF l i)) (hc : l[i]? = some c) (hl : low c = c) : LowAt w g n (lowF l (i + 1)) := by
  have e : lowF l (i + 1) = lowF l i := by
    funext j
    unfold lowF
    by_cases h1 : j < i
    · rw [if_pos h1, if_pos (by omega)]
    · rw [if_neg h1]
      by_cases h2 : j = i
      · subst h2; rw [if_pos (by omega), List.getD_eq_getElem?_getD, hc]; exact hl
      · rw [if_neg (by omega)]
  rw [e]; exact h
theorem LowAt.set {w : World} {g n : Nat} {l : List UInt8} {i : Nat} {c : UInt8} (h : LowAt w g n (lowF l i)) (hc : l[i]? = some c) (hi : i < n) : LowAt (w.setCell ⟨g, i, none⟩ (.int .u8 ((low c).toNat : Int))) g n (lowF l (i + 1)) := by
  refine ⟨by simpa [World.setCell] using h.lt, fun j hj => ?_, fun j hj => by rw [World.frozen?_setCell]; exact h.free j hj⟩
  by_cases h2 : j = i
  · subst h2
    rw [World.cell?_setCell_same _ _ _ (h.cell j hj)]
    unfold lowF
    rw [if_pos (by omega), List.getD_eq_getElem?_getD, hc]; rfl
  · rw [World.cell?_setCell_other _ _ _ _ (by intro e; injection e with _ e _; omega), h.cell j hj]
    unfold lowF
    by_cases h1 : j < i
    · rw [if_pos h1, if_pos (by omega)]
    · rw [if_neg h1, if_neg (by omega)]
theorem LowAt.cellAt {w : World} {g n : Nat} {l : List UInt8} {i : Nat} {c : UInt8} (h : LowAt w g n (lowF l i)) (hc : l[i]? = some c) (hi : i < n) : w.cell? ⟨g, i, none⟩ = some (.int .u8 (c.toNat : Int)) := by
  rw [h.cell i hi]
  unfold lowF
  rw [if_neg (by omega), List.getD_eq_getElem?_getD, hc]; rfl
theorem LowAt.done {w : World} {g : Nat} {s : ByteArray} (h : LowAt w g s.size (lowF s.data.toList s.size)) : ∀ j (hj : j < (lowL s.data.toList).length), w.cell? ⟨g, 0 + j, none⟩ = some (.int .u8 ((lowL s.data.toList)[j]'hj).toNat) := by
  intro j hj
  have hj2 : j < s.size := by rw [lowL_len, size_list] at hj; exact hj
  rw [Nat.zero_add, h.cell j hj2]
  unfold lowF
  rw [if_pos hj2]
  have h2 : j < s.data.toList.length := by rw [size_list]; exact hj2
  simp only [lowL, List.getElem_map, List.getD_eq_getElem?_getD, List.getElem?_eq_getElem h2, Option.getD_some]
theorem low_up (c : UInt8) (n : Nat) (h : c.toNat = n) (h1 : 65 ≤ n) (h2 : n ≤ 90) : ((low c).toNat : Int) = (n : Int) + 32 := by
  subst h
  unfold low
  rw [if_pos ⟨h1, h2⟩]
  simp; omega
theorem low_same (c : UInt8) (n : Nat) (h : c.toNat = n) (h1 : ¬ (65 ≤ n ∧ n ≤ 90)) : low c = c := by
  subst h
  unfold low
  rw [if_neg h1]
theorem u8w (n : Nat) (h : n < 256) : IntKind.u8.wrap (n : Int) = (n : Int) := IntWalk.u8_in _ (by omega)
set_option maxHeartbeats 2000000 in
theorem olower_any (s : ByteArray) (w : World) (hs : s.size ≤ 1099511627776) :
    Calls Tryz.prog 148 #[.string s] w fun e w' => e = .returned (.string ⟨(lowL s.data.toList).toArray⟩) ∧ Below w.heap.size w w' := by
  have hr0 := lowAt_string w 5 s
  have hb0 := bytesBelow w 5 s
  have hcv := Lib.run_convert_string_bytes (P := Tryz.prog) w 9 81 5 s Tryz.underlying9 Tryz.underlying81 Tryz.underlying5
  obtain ⟨L, hL⟩ : ∃ L, w.heap.size = L := ⟨_, rfl⟩
  rw [hL] at hr0 hb0 hcv
  obtain ⟨W0, hW0⟩ : ∃ W0, Lib.bytesWorld w 5 s = W0 := ⟨_, rfl⟩
  rw [hW0] at hr0 hb0 hcv
  have HR0 := Lib.hid hr0; have HB0 := Lib.hid hb0
  clear hr0 hb0 hW0
  have HL := Lib.hid hL; clear hL
  go_enter Tryz.func148, Tryz.ntmps148
  go_wp2
  go_loopw [10] (fun iv wr => ∃ i : Nat, iv = .int .i64 i ∧ i ≤ s.size ∧ LowAt wr L s.size (lowF s.data.toList i) ∧ Below L w wr) (fun iv _ => s.size - (intOf iv).toNat)
  case atStart => exact ⟨0, rfl, Nat.zero_le _, HR0.out, HB0.out⟩
  case round =>
    clear HR0 HB0 hcv
    obtain ⟨i, rfl, hi, hr, hb⟩ := hrel
    by_cases hlt : i < s.size
    · obtain ⟨c, hc⟩ : ∃ c, s[i]'hlt = c := ⟨_, rfl⟩
      have hget := list_get s i hlt
      rw [hc] at hget
      clear hc
      have cell := hr.cellAt hget hlt
      have free := hr.free i hlt
      obtain ⟨n, hn⟩ : ∃ n, c.toNat = n := ⟨_, rfl⟩
      have ln : n < 256 := by rw [← hn]; exact c.toBitVec.isLt
      rw [hn] at cell
      have k0 : (0 : Int) ≤ (i : Int) := Int.natCast_nonneg _
      have k1 : (i : Int) < (s.size : Int) := by omega
      have hwi := w64o i (le_oo i s.size hi hs)
      have HW := Lib.hid hwi; clear hwi
      by_cases hup : 65 ≤ n ∧ n ≤ 90
      · have hr2 := hr.set hget hlt
        rw [low_up c n hn hup.1 hup.2] at hr2
        have hb2 : Below L w (wr.setCell ⟨L, i, none⟩ (.int .u8 ((n : Int) + 32))) := hb.setCell (p := ⟨L, i, none⟩) (Nat.le_refl _) _
        have i1 : (65 : Int) ≤ (n : Int) := by omega
        have i2 : (n : Int) ≤ 90 := by omega
        have HX := Lib.hid (And.intro hr2 hb2)
        clear hr2 hb2 hr hb hget hn
        go_wp2
        rw [show (n : Int) + 97 - 65 = (n : Int) + 32 from by omega]
        have hwi := HW.out
        go_roundw
        case rel => (try rw [hwi]); clear hwi; exact ⟨i + 1, by go_num, by omega, HX.out.1, HX.out.2⟩
        case measure => (try rw [hwi]); clear hwi; simp [intOf]; omega
      · have hr2 := hr.keep hget (low_same c n hn hup)
        have HX := Lib.hid (And.intro hr2 hb)
        clear hr2 hb hr hget hn
        have hcase : n < 65 ∨ (65 ≤ n ∧ 90 < n) := by omega
        rcases hcase with h1 | ⟨h1, h2⟩
        · have i1 : ¬ (65 : Int) ≤ (n : Int) := by omega
          go_wp2
          have hwi := HW.out
          go_roundw
          case rel => (try rw [hwi]); clear hwi; exact ⟨i + 1, by go_num, by omega, HX.out.1, HX.out.2⟩
          case measure => (try rw [hwi]); clear hwi; simp [intOf]; omega
        · have i1 : (65 : Int) ≤ (n : Int) := by omega
          have i2 : ¬ (n : Int) ≤ 90 := by omega
          go_wp2
          have hwi := HW.out
          go_roundw
          case rel => (try rw [hwi]); clear hwi; exact ⟨i + 1, by go_num, by omega, HX.out.1, HX.out.2⟩
          case measure => (try rw [hwi]); clear hwi; simp [intOf]; omega
    · obtain rfl : i = s.size := by omega
      have hd : decide (s.size < s.size) = false := decide_eq_false (Nat.lt_irrefl _)
      have hlen : (lowL s.data.toList).length = s.size := by rw [lowL_len, size_list]
      have hcv := run_str_cells wr 81 5 Tryz.underlying81 Tryz.underlying5 L 0 (grownCap w s.size 0 5) s.size (lowL s.data.toList) hlen hr.done 9 Tryz.underlying9
      have HB := Lib.hid hb
      clear hr hb hlen
      go_wp2
      go_ret
      rw [HL.out]
      exact ⟨rfl, HB.out⟩
end Go.Proofs.YtdlpbpikhmciaaaGreatDoor
namespace Go.Proofs.YtdlpbpikhmciaaaGreatDoor
open Go.RowKit
set_option linter.unusedSimpArgs false
set_option linter.unusedVariables false
set_option maxRecDepth 1000000
theorem ext_mk (s : ByteArray) (a b : Nat) : s.extract a b = ⟨((s.data.toList.drop a).take (b - a)).toArray⟩ := by
  apply ba_ext
  rw [ByteArray.data_extract, Array.toList_extract, List.extract_eq_take_drop]
theorem ext_front (s : ByteArray) (i : Nat) : s.extract 0 i = ⟨(s.data.toList.take i).toArray⟩ := by rw [ext_mk]; simp
theorem ext_back (s : ByteArray) (i : Nat) : s.extract i s.size = ⟨(s.data.toList.drop i).toArray⟩ := by
  rw [ext_mk, List.take_of_length_le (by rw [List.length_drop, size_list]; omega)]
theorem size_mk (l : List UInt8) : (⟨l.toArray⟩ : ByteArray).size = l.length := by rw [← size_list]
def valRet (o : Option (List UInt8 × Nat)) : Value := match o with
  | some (x, k) => .tuple #[.string ⟨x.toArray⟩, .int .i64 (k : Int), .bool true]
  | none => .tuple #[.string ⟨#[]⟩, .int .i64 0, .bool false]
set_option maxHeartbeats 2000000 in
theorem ovalue_any (s : ByteArray) (w : World) (hs : s.size ≤ 1099511627776) (hg : SgAt w) :
    Calls Tryz.prog 231 #[.string s] w fun e w' => e = .returned (valRet (valP s.data.toList)) ∧ Below w.heap.size w w' := by
  have hr := oruns_any s 0 w hs (Nat.zero_le _) hg
  rw [List.drop_zero] at hr
  have hle := runL_le isSg s.data.toList
  rw [size_list] at hle
  obtain ⟨n, hn⟩ : ∃ n, runL isSg s.data.toList = n := ⟨_, rfl⟩
  rw [hn] at hr hle
  have hu := ounq_any s w hs
  by_cases h0 : n = 0
  · have hv : valP s.data.toList = unq s.data.toList := by unfold valP; rw [hn, if_pos h0]
    subst h0
    obtain ⟨o, ho⟩ : ∃ o, unq s.data.toList = o := ⟨_, rfl⟩
    rw [ho] at hv hu
    have HV := Lib.hid (And.intro hv (And.intro hr hu)); clear hv hn ho hr hu
    go_enter Tryz.func231, Tryz.ntmps231
    go_wp2_with fail
    refine (HV.out.2.1).mono ?_
    rintro e w ⟨rfl, rfl⟩
    go_wp2_with fail
    refine (HV.out.2.2).mono ?_
    rintro e w1 ⟨rfl, hb⟩
    cases o with
    | none =>
      rw [show unqRet none = .tuple #[.string ⟨#[]⟩, .int .i64 0, .int .i64 13] from rfl]
      go_wp2
      go_ret3
      refine ⟨?_, hb⟩
      rw [HV.out.1]; rfl
    | some x =>
      obtain ⟨x, k⟩ := x
      rw [show unqRet (some (x, k)) = .tuple #[.string ⟨x.toArray⟩, .int .i64 (k : Int), .int .i64 0] from rfl]
      go_wp2
      go_ret3
      refine ⟨?_, hb⟩
      rw [HV.out.1]; rfl
  · have hv : valP s.data.toList = some (s.data.toList.take n, n) := by unfold valP; rw [hn, if_neg h0]
    have hx := ext_front s n
    have k0 : (0 : Int) < (n : Int) := by omega
    have k2 : (0 : Int) ≤ (n : Int) := by omega
    have k1 : (n : Int) ≤ (s.size : Int) := by omega
    have HV := Lib.hid (And.intro hv (And.intro hx hr)); clear hv hx hn hr hu h0
    go_enter Tryz.func231, Tryz.ntmps231
    go_wp2_with fail
    refine (HV.out.2.2).mono ?_
    rintro e w ⟨rfl, rfl⟩
    go_wp2
    go_ret3
    refine ⟨?_, Below.refl _ _⟩
    rw [HV.out.1, show valRet (some (s.data.toList.take n, n)) = .tuple #[.string ⟨(s.data.toList.take n).toArray⟩, .int .i64 (n : Int), .bool true] from rfl, ← HV.out.2.1]
    rfl
theorem isBl_set (c : UInt8) : isBl c = [32, 9].contains c := by
  have : ∀ n : Fin 256, isBl (UInt8.ofNat n.val) = [32, 9].contains (UInt8.ofNat n.val) := by decide +kernel
  have h := this ⟨c.toNat, c.toBitVec.isLt⟩
  simpa using h
theorem trimR_cons (c : UInt8) (r : List UInt8) : trimR (c :: r) = if trimR r = [] then (if isBl c then [] else [c]) else c :: trimR r := by
  unfold trimR
  rw [List.reverse_cons, List.dropWhile_append]
  by_cases h : r.reverse.dropWhile isBl = []
  · rw [h]
    by_cases hc : isBl c = true <;> simp [hc]
  · have h2 : (r.reverse.dropWhile isBl).isEmpty = false := by simpa using h
    rw [h2]
    simp [h]
theorem trim_swap (l : List UInt8) : (trimR l).dropWhile isBl = trimR (l.dropWhile isBl) := by
  induction l with
  | nil => rfl
  | cons c r ih =>
    by_cases hc : isBl c = true
    · rw [List.dropWhile_cons_of_pos hc, ← ih, trimR_cons, if_pos hc]
      by_cases h : trimR r = []
      · rw [if_pos h, h]
      · rw [if_neg h, List.dropWhile_cons_of_pos hc]
    · rw [List.dropWhile_cons_of_neg hc, trimR_cons, if_neg hc]
      by_cases h : trimR r = []
      · rw [if_pos h, List.dropWhile_cons_of_neg hc]
      · rw [if_neg h, List.dropWhile_cons_of_neg hc]
theorem trimS_eq (l : List UInt8) : Lib.trimS l [32, 9] = trimL l := by
  have e : (fun c : UInt8 => List.contains [32, 9] c) = isBl := by funext c; rw [isBl_set]
  unfold Lib.trimS Lib.trimRightS Lib.trimLeftS trimL
  rw [show (List.contains [32, 9] ·) = isBl from e]
  exact trim_swap l
theorem otrim_any (s : ByteArray) (w : World) (hs : s.size ≤ 1099511627776) :
    Calls Tryz.prog 30 #[.string s] w fun e w' => e = .returned (.string ⟨(trimL s.data.toList).toArray⟩) ∧ Below w.heap.size w w' := by
  have ht := Any.strings_Trim_laid Tryz.lays160 (by kernel_rfl) s ⟨#[32, 9]⟩ w (by omega) (by decide) (by
    intro j b hj
    have : ∀ j : Fin 2, ([32, 9] : List UInt8)[j.val].toNat < 128 := by decide
    obtain ⟨hl, he⟩ := List.getElem?_eq_some_iff.1 hj
    have := this ⟨j, hl⟩
    rw [← he]; exact this)
  rw [show (⟨#[32, 9]⟩ : ByteArray).data.toList = [32, 9] from rfl, trimS_eq] at ht
  have HT := Lib.hid ht; clear ht
  go_enter Tryz.func30, Tryz.ntmps30
  go_wp2_with fail
  refine (HT.out).mono ?_
  rintro e w1 ⟨rfl, hb⟩
  go_wp2
  go_ret
  exact ⟨rfl, hb⟩
end Go.Proofs.YtdlpbpikhmciaaaGreatDoor
namespace Go.Proofs.YtdlpbpikhmciaaaGreatDoor
open Go.RowKit
set_option linter.unusedSimpArgs false
set_option linter.unusedVariables false
set_option maxRecDepth 100000
theorem ck_cut (c : UInt8) (a b : List UInt8) (h : ∀ d ∈ a, d ≠ c) : Lib.cut (a ++ c :: b) [c] = (a, b, true) := by
  have := cut_found c (a ++ c :: b) a.length (by simp) (fun j hj e => by
    rw [List.getElem?_append_left hj] at e
    exact h c (List.mem_of_getElem? e) rfl) (by simp)
  simpa using this
theorem ck_free (c : UInt8) (a : List UInt8) (h : ∀ d ∈ a, d ≠ c) : Lib.cut a [c] = (a, [], false) :=
  cut_none c a (fun j hj e => h c (List.mem_of_getElem? e) rfl)
/-- A byte of a cookie's value. -/
def okc (c : UInt8) : Bool := decide (33 ≤ c.toNat) && decide (c.toNat ≤ 126) && decide (c.toNat ≠ 34) && decide (c.toNat ≠ 44) && decide (c.toNat ≠ 59) && decide (c.toNat ≠ 92)
theorem okc_dg : ∀ n : Fin 256, (!qdg (UInt8.ofNat n.val) || okc (UInt8.ofNat n.val)) = true := by decide +kernel
theorem sg_sep : ∀ n : Fin 256, (!isSg (UInt8.ofNat n.val) || (decide ((UInt8.ofNat n.val) ≠ 59) && decide ((UInt8.ofNat n.val) ≠ 61) && !isBl (UInt8.ofNat n.val))) = true := by decide +kernel
theorem dg_sep : ∀ n : Fin 256, (!qdg (UInt8.ofNat n.val) || (decide ((UInt8.ofNat n.val) ≠ 59) && !isBl (UInt8.ofNat n.val))) = true := by decide +kernel
theorem of_all (p : UInt8 → Bool) (h : ∀ n : Fin 256, p (UInt8.ofNat n.val) = true) (c : UInt8) : p c = true := by
  have := h ⟨c.toNat, c.toNat_lt⟩
  simpa using this
theorem dg_okc (c : UInt8) (h : qdg c = true) : okc c = true := by
  have := of_all (fun c => !qdg c || okc c) okc_dg c
  simpa [h] using this
theorem sg_no (c : UInt8) (h : isSg c = true) : c ≠ 59 ∧ c ≠ 61 ∧ isBl c = false := by
  have := of_all (fun c => !isSg c || (decide (c ≠ 59) && decide (c ≠ 61) && !isBl c)) sg_sep c
  simpa [h, and_assoc] using this
theorem dg_no (c : UInt8) (h : qdg c = true) : c ≠ 59 ∧ isBl c = false := by
  have := of_all (fun c => !qdg c || (decide (c ≠ 59) && !isBl c)) dg_sep c
  simpa [h] using this
def otL : List UInt8 := [111, 116, 104, 101, 114]
/-- The cookie of a name and digits. -/
def ckL (n ds : List UInt8) : List UInt8 := n ++ 61 :: ds
def hdL (n ds : List UInt8) : List UInt8 := otL ++ 59 :: (32 :: ckL n ds)
theorem ck_split (n ds : List UInt8) (hn : n.all isSg = true) (hd : ds.all qdg = true) : Lib.split (hdL n ds) [59] = [otL, 32 :: ckL n ds] := by
  rw [split_step, hdL, ck_cut 59 otL _ (by decide)]
  show otL :: Lib.split (32 :: ckL n ds) [59] = _
  rw [split_step, ck_free 59 (32 :: ckL n ds) (by
    intro d hdm
    rcases List.mem_cons.1 hdm with rfl | hdm
    · decide
    · rcases List.mem_append.1 hdm with h | h
      · exact (sg_no d (List.all_eq_true.1 hn d h)).1
      · rcases List.mem_cons.1 h with rfl | h
        · decide
        · exact (dg_no d (List.all_eq_true.1 hd d h)).1)]
  rfl
theorem ck_cut2 (n ds : List UInt8) (hn : n.all isSg = true) : Lib.cut (32 :: ckL n ds) [61] = (32 :: n, ds, true) := by
  have := ck_cut 61 (32 :: n) ds (by
    intro d hdm
    rcases List.mem_cons.1 hdm with rfl | hdm
    · decide
    · exact (sg_no d (List.all_eq_true.1 hn d hdm)).2.1)
  exact this
theorem trim_free (l : List UInt8) (h : ∀ d ∈ l, isBl d = false) : trimL l = l := by
  have e : ∀ m : List UInt8, (∀ d ∈ m, isBl d = false) → m.dropWhile isBl = m := fun m hm => by
    cases m with
    | nil => rfl
    | cons a r => rw [List.dropWhile_cons_of_neg (by rw [hm a (List.mem_cons_self ..)]; simp)]
  unfold trimL
  rw [e l h, e l.reverse (fun d hd => h d (List.mem_reverse.1 hd)), List.reverse_reverse]
theorem trim_sp (l : List UInt8) (h : ∀ d ∈ l, isBl d = false) : trimL (32 :: l) = l := by
  rw [show trimL (32 :: l) = trimL l from by unfold trimL; rw [List.dropWhile_cons_of_pos (by decide)]]
  exact trim_free l h
theorem trim_ck (n ds : List UInt8) (hn : n.all isSg = true) (hd : ds.all qdg = true) : trimL (32 :: ckL n ds) = ckL n ds :=
  trim_sp _ fun d hdm => by
    rcases List.mem_append.1 hdm with h | h
    · exact (sg_no d (List.all_eq_true.1 hn d h)).2.2
    · rcases List.mem_cons.1 h with rfl | h
      · decide
      · exact (dg_no d (List.all_eq_true.1 hd d h)).2
theorem u8_add (m : Nat) (h : m < 10) : (UInt8.ofNat (48 + m)).toNat = 48 + m := by rw [UInt8.toNat_ofNat']; omega
/-- Decimal digits and what they say. -/
theorem dec_all (u : Nat) : (Lib.decDigits u).all qdg = true := by
  induction u using Nat.strongRecOn with
  | _ u ih =>
    rw [Lib.decDigits]
    have d1 : ∀ m, m < 10 → qdg (UInt8.ofNat (48 + m)) = true := fun m hm => by
      unfold qdg
      rw [decide_eq_true_eq, u8_add m hm]
      omega
    by_cases h : u < 10
    · rw [dif_pos h, List.all_cons, d1 u h]; rfl
    · rw [dif_neg h, List.all_append, ih (u / 10) (by omega), List.all_cons, d1 _ (Nat.mod_lt _ (by decide))]; rfl
theorem dec_decV (u : Nat) : decV (Lib.decDigits u) = u := by
  induction u using Nat.strongRecOn with
  | _ u ih =>
    rw [Lib.decDigits]
    have d1 : ∀ m, m < 10 → (UInt8.ofNat (48 + m)).toNat - 48 = m := fun m hm => by
      rw [u8_add m hm]; omega
    by_cases h : u < 10
    · rw [dif_pos h]
      show 0 * 10 + _ = u
      rw [d1 u h]; omega
    · rw [dif_neg h, decV_snoc, ih (u / 10) (by omega), d1 _ (Nat.mod_lt _ (by decide))]; omega
theorem dec_ne (u : Nat) : Lib.decDigits u ≠ [] := by
  rw [Lib.decDigits]
  by_cases h : u < 10
  · rw [dif_pos h]; simp
  · rw [dif_neg h]; simp
theorem decV_mono (l : List UInt8) (i : Nat) : decV (l.take i) ≤ decV (l.take (i + 1)) := by
  by_cases h : i < l.length
  · rw [List.take_add_one, List.getElem?_eq_getElem h, Option.toList_some, decV_snoc]; omega
  · rw [List.take_of_length_le (by omega), List.take_of_length_le (by omega)]; exact Nat.le_refl _
theorem decV_mono2 (l : List UInt8) (i : Nat) : ∀ j, i ≤ j → decV (l.take i) ≤ decV (l.take j) := by
  intro j h
  induction j with
  | zero => obtain rfl : i = 0 := by omega
            exact Nat.le_refl _
  | succ j ih =>
    by_cases hij : i = j + 1
    · rw [hij]; exact Nat.le_refl _
    · exact Nat.le_trans (ih (by omega)) (decV_mono l j)
theorem dec_len10 (u : Nat) (h : u ≤ 1000000000) : (Lib.decDigits u).length ≤ 10 := by
  rw [Lib.decDigits_length]
  have h1 := Lib.nDigits_unique
  refine Nat.le_of_lt_succ (Nat.lt_of_not_le fun hc => ?_)
  have := Lib.lt_pow_nDigits u
  have h2 : ∀ k v, k < Lib.nDigits v → 10 ^ k ≤ v ∨ k = 0 := by
    intro k
    induction k with
    | zero => intro v _; exact .inr rfl
    | succ k ih =>
      intro v hv
      left
      by_cases hv10 : v < 10
      · rw [Lib.nDigits_small hv10] at hv; omega
      · rw [Lib.nDigits_big hv10] at hv
        rcases ih (v / 10) (by omega) with h | h
        · rw [Nat.pow_succ]; omega
        · subst h; omega
  rcases h2 10 u (by omega) with h3 | h3
  · have : (10 : Nat) ^ 10 = 10000000000 := by decide
    omega
  · omega
end Go.Proofs.YtdlpbpikhmciaaaGreatDoor
