/- Build, Oct5: texts of the seat, one behind the other (a claim holds at most sixty). Conditions: each theorem names its own. -/
import Derived.Test.YtlfdeenekjklgaaGreatDoorProg
import Derived.WalkKit
import Derived.WalkSpells
import Derived.WalkLawsBesides
import Derived.Lib.Hide
import Derived.Lib.Builder
import Derived.Shelf.Strings.Builder1
import Derived.Test.YtlfdeenekjklgaaGreatDoorPk00
import Derived.Test.YtlfdeenekjklgaaGreatDoorPk03
namespace Go.Proofs.YtlfdeenekjklgaaGreatDoor
open Go.RowKit
set_option linter.unusedSimpArgs false
set_option linter.unusedVariables false
set_option maxRecDepth 1000000

theorem infoByte : (Tryz.prog.info? 5).map (fun i => (i.zero, i.size, i.bytes)) = some (some (.int .u8 0), 1, 1) := by kernel_rfl
theorem infoBuilderSize : (Tryz.prog.info? 98).map (fun i => i.size) = some 2 := by kernel_rfl
theorem liesBuilder : liesAt Tryz.prog Tryz.prog.depth 98 (2 / Tryz.prog.cellsOf 98) 0 98 1 = true := by kernel_rfl

theorem copyCheck_used (b : Nat) (w : World) (h0 : w.cell? ⟨b, 0, none⟩ = some (.pointer (some ⟨b, 0, none⟩))) :
    Calls Tryz.prog 92 #[.pointer (some ⟨b, 0, none⟩)] w fun e w' => e = .returned (.tuple #[]) ∧ w' = w := by
  obtain ⟨j, hj, _⟩ := Option.map_eq_some_iff.1 infoBuilderSize
  go_enter Tryz.func92, Tryz.ntmps92
  go_wp2
  rw [Lib.run_neq_ptr_same w _ Tryz.underlying96 hj]
  go_wp2
  go_end0
  exact ⟨rfl, rfl⟩

theorem copyCheck_fresh (b : Nat) (w : World) (h0 : w.cell? ⟨b, 0, none⟩ = some (.pointer none)) (hsh : w.shape? b = some (98, 2)) (hfz : w.frozen? ⟨b, 0, none⟩ = false) :
    Calls Tryz.prog 92 #[.pointer (some ⟨b, 0, none⟩)] w fun e w' => e = .returned (.tuple #[]) ∧ w' = w.setCell ⟨b, 0, none⟩ (.pointer (some ⟨b, 0, none⟩)) := by
  obtain ⟨j, hj, hjs⟩ := Option.map_eq_some_iff.1 infoBuilderSize
  go_enter Tryz.func92, Tryz.ntmps92
  go_wp2
  rw [Lib.run_to_unsafe w ⟨b, 0, none⟩ Tryz.underlying96 Tryz.underlying110 hj (by rw [hjs]; decide) hsh (Nat.zero_lt_succ 1)]
  simp only [Result.andThen]
  rw [Oper.upon_value]
  go_wp2
  rw [run_callFunc_extern Tryz.func125 (by kernel_rfl) (by kernel_rfl) (by kernel_rfl) (e := Extern.AbiNoEscape.same) (by kernel_rfl)]
  rw [Lib.run_noEscape]
  simp only [Result.andThen]
  rw [Oper.upon_value]
  go_wp2
  rw [Lib.run_from_unsafe w ⟨b, 0, none⟩ Tryz.underlying110 Tryz.underlying96 hj hsh liesBuilder]
  simp only [Result.andThen]
  rw [Oper.upon_value]
  go_wp2
  go_end0
  exact ⟨rfl, rfl⟩

theorem copyCheck_any (B b : Nat) (bs : List Value) (w : World) (h : Lib.IsBuilder 98 5 B b bs w) :
    Calls Tryz.prog 92 #[.pointer (some ⟨b, 0, none⟩)] w fun e w' => e = .returned (.tuple #[]) ∧ (Lib.BuilderAt 98 5 B b (.pointer (some ⟨b, 0, none⟩)) bs w' ∧ Below B w w') := by
  rcases h with h | h
  · refine (copyCheck_fresh b w h.cell0 h.shape h.frozen0).mono ?_
    rintro e w' ⟨rfl, rfl⟩
    exact ⟨rfl, h.used _, (Below.refl B w).setCell (p := ⟨b, 0, none⟩) h.1 _⟩
  · refine (copyCheck_used b w h.cell0).mono ?_
    rintro e w' ⟨rfl, rfl⟩
    exact ⟨rfl, h, Below.refl B _⟩

theorem writeByte_any (B b : Nat) (bs : List Value) (c : Int) (w : World) (h : Lib.IsBuilder 98 5 B b bs w) (hlen : bs.length + 1 ≤ 140737488355328) (hBw : B ≤ w.heap.size) :
    Calls Tryz.prog 90 #[.pointer (some ⟨b, 0, none⟩), .int .u8 c] w fun e w' => e = .returned .nilIface ∧ (Lib.IsBuilder 98 5 B b (bs ++ [.int .u8 c]) w' ∧ Below B w w') := by
  obtain ⟨i0, hi, hz0, hz1, hz2⟩ := info_parts infoByte
  go_enter Tryz.func90, Tryz.ntmps90
  go_wp2_with (go_at_call 92; refine (copyCheck_any B b bs _ h).mono ?_)
  rintro e w1 ⟨rfl, h1, hb1⟩
  obtain ⟨hB, v, hbk, hown, hne⟩ := h1
  have c0 : w1.cell? ⟨b, 0, none⟩ = some (.pointer (some ⟨b, 0, none⟩)) := by rw [Lib.cell_of_heap hbk]; rfl
  have c1 : w1.cell? ⟨b, 1, none⟩ = some v := by rw [Lib.cell_of_heap hbk]; rfl
  go_wp2_with (at_builtin; refine wpList_append_own _ rfl _ _ 94 rfl B 5 i0 (.int .u8 0) 1 1 Tryz.underlying94 hi hz0 hz1 hz2 rfl (by decide) _ _ _ rfl (hown.alloc _) ⟨w1.heap.size, 0, none⟩ 1 1 [.int .u8 c] rfl rfl ?c1 ?c2 ?c3 ?c4 ?c5 ?_)
  case c1 =>
    intro j u hj
    match j, hj with
    | 0, hj => simp at hj; subst hj; simp [Addr.add]
  case c2 => intro u hu; simp at hu; subst hu; rfl
  case c3 => unfold maxLen; omega
  case c4 => omega
  case c5 => have := hb1.size; simp; omega
  intro v' w2 hown' hgrow _
  have hlt : b < w1.heap.size := by
    rcases Nat.lt_or_ge b w1.heap.size with h' | h'
    · exact h'
    · simp [Array.getElem?_eq_none h'] at hbk
  have hb2 : w2.heap[b]? = some (.cells #[.pointer (some ⟨b, 0, none⟩), v] 98 (0, 0)) := by
    rw [hgrow.block b (by simp; omega) (fun e => hne e.symm), Lib.alloc_old w1 _ b hlt]
    exact hbk
  have d0 : w2.cell? ⟨b, 0, none⟩ = some (.pointer (some ⟨b, 0, none⟩)) := by rw [Lib.cell_of_heap hb2]; rfl
  have d1 : w2.cell? ⟨b, 1, none⟩ = some v := by rw [Lib.cell_of_heap hb2]; rfl
  have f1 : w2.frozen? ⟨b, 1, none⟩ = false := Lib.frozen_of_heap hb2 1
  obtain ⟨g, cap, rfl⟩ : ∃ g cap, v' = .slice (some ⟨g, 0, none⟩) (bs.length + 1) cap := by
    rcases hown'.2 with ⟨_, h0⟩ | ⟨g, cap, cur, hv, _⟩
    · omega
    · exact ⟨g, cap, hv⟩
  go_wp2
  go_ret
  refine ⟨rfl, ?_, ?_⟩
  · exact Or.inr (Lib.BuilderAt.put (T := 98) (e := 5) hB hb2 (bs' := bs ++ [.int .u8 c]) (by simpa using hown') (by decide))
  · exact ((hb1.alloc (by have := hb1.size; omega) _).grown hgrow (by have := hb1.size; simp; omega) (fun k hk => (hown.lt k hk).1)).setCell (p := ⟨b, 1, none⟩) hB _
theorem writeByte_u8 (B b : Nat) (acc : List UInt8) (c : UInt8) (w : World) (h : Lib.IsBuilder 98 5 B b (Lib.byteCells acc) w) (hlen : acc.length + 1 ≤ 140737488355328) (hBw : B ≤ w.heap.size) :
    Calls Tryz.prog 90 #[.pointer (some ⟨b, 0, none⟩), .int .u8 (c.toNat : Int)] w fun e w' => e = .returned .nilIface ∧ (Lib.IsBuilder 98 5 B b (Lib.byteCells (acc ++ [c])) w' ∧ Below B w w') := by
  rw [byteCells_snoc]; exact writeByte_any B b _ _ w h (by rw [Lib.byteCells_length]; exact hlen) hBw
theorem writeByte_61 (B b : Nat) (acc : List UInt8) (w : World) (h : Lib.IsBuilder 98 5 B b (Lib.byteCells acc) w) (hlen : acc.length + 1 ≤ 140737488355328) (hBw : B ≤ w.heap.size) :
    Calls Tryz.prog 90 #[.pointer (some ⟨b, 0, none⟩), .int .u8 61] w fun e w' => e = .returned .nilIface ∧ (Lib.IsBuilder 98 5 B b (Lib.byteCells (acc ++ [61])) w' ∧ Below B w w') := writeByte_u8 B b acc 61 w h hlen hBw
end Go.Proofs.YtlfdeenekjklgaaGreatDoor
namespace Go.Proofs.YtlfdeenekjklgaaGreatDoor
open Go.RowKit
set_option linter.unusedSimpArgs false
set_option linter.unusedVariables false
set_option maxRecDepth 1000000
def unqRet (o : Option (List UInt8 × Nat)) : Value := match o with
  | some (x, k) => .tuple #[.string ⟨x.toArray⟩, .int .i64 (k : Int), .int .i64 0]
  | none => .tuple #[.string ⟨#[]⟩, .int .i64 0, .int .i64 13]
def UnqR (l acc : List UInt8) (i : Nat) : Prop := (unqT (l.drop i)).map (fun x => (acc ++ x.1, i + x.2)) = unq l
theorem UnqR.start (l r : List UInt8) (h : l = 34 :: r) : UnqR l [] 1 := by
  subst h
  unfold UnqR
  rw [show (34 :: r).drop 1 = r from rfl]
  show _ = if (34 : UInt8) = 34 then (unqT r).map fun x => (x.1, x.2 + 1) else none
  rw [if_pos rfl]
  cases unqT r with
  | none => rfl
  | some x => simp [Nat.add_comm]
theorem UnqR.done {l acc : List UInt8} {i : Nat} (h : UnqR l acc i) (hi : l[i]? = some 34) : unq l = some (acc, i + 1) := by
  unfold UnqR at h
  obtain ⟨hl, he⟩ := List.getElem?_eq_some_iff.1 hi
  rw [List.drop_eq_getElem_cons hl, he, unqT.eq_def] at h
  simpa using h.symm
theorem UnqR.over {l acc : List UInt8} {i : Nat} (h : UnqR l acc i) (hi : l.length ≤ i) : unq l = none := by
  unfold UnqR at h
  rw [List.drop_eq_nil_of_le hi, unqT.eq_def] at h
  simpa using h.symm
theorem UnqR.escOver {l acc : List UInt8} {i : Nat} (h : UnqR l acc i) (hi : l[i]? = some 92) (h2 : l.length ≤ i + 1) : unq l = none := by
  unfold UnqR at h
  obtain ⟨hl, he⟩ := List.getElem?_eq_some_iff.1 hi
  rw [List.drop_eq_getElem_cons hl, he, List.drop_eq_nil_of_le h2, unqT.eq_def] at h
  simpa using h.symm
theorem UnqR.esc {l acc : List UInt8} {i : Nat} {d : UInt8} (h : UnqR l acc i) (hi : l[i]? = some 92) (h2 : l[i + 1]? = some d) (hf : isFb d = true) : UnqR l (acc ++ [d]) (i + 2) := by
  unfold UnqR at h ⊢
  obtain ⟨hl, he⟩ := List.getElem?_eq_some_iff.1 hi
  obtain ⟨hl2, he2⟩ := List.getElem?_eq_some_iff.1 h2
  rw [List.drop_eq_getElem_cons hl, he, List.drop_eq_getElem_cons hl2, he2, unqT.eq_def] at h
  simp only [show ¬ (92 : UInt8) = 34 from by decide, if_false, if_true, hf] at h
  rw [← h]
  cases unqT (List.drop (i + 1 + 1) l) with
  | none => rfl
  | some x => simp; omega
theorem UnqR.escBad {l acc : List UInt8} {i : Nat} {d : UInt8} (h : UnqR l acc i) (hi : l[i]? = some 92) (h2 : l[i + 1]? = some d) (hf : isFb d = false) : unq l = none := by
  unfold UnqR at h
  obtain ⟨hl, he⟩ := List.getElem?_eq_some_iff.1 hi
  obtain ⟨hl2, he2⟩ := List.getElem?_eq_some_iff.1 h2
  rw [List.drop_eq_getElem_cons hl, he, List.drop_eq_getElem_cons hl2, he2, unqT.eq_def] at h
  simp only [show ¬ (92 : UInt8) = 34 from by decide, if_false, if_true, hf] at h
  simpa using h.symm
theorem UnqR.more {l acc : List UInt8} {i : Nat} {c : UInt8} (h : UnqR l acc i) (hi : l[i]? = some c) (h1 : c ≠ 34) (h2 : c ≠ 92) (hf : isFb c = true) : UnqR l (acc ++ [c]) (i + 1) := by
  unfold UnqR at h ⊢
  obtain ⟨hl, he⟩ := List.getElem?_eq_some_iff.1 hi
  rw [List.drop_eq_getElem_cons hl, he, unqT.eq_def] at h
  simp only [if_neg h1, if_neg h2, hf, if_true] at h
  rw [← h]
  cases unqT (List.drop (i + 1) l) with
  | none => rfl
  | some x => simp; omega
theorem UnqR.bad {l acc : List UInt8} {i : Nat} {c : UInt8} (h : UnqR l acc i) (hi : l[i]? = some c) (h1 : c ≠ 34) (h2 : c ≠ 92) (hf : isFb c = false) : unq l = none := by
  unfold UnqR at h
  obtain ⟨hl, he⟩ := List.getElem?_eq_some_iff.1 hi
  rw [List.drop_eq_getElem_cons hl, he, unqT.eq_def] at h
  simp only [if_neg h1, if_neg h2, hf] at h
  simpa using h.symm
theorem unq_no (l : List UInt8) (c : UInt8) (h : l[0]? = some c) (hc : c ≠ 34) : unq l = none := by
  cases l with
  | nil => simp at h
  | cons d r =>
    obtain rfl : d = c := by simpa using h
    unfold unq
    simp only [if_neg hc]
theorem ne_u8o (c : UInt8) (m : Nat) (hm : m < 256) (h : c ≠ UInt8.ofNat m) : ((c.toNat : Int) == (m : Int)) = false ∧ ((c.toNat : Int) != (m : Int)) = true := by
  have : c.toNat ≠ m := fun e => h (by rw [← e]; simp)
  constructor
  · simp; omega
  · simp; omega
theorem eq_u8o (m : Nat) (hm : m < 256) : (((UInt8.ofNat m).toNat : Int) == (m : Int)) = true ∧ (((UInt8.ofNat m).toNat : Int) != (m : Int)) = false := by
  have : (UInt8.ofNat m).toNat = m := by simp; omega
  rw [this]; simp
theorem emp_o (s : ByteArray) (h : s.size = 0) : s = ⟨#[]⟩ := by
  refine ba_ext ?_
  rw [show (⟨#[]⟩ : ByteArray).data.toList = [] from rfl]
  exact List.eq_nil_of_length_eq_zero (by rw [size_list]; exact h)
theorem full_o (s : ByteArray) (h : 0 < s.size) : s.toList.isEmpty = false := by
  rw [ByteArray.toList_eq]
  cases hl : s.data.toList with
  | nil => have := size_list s; rw [hl] at this; simp at this; omega
  | cons => rfl
theorem full_o2 (s : ByteArray) (h : 0 < s.size) : ¬ s.toList = [] := by
  intro e
  have := full_o s h
  rw [e] at this; cases this
theorem unq_bd (a i s : Nat) (h : a ≤ i) (hi : i ≤ s) (hs : s ≤ 1099511627776) : a + 1 ≤ 140737488355328 := by omega
set_option maxHeartbeats 4000000 in
theorem ounq_any (s : ByteArray) (w : World) (hs : s.size ≤ 1099511627776) :
    Calls Tryz.prog 123 #[.string s] w fun e w' => e = .returned (unqRet (unq s.data.toList)) ∧ Below w.heap.size w w' := by
  by_cases h0 : s.size = 0
  · obtain rfl := emp_o s h0
    clear h0
    go_enter Tryz.func123, Tryz.ntmps123
    go_wp2
    go_ret3
    exact ⟨rfl, Below.refl _ _⟩
  · have hpos : 0 < s.size := by omega
    clear h0
    obtain ⟨c0, hc0⟩ : ∃ c, s[0]'hpos = c := ⟨_, rfl⟩
    have hg0 := list_get s 0 hpos
    rw [hc0] at hg0
    have e0 := full_o s hpos
    have e1 := full_o2 s hpos
    have p0 : (0 : Int) < (s.size : Int) := by omega
    by_cases hq : c0 = 34
    · subst hq
      have hst : UnqR s.data.toList [] 1 := UnqR.start _ (s.data.toList.drop 1) (by rw [← hc0]; exact drop_get s 0 hpos ▸ rfl)
      have HST := Lib.hid (And.intro hst hg0)
      clear hst hg0
      go_enter Tryz.func123, Tryz.ntmps123
      go_wp2
      go_loopw [6] (fun iv wr => ∃ (i : Nat) (acc : List UInt8), iv = .int .i64 i ∧ 1 ≤ i ∧ i ≤ s.size ∧ acc.length ≤ i ∧ UnqR s.data.toList acc i ∧ Lib.IsBuilder 98 5 w.heap.size w.heap.size (Lib.byteCells acc) wr ∧ Below w.heap.size w wr)
        (fun iv _ => s.size - (intOf iv).toNat)
      case atStart => exact ⟨1, [], rfl, Nat.le_refl _, hpos, Nat.zero_le _, HST.out.1, Lib.fresh_isBuilder _ _ w, (Below.refl _ w).alloc (Nat.le_refl _) _⟩
      case round =>
        clear e0 e1 hc0 HST
        obtain ⟨i, acc, rfl, hi1, hi, hal, hR, hO, hbw⟩ := hrel
        have hbd := unq_bd acc.length i s.size hal hi hs
        have hBw := hbw.size
        have HR := Lib.hid hR; clear hR
        by_cases hlt : i < s.size
        · obtain ⟨c, hc⟩ : ∃ c, s[i]'hlt = c := ⟨_, rfl⟩
          have hget := list_get s i hlt
          rw [hc] at hget
          have HG := Lib.hid hget; clear hget
          have k0 : (0 : Int) ≤ (i : Int) := Int.natCast_nonneg _
          have k1 : (i : Int) < (s.size : Int) := by omega
          have hwi := w64o i (le_oo i s.size hi hs)
          obtain ⟨j, hj⟩ : ∃ j, i + 1 = j := ⟨_, rfl⟩
          have f1 : (i : Int) + 1 = (j : Int) := by omega
          have hjs : j ≤ s.size := by omega
          have HJ := Lib.hid hj; clear hj
          have HW := Lib.hid hwi; clear hwi
          by_cases h34 : c = 34
          · subst h34
            have hD := Lib.hid (HR.out.done HG.out)
            have HO := Lib.hid hO
            clear hO
            have b1 := (eq_u8o 34 (by decide)).1
            have hwj := w64j j (le_oo j s.size hjs hs)
            go_wp2_with (go_at_call 52; refine (Tryz.Builder_String_any _ _ acc _ HO.out hBw).mono ?_)
            rintro e w1 ⟨rfl, hb1⟩
            go_wp2
            go_ret3
            refine ⟨?_, hbw.trans hb1⟩
            rw [hD.out, HJ.out]; rfl
          · obtain ⟨b34, b34n⟩ := ne_u8o c 34 (by decide) h34
            by_cases h92 : c = 92
            · subst h92
              by_cases hl2 : j < s.size
              · obtain ⟨d, hd⟩ : ∃ d, s[j]'hl2 = d := ⟨_, rfl⟩
                have hget2 := list_get s j hl2
                rw [hd] at hget2
                rw [← HJ.out] at hget2
                have HG2 := Lib.hid hget2; clear hget2
                have l0 : (0 : Int) ≤ (j : Int) := Int.natCast_nonneg _
                have l1 : (j : Int) < (s.size : Int) := by omega
                have l2 : ((j : Int) == (s.size : Int)) = false := by simp; omega
                have hwj := w64o j (le_oo j s.size hjs hs)
                have HWJ := Lib.hid hwj; clear hwj
                cases hf : isFb d with
                | true =>
                  have hR2 := HR.out.esc HG.out HG2.out hf
                  have HR2 := Lib.hid (And.intro hR2 hf); clear hR2 hf
                  go_wp2_with fail
                  refine (ofield_any d _).mono ?_
                  rintro e wr ⟨rfl, rfl⟩
                  rw [HR2.out.2]
                  go_wp2_with fail
                  refine (writeByte_u8 _ _ acc d _ hO hbd hBw).mono ?_
                  rintro e w2 ⟨rfl, hO2, hb2⟩
                  have hwj := HWJ.out
                  go_wp2
                  go_roundw
                  case rel => (try rw [hwj]); clear hwj f1; exact ⟨j + 1, acc ++ [d], by go_num, by omega, by omega, by rw [List.length_append, ← HJ.out]; simp; omega, by rw [← HJ.out]; exact HR2.out.1, hO2, hbw.trans hb2⟩
                  case measure => (try rw [hwj]); clear hwj; simp [intOf]; omega
                | false =>
                  have hD := HR.out.escBad HG.out HG2.out hf
                  have HD := Lib.hid (And.intro hD hf); clear hD hf
                  go_wp2_with fail
                  refine (ofield_any d _).mono ?_
                  rintro e wr ⟨rfl, rfl⟩
                  rw [HD.out.2]
                  go_wp2
                  go_ret3
                  refine ⟨?_, hbw⟩
                  rw [HD.out.1]; rfl
              · obtain rfl : j = s.size := by omega
                have l2 : ((s.size : Int) == (s.size : Int)) = true := by simp
                have hD := Lib.hid (HR.out.escOver HG.out (by rw [size_list, HJ.out]; exact Nat.le_refl _))
                go_wp2
                go_ret3
                refine ⟨?_, hbw⟩
                rw [hD.out]; rfl
            · obtain ⟨b92, b92n⟩ := ne_u8o c 92 (by decide) h92
              cases hf : isFb c with
              | true =>
                have hR2 := HR.out.more HG.out h34 h92 hf
                have HR2 := Lib.hid (And.intro hR2 hf); clear hR2 hf
                go_wp2_with fail
                refine (ofield_any c _).mono ?_
                rintro e wr ⟨rfl, rfl⟩
                rw [HR2.out.2]
                go_wp2_with fail
                refine (writeByte_u8 _ _ acc c _ hO hbd hBw).mono ?_
                rintro e w2 ⟨rfl, hO2, hb2⟩
                have hwi := HW.out
                go_wp2
                go_roundw
                case rel => (try rw [hwi]); clear hwi; exact ⟨i + 1, acc ++ [c], by go_num, by omega, by omega, by rw [List.length_append]; simp; omega, HR2.out.1, hO2, hbw.trans hb2⟩
                case measure => (try rw [hwi]); clear hwi; simp [intOf]; omega
              | false =>
                have hD := HR.out.bad HG.out h34 h92 hf
                have HD := Lib.hid (And.intro hD hf); clear hD hf
                go_wp2_with fail
                refine (ofield_any c _).mono ?_
                rintro e wr ⟨rfl, rfl⟩
                rw [HD.out.2]
                go_wp2
                go_ret3
                refine ⟨?_, hbw⟩
                rw [HD.out.1]; rfl
        · have hD := Lib.hid (HR.out.over (by rw [size_list]; omega))
          have hge : i = s.size := by omega
          have hd : decide (i < s.size) = false := decide_eq_false hlt
          clear hge
          go_wp2
          go_ret3
          refine ⟨?_, hbw⟩
          rw [hD.out]; rfl
    · have hD := Lib.hid (unq_no _ c0 hg0 hq)
      have b0 := (ne_u8o c0 34 (by decide) hq).2
      clear hg0
      go_enter Tryz.func123, Tryz.ntmps123
      go_wp2
      go_ret3
      refine ⟨?_, Below.refl _ _⟩
      rw [hD.out]; rfl
set_option maxHeartbeats 4000000 in
theorem runq_any (s : ByteArray) (w : World) (hs : s.size ≤ 1099511627776) :
    Calls Tryz.prog 78 #[.string s] w fun e w' => e = .returned (unqRet (unq s.data.toList)) ∧ Below w.heap.size w w' := by
  obtain ⟨i0, hi0, hz0, hz1, hz2⟩ := info_parts infoByte
  by_cases h0 : s.size = 0
  · obtain rfl := emp_o s h0
    clear h0
    go_enter Tryz.func78, Tryz.ntmps78
    go_wp2
    go_ret3
    exact ⟨rfl, Below.refl _ _⟩
  · have hpos : 0 < s.size := by omega
    clear h0
    obtain ⟨c0, hc0⟩ : ∃ c, s[0]'hpos = c := ⟨_, rfl⟩
    have hg0 := list_get s 0 hpos
    rw [hc0] at hg0
    have e0 := full_o s hpos
    have e1 := full_o2 s hpos
    have p0 : (0 : Int) < (s.size : Int) := by omega
    by_cases hq : c0 = 34
    · subst hq
      have hst : UnqR s.data.toList [] 1 := UnqR.start _ (s.data.toList.drop 1) (by rw [← hc0]; exact drop_get s 0 hpos ▸ rfl)
      have HST := Lib.hid (And.intro hst hg0)
      clear hst hg0
      go_enter Tryz.func78, Tryz.ntmps78
      go_wp2
      go_loopw [6, 5] (fun iv v wr => ∃ (i : Nat) (acc : List UInt8), iv = .int .i64 i ∧ 1 ≤ i ∧ i ≤ s.size ∧ acc.length ≤ i ∧ UnqR s.data.toList acc i ∧ wr.ownsRow w.heap.size 5 1 v acc.length (Lib.byteCells acc) ∧ Below w.heap.size w wr)
        (fun iv _ _ => s.size - (intOf iv).toNat)
      case atStart => exact ⟨1, [], rfl, Nat.le_refl _, hpos, Nat.zero_le _, HST.out.1, World.ownsRow_made w #[] 0 (Nat.le_refl _) (by simp) rfl, (Below.refl _ w).alloc (Nat.le_refl _) _⟩
      case round =>
        clear e0 e1 hc0 HST
        obtain ⟨i, acc, rfl, hi1, hi, hal, hR, hO, hbw⟩ := hrel
        have hbd := unq_bd acc.length i s.size hal hi hs
        have hBw := hbw.size
        have HR := Lib.hid hR; clear hR
        by_cases hlt : i < s.size
        · obtain ⟨c, hc⟩ : ∃ c, s[i]'hlt = c := ⟨_, rfl⟩
          have hget := list_get s i hlt
          rw [hc] at hget
          have HG := Lib.hid hget; clear hget
          have k0 : (0 : Int) ≤ (i : Int) := Int.natCast_nonneg _
          have k1 : (i : Int) < (s.size : Int) := by omega
          have hwi := w64o i (le_oo i s.size hi hs)
          obtain ⟨j, hj⟩ : ∃ j, i + 1 = j := ⟨_, rfl⟩
          have f1 : (i : Int) + 1 = (j : Int) := by omega
          have hjs : j ≤ s.size := by omega
          have HJ := Lib.hid hj; clear hj
          have HW := Lib.hid hwi; clear hwi
          by_cases h34 : c = 34
          · subst h34
            have hD := Lib.hid (HR.out.done HG.out)
            have HO := Lib.hid hO
            clear hO
            have b1 := (eq_u8o 34 (by decide)).1
            have hwj := w64j j (le_oo j s.size hjs hs)
            have hcv := run_str_own wr 94 5 Tryz.underlying94 Tryz.underlying5 HO.out 9 Tryz.underlying9
            go_wp2
            go_ret3
            refine ⟨?_, hbw⟩
            rw [hD.out, HJ.out]; rfl
          · obtain ⟨b34, b34n⟩ := ne_u8o c 34 (by decide) h34
            by_cases h92 : c = 92
            · subst h92
              by_cases hl2 : j < s.size
              · obtain ⟨d, hd⟩ : ∃ d, s[j]'hl2 = d := ⟨_, rfl⟩
                have hget2 := list_get s j hl2
                rw [hd] at hget2
                rw [← HJ.out] at hget2
                have HG2 := Lib.hid hget2; clear hget2
                have l0 : (0 : Int) ≤ (j : Int) := Int.natCast_nonneg _
                have l1 : (j : Int) < (s.size : Int) := by omega
                have l2 : ((j : Int) == (s.size : Int)) = false := by simp; omega
                have hwj := w64o j (le_oo j s.size hjs hs)
                have HWJ := Lib.hid hwj; clear hwj
                cases hf : isFb d with
                | true =>
                  have hR2 := HR.out.esc HG.out HG2.out hf
                  have HR2 := Lib.hid (And.intro hR2 hf); clear hR2 hf
                  have HO := Lib.hid hO; clear hO
                  go_wp2_with fail
                  refine (rbyte_any d _).mono ?_
                  rintro e wr ⟨rfl, rfl⟩
                  rw [HR2.out.2]

                  go_wp2_with (at_builtin; refine wpList_append_own _ rfl (.tmp 44) (.tmp 48) 94 rfl w.heap.size 5 i0 (.int .u8 0) 1 1 Tryz.underlying94 hi0 hz0 hz1 hz2 rfl (by decide) _ _ _ rfl (HO.out.alloc _) ⟨wr.heap.size, 0, none⟩ 1 1 [.int .u8 (d.toNat : Int)] rfl rfl (cells_new _ _ _) (by simp [Value.oneCell']) (by unfold maxLen; omega) (by rw [Nat.mul_one]; exact hbd) ?d0 ?_)
                  case d0 => simp; exact Nat.le_trans hBw (Nat.le_succ _)
                  intro v1 w7 hI1 hg7 _
                  have hb8 := (hbw.alloc hBw _).grown hg7 (by simp; exact Nat.le_trans hBw (Nat.le_succ _)) (fun j hj => (HO.out.lt j hj).1)
                  rw [← byteCells_one d, ← Lib.byteCells_append] at hI1
                  have HI1 := Lib.hid hI1; have HB8 := Lib.hid hb8
                  clear hI1 hb8 hg7
                  have hwj := HWJ.out
                  go_wp2
                  go_roundw
                  case rel => (try rw [hwj]); clear hwj f1; exact ⟨j + 1, acc ++ [d], by go_num, by omega, by omega, by rw [List.length_append, ← HJ.out]; simp; omega, by rw [← HJ.out]; exact HR2.out.1, by rw [List.length_append]; exact HI1.out, HB8.out⟩
                  case measure => (try rw [hwj]); clear hwj; simp [intOf]; omega
                | false =>
                  have hD := HR.out.escBad HG.out HG2.out hf
                  have HD := Lib.hid (And.intro hD hf); clear hD hf
                  go_wp2_with fail
                  refine (rbyte_any d _).mono ?_
                  rintro e wr ⟨rfl, rfl⟩
                  rw [HD.out.2]
                  go_wp2
                  go_ret3
                  refine ⟨?_, hbw⟩
                  rw [HD.out.1]; rfl
              · obtain rfl : j = s.size := by omega
                have l2 : ((s.size : Int) == (s.size : Int)) = true := by simp
                have hD := Lib.hid (HR.out.escOver HG.out (by rw [size_list, HJ.out]; exact Nat.le_refl _))
                go_wp2
                go_ret3
                refine ⟨?_, hbw⟩
                rw [hD.out]; rfl
            · obtain ⟨b92, b92n⟩ := ne_u8o c 92 (by decide) h92
              cases hf : isFb c with
              | true =>
                have hR2 := HR.out.more HG.out h34 h92 hf
                have HR2 := Lib.hid (And.intro hR2 hf); clear hR2 hf
                have HO := Lib.hid hO; clear hO
                go_wp2_with fail
                refine (rbyte_any c _).mono ?_
                rintro e wr ⟨rfl, rfl⟩
                rw [HR2.out.2]

                go_wp2_with (at_builtin; refine wpList_append_own _ rfl (.tmp 44) (.tmp 48) 94 rfl w.heap.size 5 i0 (.int .u8 0) 1 1 Tryz.underlying94 hi0 hz0 hz1 hz2 rfl (by decide) _ _ _ rfl (HO.out.alloc _) ⟨wr.heap.size, 0, none⟩ 1 1 [.int .u8 (c.toNat : Int)] rfl rfl (cells_new _ _ _) (by simp [Value.oneCell']) (by unfold maxLen; omega) (by rw [Nat.mul_one]; exact hbd) ?d0 ?_)
                case d0 => simp; exact Nat.le_trans hBw (Nat.le_succ _)
                intro v1 w7 hI1 hg7 _
                have hb8 := (hbw.alloc hBw _).grown hg7 (by simp; exact Nat.le_trans hBw (Nat.le_succ _)) (fun j hj => (HO.out.lt j hj).1)
                rw [← byteCells_one c, ← Lib.byteCells_append] at hI1
                have HI1 := Lib.hid hI1; have HB8 := Lib.hid hb8
                clear hI1 hb8 hg7
                have hwi := HW.out
                go_wp2
                go_roundw
                case rel => (try rw [hwi]); clear hwi; exact ⟨i + 1, acc ++ [c], by go_num, by omega, by omega, by rw [List.length_append]; simp; omega, HR2.out.1, by rw [List.length_append]; exact HI1.out, HB8.out⟩
                case measure => (try rw [hwi]); clear hwi; simp [intOf]; omega
              | false =>
                have hD := HR.out.bad HG.out h34 h92 hf
                have HD := Lib.hid (And.intro hD hf); clear hD hf
                go_wp2_with fail
                refine (rbyte_any c _).mono ?_
                rintro e wr ⟨rfl, rfl⟩
                rw [HD.out.2]
                go_wp2
                go_ret3
                refine ⟨?_, hbw⟩
                rw [HD.out.1]; rfl
        · have hD := Lib.hid (HR.out.over (by rw [size_list]; omega))
          have hge : i = s.size := by omega
          have hd : decide (i < s.size) = false := decide_eq_false hlt
          clear hge
          go_wp2
          go_ret3
          refine ⟨?_, hbw⟩
          rw [hD.out]; rfl
    · have hD := Lib.hid (unq_no _ c0 hg0 hq)
      have b0 := (ne_u8o c0 34 (by decide) hq).2
      clear hg0
      go_enter Tryz.func78, Tryz.ntmps78
      go_wp2
      go_ret3
      refine ⟨?_, Below.refl _ _⟩
      rw [hD.out]; rfl
end Go.Proofs.YtlfdeenekjklgaaGreatDoor
