/- LaidPow, LaidErr, RQt, WrS, PctP: texts of the seat, one behind the other (a claim holds at most sixty). Conditions: each theorem names its own. -/
import Derived.Test.YtlfdeenekjklgaaGreatDoorPk19
import Derived.LaidHandle
import Derived.Test.YtlfdeenekjklgaaGreatDoorPk05
import Derived.Test.YtlfdeenekjklgaaGreatDoorPk04
import Derived.Test.YtlfdeenekjklgaaGreatDoorPk01
import Derived.Lib.AppendStr
import Derived.Test.YtlfdeenekjklgaaGreatDoorPk00
namespace Go.Proofs.YtlfdeenekjklgaaGreatDoor
open Go.RowKit
set_option linter.unusedSimpArgs false
set_option linter.unusedVariables false
theorem gPowType : (Tryz.prog.globals[5]?).map (·.type) = some 203 := by kernel_rfl
theorem pow_data : (Rows.laid_internal_strconv_uint64pow10 : DataW Unit) = Lib.tabData .u64 Lib.pow10Tab := rfl
theorem pow_of_laid {W : World} {l : List (String × DataW Unit)} (hm : ("internal/strconv.uint64pow10", (Rows.laid_internal_strconv_uint64pow10 : DataW Unit)) ∈ l) (h : laidMet Tryz.prog l W) : PowAt W :=
  tab_of_mem gPow gPowType Tryz.underlying203 Tryz.underlying196 (by kernel_rfl) (by kernel_rfl) (by rw [← pow_data]; exact hm) h
end Go.Proofs.YtlfdeenekjklgaaGreatDoor
namespace Go.Proofs.YtlfdeenekjklgaaGreatDoor
open Go.RowKit
set_option linter.unusedSimpArgs false
set_option linter.unusedVariables false
set_option maxRecDepth 1000000
theorem gErr : Tryz.prog.globalNamed "errors.errorType" = some 0 := by kernel_rfl
theorem err_row : (List.range Tryz.prog.types.size).all (fun t => !(Tryz.prog.rowNamed t [101, 114, 114, 111, 114]) || t == 71) = true := by kernel_rfl
theorem err_cut : (Tryz.prog.cutTypes.find? (·.1 == "internal/reflectlite.rtype")).map (·.2) = some 147 := by kernel_rfl
theorem err_size : Tryz.prog.globals.size = 8 := by kernel_rfl
theorem err_of_laid {W : World} {l : List (String × DataW Unit)} (hm : ("errors.errorType", (Rows.laid_errors_errorType : DataW Unit)) ∈ l) (h : handlesMet Tryz.prog l W) : ErrAt W := by
  have h1 := h _ hm
  rw [show (Rows.laid_errors_errorType : DataW Unit).funcsIn? = none by kernel_rfl] at h1
  obtain ⟨name, u, ty, hn, hu, hlt, hrow, hvar⟩ := h1
  rw [show (Rows.laid_errors_errorType : DataW Unit).handleName? = some [101, 114, 114, 111, 114] by kernel_rfl] at hn
  obtain rfl := Option.some.inj hn
  rw [err_cut] at hu
  obtain rfl := Option.some.inj hu
  have hty : ty = 71 := by
    have h2 := List.all_eq_true.1 err_row ty (List.mem_range.2 hlt)
    rw [hrow] at h2
    simpa using h2
  subst hty
  unfold World.var? at hvar
  rw [gErr] at hvar
  simp only [Option.bind_some] at hvar
  unfold ErrAt World.cell?
  split at hvar
  · rename_i cs x y hh
    obtain rfl := Option.some.inj hvar
    rw [hh]
    show (if _ then _ else _) = _
    simp [typeHandle, err_size]
  · cases hvar
end Go.Proofs.YtlfdeenekjklgaaGreatDoor
namespace Go.Proofs.YtlfdeenekjklgaaGreatDoor
open Go.RowKit
set_option linter.unusedSimpArgs false
set_option linter.unusedVariables false
set_option maxRecDepth 1000000
set_option maxHeartbeats 2000000 in
theorem risfield_any (s : ByteArray) (w : World) (hs : s.size ≤ 1099511627776) :
    Calls Tryz.prog 55 #[.string s] w fun e w' => e = .returned (.bool (isFld s.data.toList)) ∧ w' = w := by
  go_enter Tryz.func55, Tryz.ntmps55
  go_wp2
  go_loopw [3] (fun iv wr => ∃ i : Nat, iv = .int .i64 i ∧ i ≤ s.size ∧ (s.data.toList.take i).all isFb = true ∧ wr = w) (fun iv _ => s.size - (intOf iv).toNat)
  case atStart => exact ⟨0, rfl, Nat.zero_le _, rfl, rfl⟩
  case round =>
    obtain ⟨i, rfl, hi, hall, rfl⟩ := hrel
    by_cases hlt : i < s.size
    · obtain ⟨c, hc⟩ : ∃ c, s[i]'hlt = c := ⟨_, rfl⟩
      have hget := list_get s i hlt
      rw [hc] at hget
      have k0 : (0 : Int) ≤ (i : Int) := Int.natCast_nonneg _
      have k1 : (i : Int) < (s.size : Int) := by omega
      have HA := Lib.hid (And.intro hall hget)
      clear hall hget
      cases hst : isFb c with
      | true =>
        have hx := all_take isFb _ i c HA.out.2 HA.out.1 hst
        have HS := Lib.hid (And.intro hx hst)
        clear hx hst
        go_wp2_with fail
        refine (rbyte_any c _).mono ?_
        rintro e w ⟨rfl, rfl⟩
        rw [HS.out.2]
        have hwi := w64o i (le_oo i s.size hi hs)
        go_wp2
        go_roundw
        case rel => (try rw [hwi]); clear hwi; exact ⟨i + 1, by go_num, by omega, HS.out.1, by first | rfl | trivial⟩
        case measure => (try rw [hwi]); clear hwi; simp [intOf]; omega
      | false =>
        have hx : isFld s.data.toList = false := all_not isFb _ i c HA.out.2 hst
        have HS := Lib.hid (And.intro hx hst)
        clear hx hst
        go_wp2_with fail
        refine (rbyte_any c _).mono ?_
        rintro e w ⟨rfl, rfl⟩
        rw [HS.out.2]
        go_wp2
        go_ret
        exact ⟨ret_boolO HS.out.1.symm, rfl⟩
    · obtain rfl : i = s.size := by omega
      have hx : isFld s.data.toList = true := all_full isFb s hall
      have HX := Lib.hid hx; clear hx hall
      have hd : decide (s.size < s.size) = false := decide_eq_false (Nat.lt_irrefl _)
      go_wp2
      go_ret
      exact ⟨ret_boolO HX.out.symm, rfl⟩
theorem ownsRow_one (w : World) (B : Nat) (e : TypeId) (x : Value) (hB : B ≤ w.heap.size) : (w.alloc (.cells #[x] e)).ownsRow B e 1 (.slice (some ⟨w.heap.size, 0, none⟩) 1 1) 1 [x] :=
  ⟨by simp, .inr ⟨w.heap.size, 1, #[x], rfl, hB, heap_alloc_new w _, Nat.le_refl _, by unfold maxLen; omega, rfl, rfl⟩⟩
set_option maxHeartbeats 32000000 in
theorem rquote_any (s : ByteArray) (w : World) (hs : s.size ≤ 1099511627776) :
    Calls Tryz.prog 54 #[.string s] w fun e w' => e = .returned (.tuple #[.string ⟨(qtR s.data.toList).1.toArray⟩, .int .i64 ((qtR s.data.toList).2 : Nat)]) ∧ Below w.heap.size w w' := by
  have hf := risfield_any s w hs
  obtain ⟨i0, hi0, hz0, hz1, hz2⟩ := info_parts infoByte
  cases hfld : isFld s.data.toList with
  | false =>
    rw [hfld] at hf
    have hq : qtR s.data.toList = ([], 13) := by unfold qtR; rw [hfld]; rfl
    have HQ := Lib.hid hq
    have HF := Lib.hid hf
    clear hq hfld hf
    go_enter Tryz.func54, Tryz.ntmps54
    go_wp2_with fail
    refine (HF.out).mono ?_
    rintro e w1 ⟨rfl, rfl⟩
    go_wp2
    go_ret2
    rw [HQ.out]
    exact ⟨rfl, Below.refl _ _⟩
  | true =>
    rw [hfld] at hf
    have hq : qtR s.data.toList = (qtL s.data.toList, 0) := by unfold qtR; rw [hfld]; rfl
    have HQ := Lib.hid hq
    have HF := Lib.hid hf
    clear hq hfld hf
    go_enter Tryz.func54, Tryz.ntmps54
    go_wp2_with fail
    refine (HF.out).mono ?_
    rintro e w1 ⟨rfl, rfl⟩
    have hO1 := ownsRow_one w1 w1.heap.size 5 (.int .u8 34) (Nat.le_refl _)
    have hB1 := (Below.refl w1.heap.size w1).alloc (Nat.le_refl _) (.cells #[.int .u8 34] 5)
    have HS := Lib.hid (And.intro hO1 hB1)
    clear hO1 hB1
    go_wp2
    go_loopw [5, 4] (fun iv v wr => ∃ i : Nat, iv = .int .i64 i ∧ i ≤ s.size ∧ wr.ownsRow w1.heap.size 5 1 v (34 :: escL (s.data.toList.take i)).length (Lib.byteCells (34 :: escL (s.data.toList.take i))) ∧ Below w1.heap.size w1 wr) (fun iv _ _ => s.size - (intOf iv).toNat)
    case atStart => exact ⟨0, rfl, Nat.zero_le _, HS.out.1, HS.out.2⟩
    case round =>
      clear HS
      obtain ⟨i, rfl, hi, hO, hb⟩ := hrel
      have hbd := esc_take_len s.data.toList i s.size hi hs
      have hBw := hb.size
      by_cases hlt : i < s.size
      · obtain ⟨c, hc⟩ : ∃ c, s[i]'hlt = c := ⟨_, rfl⟩
        have hget := list_get s i hlt
        rw [hc] at hget
        have k0 : (0 : Int) ≤ (i : Int) := Int.natCast_nonneg _
        have k1 : (i : Int) < (s.size : Int) := by omega
        have hwi := w64o i (le_oo i s.size hi hs)
        have htk := escL_take s.data.toList i c hget
        obtain ⟨acc, hacc⟩ : ∃ acc, 34 :: escL (s.data.toList.take i) = acc := ⟨_, rfl⟩
        rw [hacc] at hO hbd
        have htk2 : 34 :: escL (s.data.toList.take (i + 1)) = acc ++ esc c := by rw [htk, ← hacc]; rfl
        have HW := Lib.hid (And.intro hwi htk2)
        have HO := Lib.hid hO
        clear hwi htk hget htk2 hacc hO
        by_cases hx : c = 34 ∨ c = 92
        · have he : esc c = [92, c] := by unfold esc; rw [if_pos hx]
          have hcase : ((c.toNat : Int) == 34) = true ∨ (((c.toNat : Int) == 34) = false ∧ ((c.toNat : Int) == 92) = true) := by
            rcases hx with h | h
            · exact Or.inl (by rw [h]; rfl)
            · exact Or.inr (by rw [h]; exact ⟨rfl, rfl⟩)
          have HE := Lib.hid he
          clear he hx
          rcases hcase with b34 | ⟨b34, b92⟩
          all_goals
            go_wp2_with (at_builtin; refine wpList_append_own _ rfl (.tmp 26) (.tmp 27) 94 rfl w1.heap.size 5 i0 (.int .u8 0) 1 1 Tryz.underlying94 hi0 hz0 hz1 hz2 rfl (by decide) _ _ _ rfl (HO.out.alloc _) ⟨wr.heap.size, 0, none⟩ 1 1 [.int .u8 92] rfl rfl (cells_new _ _ _) (by simp [Value.oneCell']) (by unfold maxLen; omega) (by rw [Nat.mul_one]; omega) ?d0 ?_)
            case d0 => simp; exact Nat.le_trans hBw (Nat.le_succ _)
            intro v1 w7 hI1 hg7 _
            have hb8 := (hb.alloc hBw _).grown hg7 (by simp; exact Nat.le_trans hBw (Nat.le_succ _)) (fun j hj => (HO.out.lt j hj).1)
            rw [show [Value.int .u8 92] = Lib.byteCells [92] from rfl, ← Lib.byteCells_append] at hI1
            have HI1 := Lib.hid hI1; have HB8 := Lib.hid hb8
            have hBw8 := hb8.size
            clear hI1 hb8 hg7
            go_wp2_with (at_builtin; refine wpList_append_own _ rfl (.tmp 29) (.tmp 33) 94 rfl w1.heap.size 5 i0 (.int .u8 0) 1 1 Tryz.underlying94 hi0 hz0 hz1 hz2 rfl (by decide) _ _ _ rfl (HI1.out.alloc _) ⟨w7.heap.size, 0, none⟩ 1 1 [.int .u8 (c.toNat : Int)] rfl rfl (cells_new _ _ _) (by simp [Value.oneCell']) (by unfold maxLen; omega) (by rw [Nat.mul_one]; omega) ?d1 ?_)
            case d1 => simp; exact Nat.le_trans hBw8 (Nat.le_succ _)
            intro v2 w9 hI2 hg9 _
            have hb9 := (HB8.out.alloc hBw8 _).grown hg9 (by simp; exact Nat.le_trans hBw8 (Nat.le_succ _)) (fun j hj => (HI1.out.lt j hj).1)
            rw [← byteCells_one c, ← Lib.byteCells_append, List.append_assoc, show [92] ++ [c] = [92, c] from rfl, ← HE.out, ← HW.out.2] at hI2
            have HI2 := Lib.hid hI2; have HB9 := Lib.hid hb9
            clear hI2 hb9 hg9
            have hln : acc.length + 1 + 1 = (34 :: escL (s.data.toList.take (i + 1))).length := by rw [HW.out.2, HE.out, List.length_append]; rfl
            rw [hln] at HI2
            clear hln
            go_wp2
            have hwi := HW.out.1
            go_roundw
            case rel => (try rw [hwi]); clear hwi; exact ⟨i + 1, by go_num, by omega, HI2.out, HB9.out⟩
            case measure => (try rw [hwi]); clear hwi; simp [intOf]; omega
        · have he : esc c = [c] := by unfold esc; rw [if_neg hx]
          have b34 : ((c.toNat : Int) == 34) = false := (ne_u8o c 34 (by decide) (fun e => hx (Or.inl e))).1
          have b92 : ((c.toNat : Int) == 92) = false := (ne_u8o c 92 (by decide) (fun e => hx (Or.inr e))).1
          have HE := Lib.hid he
          clear he hx
          go_wp2_with (at_builtin; refine wpList_append_own _ rfl (.tmp 29) (.tmp 33) 94 rfl w1.heap.size 5 i0 (.int .u8 0) 1 1 Tryz.underlying94 hi0 hz0 hz1 hz2 rfl (by decide) _ _ _ rfl (HO.out.alloc _) ⟨wr.heap.size, 0, none⟩ 1 1 [.int .u8 (c.toNat : Int)] rfl rfl (cells_new _ _ _) (by simp [Value.oneCell']) (by unfold maxLen; omega) (by rw [Nat.mul_one]; omega) ?d1 ?_)
          case d1 => simp; exact Nat.le_trans hBw (Nat.le_succ _)
          intro v2 w9 hI2 hg9 _
          have hb9 := (hb.alloc hBw _).grown hg9 (by simp; exact Nat.le_trans hBw (Nat.le_succ _)) (fun j hj => (HO.out.lt j hj).1)
          rw [← byteCells_one c, ← Lib.byteCells_append, ← HE.out, ← HW.out.2] at hI2
          have HI2 := Lib.hid hI2; have HB9 := Lib.hid hb9
          clear hI2 hb9 hg9
          have hln : acc.length + 1 = (34 :: escL (s.data.toList.take (i + 1))).length := by rw [HW.out.2, HE.out, List.length_append]; rfl
          rw [hln] at HI2
          clear hln
          go_wp2
          have hwi := HW.out.1
          go_roundw
          case rel => (try rw [hwi]); clear hwi; exact ⟨i + 1, by go_num, by omega, HI2.out, HB9.out⟩
          case measure => (try rw [hwi]); clear hwi; simp [intOf]; omega
      · obtain rfl : i = s.size := by omega
        have hd : decide (s.size < s.size) = false := decide_eq_false (Nat.lt_irrefl _)
        rw [List.take_of_length_le (by rw [size_list]; exact Nat.le_refl _)] at hO hbd
        have HO := Lib.hid hO
        clear hO
        go_wp2_with (at_builtin; refine wpList_append_own _ rfl (.tmp 35) (.tmp 36) 94 rfl w1.heap.size 5 i0 (.int .u8 0) 1 1 Tryz.underlying94 hi0 hz0 hz1 hz2 rfl (by decide) _ _ _ rfl (HO.out.alloc _) ⟨wr.heap.size, 0, none⟩ 1 1 [.int .u8 34] rfl rfl (cells_new _ _ _) (by simp [Value.oneCell']) (by unfold maxLen; omega) (by rw [Nat.mul_one]; omega) ?d2 ?_)
        case d2 => simp; exact Nat.le_trans hBw (Nat.le_succ _)
        intro v2 w9 hI2 hg9 _
        have hb9 := (hb.alloc hBw _).grown hg9 (by simp; exact Nat.le_trans hBw (Nat.le_succ _)) (fun j hj => (HO.out.lt j hj).1)
        rw [show [Value.int .u8 34] = Lib.byteCells [34] from rfl, ← Lib.byteCells_append] at hI2
        have hln : (escL s.data.toList).length + 1 + 1 = (34 :: escL s.data.toList ++ [34]).length := by rw [List.length_append]; rfl
        rw [hln] at hI2
        have hcv := run_str_own w9 94 5 Tryz.underlying94 Tryz.underlying5 hI2 9 Tryz.underlying9
        have HB9 := Lib.hid hb9
        clear hI2 hb9 hg9 hln
        go_wp2
        go_ret2
        rw [HQ.out]
        exact ⟨rfl, HB9.out⟩
end Go.Proofs.YtlfdeenekjklgaaGreatDoor
namespace Go.Proofs.YtlfdeenekjklgaaGreatDoor
open Go.RowKit
set_option linter.unusedSimpArgs false
set_option linter.unusedVariables false
set_option maxRecDepth 1000000
theorem bld_later {B b : Nat} {T e : TypeId} {bs : List Value} {w w' : World} (h : Lib.IsBuilder T e B b bs w) (hb : Below w.heap.size w w') : Lib.IsBuilder T e B b bs w' := by
  have key : ∀ p, Lib.BuilderAt T e B b p bs w → Lib.BuilderAt T e B b p bs w' := fun p ⟨h1, v, h2, h3, h4⟩ =>
    ⟨h1, v, by rw [hb.block b (Array.getElem?_eq_some_iff.1 h2).1]; exact h2, own_later h3 hb, h4⟩
  rcases h with h | h
  · exact Or.inl (key _ h)
  · exact Or.inr (key _ h)
theorem strCells_s (s : ByteArray) : Lib.strCells s = Lib.byteCells s.data.toList := by
  unfold Lib.strCells Lib.byteCells
  rfl
/-- The blocks that are no builder and no row of bytes stay. -/
def Keeps (w w' : World) : Prop := ∀ (g : Nat) (cs : Array Value) (T : TypeId) (r : Nat × Nat), w.heap[g]? = some (.cells cs T r) → T ≠ 5 → T ≠ 98 → w'.heap[g]? = some (.cells cs T r)
theorem Keeps.refl (w : World) : Keeps w w := fun _ _ _ _ h _ _ => h
theorem Keeps.trans {a b c : World} (h : Keeps a b) (k : Keeps b c) : Keeps a c := fun g cs T r hg h1 h2 => k g cs T r (h g cs T r hg h1 h2) h1 h2
theorem Keeps.of_below {w w' : World} (h : Below w.heap.size w w') : Keeps w w' := fun g cs T r hg _ _ => by rw [h.block g (Array.getElem?_eq_some_iff.1 hg).1]; exact hg
theorem Keeps.setCell {w : World} {b i : Nat} {cs : Array Value} {r : Nat × Nat} (hb : w.heap[b]? = some (.cells cs 98 r)) (v : Value) : Keeps w (w.setCell ⟨b, i, none⟩ v) := fun g cs2 T r2 hg _ h2 => by
  rw [Below.heap_setCell w ⟨b, i, none⟩ v g (by
    intro e
    have e' : g = b := e
    rw [e', hb] at hg
    injection hg with hg
    injection hg with _ hT
    exact h2 hT.symm)]
  exact hg
theorem Keeps.grown {w w' : World} {B : Nat} {v : Value} {n : Nat} {xs : List Value} (hown : w.ownsRow B 5 1 v n xs) (hg : w.grownBy w' v.ownBlock) : Keeps w w' := fun g cs T r hh h1 _ => by
  rw [hg.block g (Array.getElem?_eq_some_iff.1 hh).1 (by
    intro e
    rcases hown.2 with ⟨rfl, _⟩ | ⟨k, cap, cur, rfl, _, hk, _⟩
    · cases e
    · have e' : g = k := by injection e
      rw [e', hk] at hh
      injection hh with hh
      injection hh with _ hT
      exact h1 hT.symm)]
  exact hh
theorem copyCheck_keep (B b : Nat) (bs : List Value) (w : World) (h : Lib.IsBuilder 98 5 B b bs w) :
    Calls Tryz.prog 92 #[.pointer (some ⟨b, 0, none⟩)] w fun e w' => e = .returned (.tuple #[]) ∧ Lib.BuilderAt 98 5 B b (.pointer (some ⟨b, 0, none⟩)) bs w' ∧ Below B w w' ∧ Keeps w w' := by
  rcases h with h | h
  · refine (copyCheck_fresh b w h.cell0 h.shape h.frozen0).mono ?_
    rintro e w' ⟨rfl, rfl⟩
    obtain ⟨v, hb, _⟩ := h.2
    exact ⟨rfl, h.used _, (Below.refl B w).setCell (p := ⟨b, 0, none⟩) h.1 _, Keeps.setCell hb _⟩
  · refine (copyCheck_used b w h.cell0).mono ?_
    rintro e w' ⟨rfl, rfl⟩
    exact ⟨rfl, h, Below.refl B _, Keeps.refl _⟩
theorem writeString_any (B b : Nat) (acc : List UInt8) (s : ByteArray) (w : World) (h : Lib.IsBuilder 98 5 B b (Lib.byteCells acc) w) (hlen : acc.length + s.size ≤ 140737488355328) (hBw : B ≤ w.heap.size) :
    Calls Tryz.prog 50 #[.pointer (some ⟨b, 0, none⟩), .string s] w fun e w' => e = .returned (.tuple #[.int .i64 (s.size : Int), .nilIface]) ∧ (Lib.IsBuilder 98 5 B b (Lib.byteCells (acc ++ s.data.toList)) w' ∧ Below B w w' ∧ Keeps w w') := by
  obtain ⟨i0, hi, hz0, hz1, hz2⟩ := info_parts infoByte
  have hbl : (Lib.byteCells acc).length + s.size ≤ 140737488355328 := by rw [Lib.byteCells_length]; exact hlen
  rw [Lib.byteCells_append, ← strCells_s]
  generalize Lib.byteCells acc = bs at h hbl ⊢
  clear hlen
  go_enter Tryz.func50, Tryz.ntmps50
  go_wp2_with (go_at_call 92; refine (copyCheck_keep B b bs _ h).mono ?_)
  rintro e w1 ⟨rfl, h1, hb1, hk1⟩
  obtain ⟨hB, v, hbk, hown, hne⟩ := h1
  have c0 : w1.cell? ⟨b, 0, none⟩ = some (.pointer (some ⟨b, 0, none⟩)) := by rw [Lib.cell_of_heap hbk]; rfl
  have c1 : w1.cell? ⟨b, 1, none⟩ = some v := by rw [Lib.cell_of_heap hbk]; rfl
  have hbs := hb1.size
  go_wp2_with (at_builtin; refine Lib.wpList_append_own_string _ rfl (.tmp 12) (.tmp 13) 94 9 rfl B 5 i0 Tryz.underlying94 Tryz.underlying9 hi hz0 hz1 hz2 _ _ _ rfl hown _ rfl ?c3 ?c4 ?c5 ?_)
  case c3 => unfold maxLen; omega
  case c4 => exact hbl
  case c5 => omega
  intro v' w2 hown' hgrow _
  have hlt : b < w1.heap.size := (Array.getElem?_eq_some_iff.1 hbk).1
  have hb2 : w2.heap[b]? = some (.cells #[.pointer (some ⟨b, 0, none⟩), v] 98 (0, 0)) := by
    rw [hgrow.block b hlt (fun e => hne e.symm)]
    exact hbk
  have d0 : w2.cell? ⟨b, 0, none⟩ = some (.pointer (some ⟨b, 0, none⟩)) := by rw [Lib.cell_of_heap hb2]; rfl
  have d1 : w2.cell? ⟨b, 1, none⟩ = some v := by rw [Lib.cell_of_heap hb2]; rfl
  have f1 : w2.frozen? ⟨b, 1, none⟩ = false := Lib.frozen_of_heap hb2 1
  have hsl : ∃ a n c, v' = .slice a n c := by
    rcases hown'.2 with ⟨rfl, _⟩ | ⟨g, cap, cur, hv, _⟩
    · exact ⟨_, _, _, rfl⟩
    · exact ⟨_, _, _, hv⟩
  obtain ⟨a, n, cp, rfl⟩ := hsl
  have hput := Lib.BuilderAt.put (T := 98) (e := 5) (p := .pointer (some ⟨b, 0, none⟩)) hB hb2 (bs' := bs ++ Lib.strCells s) (by rw [List.length_append, Lib.strCells_length]; exact hown') (by decide)
  have hbw := ((hb1.grown hgrow (by omega) (fun k hk => (hown.lt k hk).1))).setCell (p := ⟨b, 1, none⟩) hB (.slice a n cp)
  have hkp := (hk1.trans (Keeps.grown hown hgrow)).trans (Keeps.setCell hb2 (i := 1) (.slice a n cp))
  have HP := Lib.hid (And.intro hput (And.intro hbw hkp))
  clear hput hbw hkp hk1 hown hown' hgrow hb1 hb2 hbk
  go_wp2
  go_ret2
  exact ⟨rfl, Or.inr HP.out.1, HP.out.2.1, HP.out.2.2⟩
end Go.Proofs.YtlfdeenekjklgaaGreatDoor
namespace Go.Proofs.YtlfdeenekjklgaaGreatDoor
open Go.RowKit
set_option linter.unusedSimpArgs false
set_option linter.unusedVariables false
/-- What a hexadecimal digit says. -/
def hv (c : UInt8) : Option Nat := if 48 ≤ c.toNat ∧ c.toNat ≤ 57 then some (c.toNat - 48) else if 97 ≤ c.toNat ∧ c.toNat ≤ 102 then some (c.toNat - 87) else if 65 ≤ c.toNat ∧ c.toNat ≤ 70 then some (c.toNat - 55) else none
theorem hv_lt (c : UInt8) (n : Nat) (h : hv c = some n) : n < 16 := by
  unfold hv at h
  split at h
  · injection h; omega
  · split at h
    · injection h; omega
    · split at h
      · injection h; omega
      · cases h
/-- The triple that stands in front. -/
def trip : List UInt8 → Option Nat
  | p :: a :: b :: _ => if p = 37 then (match hv a, hv b with | some x, some y => some (x * 16 + y) | _, _ => none) else none
  | _ => none
theorem trip_some (l : List UInt8) (n : Nat) (h : trip l = some n) : ∃ a b r x y, l = 37 :: a :: b :: r ∧ hv a = some x ∧ hv b = some y ∧ n = x * 16 + y := by
  match l, h with
  | p :: a :: b :: r, h =>
    simp only [trip] at h
    by_cases hp : p = 37
    · rw [if_pos hp] at h
      cases ha : hv a with
      | none => rw [ha] at h; cases h
      | some x =>
        cases hb : hv b with
        | none => rw [ha, hb] at h; cases h
        | some y =>
          rw [ha, hb] at h
          injection h with h
          exact ⟨a, b, r, x, y, by rw [hp], ha, hb, h.symm⟩
    · rw [if_neg hp] at h; cases h
theorem trip_lt (l : List UInt8) (n : Nat) (h : trip l = some n) : n < 256 := by
  obtain ⟨a, b, r, x, y, _, ha, hb, rfl⟩ := trip_some l n h
  have := hv_lt a x ha
  have := hv_lt b y hb
  omega
/-- A text decoded: what it says, or the place of the first percent sign that begins no triple. -/
def pd : List UInt8 → List UInt8 → Nat → List UInt8 × Nat × Nat
  | acc, [], _ => (acc, 0, 0)
  | acc, c :: r, i =>
    if c = 37 then
      match r with
      | a :: b :: r' => match trip (c :: a :: b :: r') with | some n => pd (acc ++ [UInt8.ofNat n]) r' (i + 3) | none => ([], i, 51)
      | _ => ([], i, 51)
    else pd (acc ++ [c]) r (i + 1)
def pdec (l : List UInt8) : List UInt8 × Nat × Nat := pd [] l 0
theorem pd_plain (acc : List UInt8) (c : UInt8) (r : List UInt8) (i : Nat) (h : c ≠ 37) : pd acc (c :: r) i = pd (acc ++ [c]) r (i + 1) := by
  rw [pd.eq_def]; simp only; rw [if_neg h]
theorem pd_bad (acc : List UInt8) (r : List UInt8) (i : Nat) (h : trip (37 :: r) = none) : pd acc (37 :: r) i = ([], i, 51) := by
  match r, h with
  | [], _ => rw [pd.eq_def]; simp
  | [a], _ => rw [pd.eq_def]; simp
  | a :: b :: r', h => rw [pd.eq_def]; simp only [if_true]; rw [h]
theorem pd_good (acc : List UInt8) (l : List UInt8) (i n : Nat) (h : trip l = some n) : pd acc l i = pd (acc ++ [UInt8.ofNat n]) (l.drop 3) (i + 3) ∧ 3 ≤ l.length := by
  obtain ⟨a, b, r, x, y, rfl, _⟩ := trip_some l n h
  constructor
  · rw [pd.eq_def]; simp only [if_true]; rw [h]; rfl
  · simp
theorem ofNat_cells (n : Nat) (h : n < 256) : Lib.byteCells [UInt8.ofNat n] = [Value.int .u8 (n : Int)] := by
  simp [Lib.byteCells]
  omega
end Go.Proofs.YtlfdeenekjklgaaGreatDoor
