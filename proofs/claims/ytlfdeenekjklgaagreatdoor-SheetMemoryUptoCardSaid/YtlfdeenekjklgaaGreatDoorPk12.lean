/- Oct8, Oct9: texts of the seat, one behind the other (a claim holds at most sixty). Conditions: each theorem names its own. -/
import Derived.Test.YtlfdeenekjklgaaGreatDoorPk05
import Derived.Test.YtlfdeenekjklgaaGreatDoorPk06
namespace Go.Proofs.YtlfdeenekjklgaaGreatDoor
open Go.RowKit
set_option linter.unusedSimpArgs false
set_option linter.unusedVariables false
set_option maxRecDepth 1000000
theorem last_list (t : ByteArray) (j : Nat) (h : j + 1 = t.size) (c : UInt8) (hc : t.data.toList[j]? = some c) : t.data.toList = t.data.toList.take j ++ [c] := by
  have hl : t.data.toList.length = j + 1 := by rw [size_list, h]
  have := List.take_append_drop j t.data.toList
  obtain ⟨hlt, he⟩ := List.getElem?_eq_some_iff.1 hc
  rw [List.drop_eq_getElem_cons hlt, he, List.drop_eq_nil_of_le (by omega)] at this
  exact this.symm
theorem list_nil_o (t : ByteArray) (h : t.size = 0) : t.data.toList = [] := List.eq_nil_of_length_eq_zero (by rw [size_list]; exact h)
set_option maxHeartbeats 4000000 in
theorem rtrim_any (s : ByteArray) (w : World) (hs : s.size ≤ 1099511627776) :
    Calls Tryz.prog 33 #[.string s] w fun e w' => e = .returned (.string ⟨(trimL s.data.toList).toArray⟩) ∧ w' = w := by
  go_enter Tryz.func33, Tryz.ntmps33
  go_wp2
  go_loopw [0] (fun v wr => ∃ t : ByteArray, v = .string t ∧ t.size ≤ s.size ∧ t.data.toList.dropWhile isBl = s.data.toList.dropWhile isBl ∧ wr = w) (fun v _ => match v with | .string t => t.size | _ => 0)
  case atStart => exact ⟨s, rfl, Nat.le_refl _, rfl, rfl⟩
  case round =>
    obtain ⟨t, rfl, hts, hdw, rfl⟩ := hrel
    by_cases h0 : t.size = 0
    · have hd1 : trimL s.data.toList = trimR t.data.toList := by rw [trimL_eq, ← hdw, list_nil_o t h0]; rfl
      have e0 : t.toList.isEmpty = true := by rw [ByteArray.toList_eq, list_nil_o t h0]; rfl
      have e1 : t.toList = [] := by rw [ByteArray.toList_eq, list_nil_o t h0]
      have HD := Lib.hid (And.intro hd1 hts)
      clear hd1 hdw h0 hts
      go_wp2
      go_loopw [0] (fun v wq => ∃ u : ByteArray, v = .string u ∧ u.size ≤ s.size ∧ trimR u.data.toList = trimR t.data.toList ∧ wq = wr) (fun v _ => match v with | .string t => t.size | _ => 0)
      case atStart => exact ⟨t, rfl, HD.out.2, rfl, rfl⟩
      case round =>
        clear e0 e1
        obtain ⟨u, rfl, hus, htr, rfl⟩ := hrel
        by_cases h0 : u.size = 0
        · have hres : trimL s.data.toList = [] := by rw [HD.out.1, ← htr, list_nil_o u h0]; rfl
          obtain rfl := emp_o u h0
          have HRS := Lib.hid hres
          clear hres htr h0
          go_wp2
          go_ret
          exact ⟨by rw [HRS.out]; rfl, rfl⟩
        · have hpos : 0 < u.size := by omega
          obtain ⟨j, hj⟩ : ∃ j, j + 1 = u.size := ⟨u.size - 1, by omega⟩
          have hlt : j < u.size := by omega
          obtain ⟨c, hc⟩ : ∃ c, u[j]'hlt = c := ⟨_, rfl⟩
          have hget := list_get u j hlt
          rw [hc] at hget
          have hlast := last_list u j hj c hget
          have e0 := full_o u hpos
          have e1 := full_o2 u hpos
          have f1 : (u.size : Int) - 1 = (j : Int) := by omega
          have p0 : (0 : Int) ≤ (j : Int) := by omega
          have p1 : (j : Int) < (u.size : Int) := by omega
          have p2 : (j : Int) ≤ (u.size : Int) := by omega
          have HJ := Lib.hid hj
          clear h0 hget hj
          cases hb : isBl c with
          | true =>
            have hx : trimR (u.data.toList.take j) = trimR t.data.toList := by rw [← htr, hlast, trimR_snoc_bl _ _ hb, List.take_append_of_le_length (by rw [List.length_take, size_list]; omega), List.take_take, Nat.min_self]
            have hsz : (u.extract 0 j).size < u.size ∧ (u.extract 0 j).size ≤ s.size := by rw [ext_front, size_mk, List.length_take, size_list]; omega
            have HX := Lib.hid (And.intro hx (And.intro hb hsz))
            clear hx hb hsz htr hlast
            go_wp2_with fail
            refine (rblank_any c _).mono ?_
            rintro e w ⟨rfl, rfl⟩
            rw [HX.out.2.1]
            go_wp2
            go_roundw
            case rel => exact ⟨_, rfl, HX.out.2.2.2, by rw [ext_front]; exact HX.out.1, by first | rfl | trivial⟩
            case measure => exact HX.out.2.2.1
          | false =>
            have hres : trimL s.data.toList = u.data.toList := by rw [HD.out.1, ← htr, hlast, trimR_snoc_other _ _ hb]
            have HX := Lib.hid (And.intro hres hb)
            clear hres hb htr hlast
            go_wp2_with fail
            refine (rblank_any c _).mono ?_
            rintro e w ⟨rfl, rfl⟩
            rw [HX.out.2]
            go_wp2
            go_ret
            refine ⟨?_, rfl⟩
            rw [HX.out.1, str_eq]; rfl
    · have hpos : 0 < t.size := by omega
      obtain ⟨c, hc⟩ : ∃ c, t[0]'hpos = c := ⟨_, rfl⟩
      have hget := drop_get t 0 hpos
      rw [hc, List.drop_zero] at hget
      have e0 := full_o t hpos
      have e1 := full_o2 t hpos
      have p0 : (0 : Int) < (t.size : Int) := by omega
      clear h0
      cases hb : isBl c with
      | true =>
        have hx : (t.data.toList.drop 1).dropWhile isBl = s.data.toList.dropWhile isBl := by rw [← hdw, hget, List.dropWhile_cons_of_pos hb]; rfl
        have hsz : (t.extract 1 t.size).size < t.size ∧ (t.extract 1 t.size).size ≤ s.size := by rw [ext_back, size_mk, List.length_drop, size_list]; omega
        have hp1 : (1 : Int) ≤ (t.size : Int) := by omega
        have HX := Lib.hid (And.intro hx (And.intro hb hsz))
        clear hx hb hsz hdw hget
        go_wp2_with fail
        refine (rblank_any c _).mono ?_
        rintro e w ⟨rfl, rfl⟩
        rw [HX.out.2.1]
        go_wp2
        go_roundw
        case rel => exact ⟨_, rfl, HX.out.2.2.2, by rw [ext_back]; exact HX.out.1, by first | rfl | trivial⟩
        case measure => exact HX.out.2.2.1
      | false =>
        have hd1 : trimL s.data.toList = trimR t.data.toList := by rw [trimL_eq, ← hdw, hget, List.dropWhile_cons_of_neg (by rw [hb]; simp)]
        have HB := Lib.hid hb
        have HD := Lib.hid (And.intro hd1 hts)
        clear hd1 hdw hb hts hget
        go_wp2_with fail
        refine (rblank_any c _).mono ?_
        rintro e w ⟨rfl, rfl⟩
        rw [HB.out]
        clear e0 e1 p0 hc HB hpos
        go_wp2
        go_loopw [0] (fun v wq => ∃ u : ByteArray, v = .string u ∧ u.size ≤ s.size ∧ trimR u.data.toList = trimR t.data.toList ∧ wq = w) (fun v _ => match v with | .string t => t.size | _ => 0)
        case atStart => exact ⟨t, rfl, HD.out.2, rfl, rfl⟩
        case round =>
          obtain ⟨u, rfl, hus, htr, rfl⟩ := hrel
          by_cases h0 : u.size = 0
          · have hres : trimL s.data.toList = [] := by rw [HD.out.1, ← htr, list_nil_o u h0]; rfl
            obtain rfl := emp_o u h0
            have HRS := Lib.hid hres
            clear hres htr h0
            go_wp2
            go_ret
            exact ⟨by rw [HRS.out]; rfl, rfl⟩
          · have hpos : 0 < u.size := by omega
            obtain ⟨j, hj⟩ : ∃ j, j + 1 = u.size := ⟨u.size - 1, by omega⟩
            have hlt : j < u.size := by omega
            obtain ⟨c, hc⟩ : ∃ c, u[j]'hlt = c := ⟨_, rfl⟩
            have hget := list_get u j hlt
            rw [hc] at hget
            have hlast := last_list u j hj c hget
            have e0 := full_o u hpos
            have e1 := full_o2 u hpos
            have f1 : (u.size : Int) - 1 = (j : Int) := by omega
            have p0 : (0 : Int) ≤ (j : Int) := by omega
            have p1 : (j : Int) < (u.size : Int) := by omega
            have p2 : (j : Int) ≤ (u.size : Int) := by omega
            have HJ := Lib.hid hj
            clear h0 hget hj
            cases hb : isBl c with
            | true =>
              have hx : trimR (u.data.toList.take j) = trimR t.data.toList := by rw [← htr, hlast, trimR_snoc_bl _ _ hb, List.take_append_of_le_length (by rw [List.length_take, size_list]; omega), List.take_take, Nat.min_self]
              have hsz : (u.extract 0 j).size < u.size ∧ (u.extract 0 j).size ≤ s.size := by rw [ext_front, size_mk, List.length_take, size_list]; omega
              have HX := Lib.hid (And.intro hx (And.intro hb hsz))
              clear hx hb hsz htr hlast
              go_wp2_with fail
              refine (rblank_any c _).mono ?_
              rintro e w ⟨rfl, rfl⟩
              rw [HX.out.2.1]
              go_wp2
              go_roundw
              case rel => exact ⟨_, rfl, HX.out.2.2.2, by rw [ext_front]; exact HX.out.1, by first | rfl | trivial⟩
              case measure => exact HX.out.2.2.1
            | false =>
              have hres : trimL s.data.toList = u.data.toList := by rw [HD.out.1, ← htr, hlast, trimR_snoc_other _ _ hb]
              have HX := Lib.hid (And.intro hres hb)
              clear hres hb htr hlast
              go_wp2_with fail
              refine (rblank_any c _).mono ?_
              rintro e w ⟨rfl, rfl⟩
              rw [HX.out.2]
              go_wp2
              go_ret
              refine ⟨?_, rfl⟩
              rw [HX.out.1, str_eq]; rfl
end Go.Proofs.YtlfdeenekjklgaaGreatDoor
namespace Go.Proofs.YtlfdeenekjklgaaGreatDoor
open Go.RowKit
set_option linter.unusedSimpArgs false
set_option linter.unusedVariables false
set_option maxRecDepth 1000000
theorem infoAParO : (Tryz.prog.info? 52).map (fun i => (i.zero, i.size, i.bytes)) = some (some (.agg #[.string ByteArray.empty, .string ByteArray.empty, .bool false]), 3, 40) := by kernel_rfl
theorem info_partsAO (h : (Tryz.prog.info? 52).map (fun i => (i.zero, i.size, i.bytes)) = some (some (.agg #[.string ByteArray.empty, .string ByteArray.empty, .bool false]), 3, 40)) : ∃ i, Tryz.prog.info? 52 = some i ∧ i.zero = some (.agg #[.string ByteArray.empty, .string ByteArray.empty, .bool false]) ∧ i.size = 3 ∧ i.bytes = 40 := by
  obtain ⟨i, hi, he⟩ := Option.map_eq_some_iff.1 h
  simp only [Prod.mk.injEq] at he
  exact ⟨i, hi, he.1, he.2.1, he.2.2⟩
def ParamsPost (s : ByteArray) (T : TypeId) (w : World) (e : Ending) (w' : World) : Prop := ∃ v, e = .returned (.tuple #[v, .int .i64 ((parR s.data.toList).2.1 : Nat), .int .i64 ((parR s.data.toList).2.2 : Nat)]) ∧ w'.ownsRow w.heap.size T 3 v (parR s.data.toList).1.length (parsV (parR s.data.toList).1) ∧ Below w.heap.size w w'
theorem p_bd (d e s : Nat) (h : d ≤ e) (he : e ≤ s) (hs : s ≤ 1099511627776) : d + 1 ≤ maxLen ∧ (d + 1) * 40 ≤ 140737488355328 := by unfold maxLen; omega
theorem at_get (s : ByteArray) (k : Nat) (h : k < s.size) (c d : UInt8) (hc : s[k]'h = c) (hd : c ≠ d) : s.data.toList[k]? ≠ some d := by
  rw [list_get s k h, hc]; intro e; injection e with e; exact hd e
theorem at_end (s : ByteArray) (k : Nat) (h : s.size ≤ k) (d : UInt8) : s.data.toList[k]? ≠ some d := by
  rw [List.getElem?_eq_none (by rw [size_list]; exact h)]; simp
theorem frozen_new {w w1 : World} {cs : Array Value} {T : TypeId} {j : Nat} (hb : Below (w.alloc (.cells cs T)).heap.size (w.alloc (.cells cs T)) w1) : w1.frozen? ⟨w.heap.size, j, none⟩ = false := by
  rw [hb.frozen (p := ⟨w.heap.size, j, none⟩) (by simp)]
  exact Lib.frozen_of_heap (heap_alloc_new w _) j
theorem set12 {w : World} {P : Nat} {a b c x y : Value} (c0 : w.cell? ⟨P, 0, none⟩ = some a) (c1 : w.cell? ⟨P, 1, none⟩ = some b) (c2 : w.cell? ⟨P, 2, none⟩ = some c) :
    ((w.setCell ⟨P, 1, none⟩ x).setCell ⟨P, 2, none⟩ y).cell? ⟨P, 0, none⟩ = some a ∧ ((w.setCell ⟨P, 1, none⟩ x).setCell ⟨P, 2, none⟩ y).cell? ⟨P, 1, none⟩ = some x ∧ ((w.setCell ⟨P, 1, none⟩ x).setCell ⟨P, 2, none⟩ y).cell? ⟨P, 2, none⟩ = some y := by
  have n01 : (⟨P, 1, none⟩ : Addr) ≠ ⟨P, 0, none⟩ := by intro e; injection e with _ e _; omega
  have n02 : (⟨P, 2, none⟩ : Addr) ≠ ⟨P, 0, none⟩ := by intro e; injection e with _ e _; omega
  have n21 : (⟨P, 2, none⟩ : Addr) ≠ ⟨P, 1, none⟩ := by intro e; injection e with _ e _; omega
  have n12 : (⟨P, 1, none⟩ : Addr) ≠ ⟨P, 2, none⟩ := by intro e; injection e with _ e _; omega
  refine ⟨?_, ?_, ?_⟩
  · rw [World.cell?_setCell_other _ _ _ _ n02, World.cell?_setCell_other _ _ _ _ n01]; exact c0
  · rw [World.cell?_setCell_other _ _ _ _ n21, World.cell?_setCell_same _ _ _ c1]
  · rw [World.cell?_setCell_same _ _ _ (show (w.setCell ⟨P, 1, none⟩ x).cell? ⟨P, 2, none⟩ = some c from by rw [World.cell?_setCell_other _ _ _ _ n12]; exact c2)]
set_option maxHeartbeats 8000000 in
theorem oparams_any (s : ByteArray) (w : World) (hs : s.size ≤ 1099511627776) (hg : SgAt w) : Calls Tryz.prog 44 #[.string s] w (ParamsPost s 52 w) := by
  obtain ⟨i0, hi0, hz0, hz1, hz2⟩ := info_partsAO infoAParO
  obtain ⟨L, hL⟩ : ∃ L, w.heap.size = L := ⟨_, rfl⟩
  have hbb : Below L w w := by rw [← hL]; exact Below.refl _ w
  have HL := Lib.hid hL; clear hL
  have HG := Lib.hid hg; clear hg
  go_enter Tryz.func44, Tryz.ntmps44
  go_wp2
  go_loopw [6, 5] (fun ev v wr => ∃ (e : Nat) (done : List Par), ev = .int .i64 e ∧ ParR s.data.toList e done ∧ wr.ownsRow L 52 3 v done.length (parsV done) ∧ Below L w wr) (fun ev _ _ => s.size - (intOf ev).toNat)
  case atStart => exact ⟨0, [], rfl, ParR.start _, World.ownsRow_nil _ _ _ _, hbb⟩
  case round =>
    clear hbb
    obtain ⟨e, done, rfl, hR, hown, hb⟩ := hrel
    have he : e ≤ s.size := by have := hR.1; rw [size_list] at this; exact this
    have hbd := p_bd _ _ _ hR.2.1 he hs
    have hG : SgAt wr := HG.out.below (by rw [HL.out]; exact hb)
    have hnb := runL_at isBl s e
    obtain ⟨nb, hnbe⟩ : ∃ nb, runL isBl (s.data.toList.drop e) = nb := ⟨_, rfl⟩
    rw [hnbe] at hnb
    obtain ⟨a, ha⟩ : ∃ a, e + nb = a := ⟨_, rfl⟩
    have f1 : (e : Int) + (nb : Int) = (a : Int) := by omega
    have has : a ≤ s.size := by omega
    have r1 := orunb_any s e wr hs he
    rw [hnbe] at r1
    have HR := Lib.hid hR; have HO := Lib.hid hown; have HB := Lib.hid hb; have HGG := Lib.hid hG; have R1 := Lib.hid r1
    have HA : Hid (e + runL isBl (s.data.toList.drop e) = a) := Lib.hid (by rw [hnbe]; exact ha)
    clear hR hown hb hG r1 hnbe ha
    by_cases h59 : ∃ hlt : a < s.size, s[a]'hlt = 59
    · obtain ⟨hlt, hc⟩ := h59
      have hget : s.data.toList[a]? = some 59 := by rw [list_get s a hlt, hc]
      have k0 : (0 : Int) ≤ (a : Int) := Int.natCast_nonneg _
      have k1 : (a : Int) < (s.size : Int) := by omega
      have k2 : ((a : Int) == (s.size : Int)) = false := by simp; omega
      obtain ⟨e1, he1⟩ : ∃ e1, a + 1 = e1 := ⟨_, rfl⟩
      have f2 : (a : Int) + 1 = (e1 : Int) := by omega
      have he1s : e1 ≤ s.size := by omega
      have hbl := runL_at isBl s e1
      obtain ⟨b, hbe⟩ : ∃ b, runL isBl (s.data.toList.drop e1) = b := ⟨_, rfl⟩
      rw [hbe] at hbl
      obtain ⟨p, hp⟩ : ∃ p, e1 + b = p := ⟨_, rfl⟩
      have f3 : (e1 : Int) + (b : Int) = (p : Int) := by omega
      have hps : p ≤ s.size := by omega
      have hnl := runL_at isSg s p
      obtain ⟨n, hne⟩ : ∃ n, runL isSg (s.data.toList.drop p) = n := ⟨_, rfl⟩
      rw [hne] at hnl
      have r2 := orunb_any s e1 wr hs he1s
      rw [hbe] at r2
      have r3 := oruns_any s p wr hs hps HGG.out
      rw [hne] at r3
      have R2 := Lib.hid r2; have R3 := Lib.hid r3
      have hee : e < e1 := by have := HA.out; omega
      have HF := Lib.hid (And.intro hget (And.intro he1 (And.intro hbe (And.intro hp hne))))
      clear r2 r3 hget he1 hbe hp hne
      by_cases hn0 : n = 0
      · subst hn0
        have hst : ParR s.data.toList e1 done := by
          obtain ⟨k, hk, hke⟩ := step_blank _ e a e1 b p HA.out HF.out.1 HF.out.2.1 HF.out.2.2.1 HF.out.2.2.2.1 HF.out.2.2.2.2
          have := HR.out.step hk
          rw [hke] at this
          simpa using this
        have HST := Lib.hid hst; clear hst
        go_wp2_with fail
        refine (R1.out).mono ?_
        rintro e' wr ⟨rfl, rfl⟩
        go_wp2_with fail
        refine (R2.out).mono ?_
        rintro e' wr ⟨rfl, rfl⟩
        go_wp2_with fail
        refine (R3.out).mono ?_
        rintro e' wr ⟨rfl, rfl⟩
        go_wp2
        go_roundw
        case rel => exact ⟨e1, done, rfl, HST.out, HO.out, HB.out⟩
        case measure => simp [intOf]; omega
      · have b0 : ((n : Int) == 0) = false := by simp; omega
        obtain ⟨e2, he2⟩ : ∃ e2, p + n = e2 := ⟨_, rfl⟩
        have f4 : (p : Int) + (n : Int) = (e2 : Int) := by omega
        have he2s : e2 ≤ s.size := by omega
        have hee2 : e < e2 := by have := HF.out.2.2.2.1; omega
        obtain ⟨nm, hnm⟩ : ∃ nm, (s.data.toList.drop p).take n = nm := ⟨_, rfl⟩
        have hx : s.extract p e2 = ⟨nm.toArray⟩ := by rw [ext_mk, ← hnm, ← he2, Nat.add_sub_cancel_left]
        have p0 : (0 : Int) ≤ (p : Int) := Int.natCast_nonneg _
        have p1 : (p : Int) ≤ (e2 : Int) := by omega
        have p2 : (e2 : Int) ≤ (s.size : Int) := by omega
        have HE := Lib.hid (And.intro he2 (And.intro hnm hn0))
        clear he2 hnm hn0
        by_cases h61 : ∃ hlt : e2 < s.size, s[e2]'hlt = 61
        · obtain ⟨hlt2, hc2⟩ := h61
          have hget2 : s.data.toList[e2]? = some 61 := by rw [list_get s e2 hlt2, hc2]
          have q0 : (0 : Int) ≤ (e2 : Int) := Int.natCast_nonneg _
          have q1 : (e2 : Int) < (s.size : Int) := by omega
          obtain ⟨e3, he3⟩ : ∃ e3, e2 + 1 = e3 := ⟨_, rfl⟩
          have f5 : (e2 : Int) + 1 = (e3 : Int) := by omega
          have he3s : e3 ≤ s.size := by omega
          have q2 : (0 : Int) ≤ (e3 : Int) := Int.natCast_nonneg _
          have q3 : (e3 : Int) ≤ (s.size : Int) := by omega
          have hx3 := ext_back s e3
          have hsz3 : (⟨(s.data.toList.drop e3).toArray⟩ : ByteArray).size ≤ 1099511627776 := by rw [size_mk, List.length_drop, size_list]; omega
          have HQ := Lib.hid (And.intro hget2 (And.intro he3 hsz3))
          clear hget2 he3 hsz3
          cases hv : valP (s.data.toList.drop e3) with
          | none =>
            have hst := step_fault _ e a e1 b p n e2 e3 HA.out HF.out.1 HF.out.2.1 HF.out.2.2.1 HF.out.2.2.2.1 HF.out.2.2.2.2 HE.out.2.2 HE.out.1 HQ.out.1 HQ.out.2.1 hv
            have HD := Lib.hid (And.intro (HR.out.fault hst) hv)
            clear hst hv
            go_wp2_with fail
            refine (R1.out).mono ?_
            rintro e' wr ⟨rfl, rfl⟩
            go_wp2_with fail
            refine (R2.out).mono ?_
            rintro e' wr ⟨rfl, rfl⟩
            go_wp2_with fail
            refine (R3.out).mono ?_
            rintro e' wr ⟨rfl, rfl⟩
            go_wp2_with fail
            refine (ovalue_any _ _ HQ.out.2.2 (HGG.out.below ((Below.refl _ _).alloc (Nat.le_refl _) _))).mono ?_
            rintro e' w3 ⟨rfl, hb3⟩
            rw [show (⟨(s.data.toList.drop e3).toArray⟩ : ByteArray).data.toList = s.data.toList.drop e3 from rfl, HD.out.2, show valRet none = .tuple #[.string ⟨#[]⟩, .int .i64 0, .bool false] from rfl]
            have hbw : Below L w w3 := (HB.out.alloc (bsz HB.out HL) _).trans (hb3.mono (Nat.le_trans (bsz HB.out HL) (by simp)))
            have HBW := Lib.hid hbw
            clear hb3 hbw
            go_wp2
            go_ret3
            unfold ParamsPost
            rw [HD.out.1, HL.out]
            exact ⟨_, rfl, World.ownsRow_nil _ _ _ _, HBW.out⟩
          | some x =>
            obtain ⟨vl, k⟩ := x
            have hst : ParR s.data.toList (e3 + k) (done ++ [(nm, vl, true)]) := by
              obtain ⟨j, hj, hje⟩ := step_value _ e a e1 b p n e2 e3 HA.out HF.out.1 HF.out.2.1 HF.out.2.2.1 HF.out.2.2.2.1 HF.out.2.2.2.2 HE.out.2.2 HE.out.1 HQ.out.1 HQ.out.2.1 vl k hv
              have := HR.out.step hj
              rw [hje, HE.out.2.1] at this
              exact this
            have hu := valP_used _ _ _ hv
            rw [List.length_drop, size_list] at hu
            have HST := Lib.hid hst
            obtain ⟨e4, he4⟩ : ∃ e4, e3 + k = e4 := ⟨_, rfl⟩
            rw [he4] at HST
            obtain ⟨k1, hk1⟩ : ∃ k1, 1 + k = k1 := ⟨_, rfl⟩
            have f6 : (1 : Int) + (k : Int) = (k1 : Int) := by omega
            have f7 : (e2 : Int) + (k1 : Int) = (e4 : Int) := by have := HQ.out.2.1; omega
            have hee4 : e < e4 := by have := HQ.out.2.1; omega
            have he4s : e4 ≤ s.size := by omega
            have HD := Lib.hid hv
            clear hst hv hu he4 hk1
            go_wp2_with fail
            refine (R1.out).mono ?_
            rintro e' wr ⟨rfl, rfl⟩
            go_wp2_with fail
            refine (R2.out).mono ?_
            rintro e' wr ⟨rfl, rfl⟩
            go_wp2_with fail
            refine (R3.out).mono ?_
            rintro e' wr ⟨rfl, rfl⟩
            go_wp2_with fail
            refine (ovalue_any _ _ HQ.out.2.2 (HGG.out.below ((Below.refl _ _).alloc (Nat.le_refl _) _))).mono ?_
            rintro e' w3 ⟨rfl, hb3⟩
            rw [show (⟨(s.data.toList.drop e3).toArray⟩ : ByteArray).data.toList = s.data.toList.drop e3 from rfl, HD.out, show valRet (some (vl, k)) = .tuple #[.string ⟨vl.toArray⟩, .int .i64 (k : Int), .bool true] from rfl]
            have c0 := new_kept hb3 (j := 0) rfl
            have c1 := new_kept hb3 (j := 1) rfl
            have c2 := new_kept hb3 (j := 2) rfl
            have z1 := frozen_new (j := 1) hb3
            have z2 := frozen_new (j := 2) hb3
            obtain ⟨P, hP⟩ : ∃ P, wr.heap.size = P := ⟨_, rfl⟩
            have hb5 : Below wr.heap.size wr ((w3.setCell ⟨P, 1, none⟩ (.string ⟨vl.toArray⟩)).setCell ⟨P, 2, none⟩ (.bool true)) := ((((Below.refl _ wr).alloc (Nat.le_refl _) _).trans (hb3.mono (by simp))).setCell (p := ⟨P, 1, none⟩) (by rw [← hP]; exact Nat.le_refl _) _).setCell (p := ⟨P, 2, none⟩) (by rw [← hP]; exact Nat.le_refl _) _
            rw [hP] at c0 c1 c2 z1 z2
            obtain ⟨W, hW⟩ : ∃ W, (w3.setCell ⟨P, 1, none⟩ (.string ⟨vl.toArray⟩)).setCell ⟨P, 2, none⟩ (.bool true) = W := ⟨_, rfl⟩
            obtain ⟨d0, d1, d2⟩ := set12 (x := .string ⟨vl.toArray⟩) (y := .bool true) c0 c1 c2
            rw [hW] at d0 d1 d2
            rw [hW] at hb5
            have HOW := Lib.hid (own_later HO.out hb5)
            have HBW := Lib.hid (HB.out.trans (hb5.mono (bsz HB.out HL)))
            have HW := Lib.hid hW; have HP := Lib.hid hP
            clear hb5 hb3 hW hP
            rw [HP.out]
            go_upto_region 18 with fail
            rw [HW.out]
            clear c0 c1 c2 z1 z2
            go_wp2_with (at_builtin; refine wpList_append_own _ rfl (.tmp 80) (.tmp 82) 44 rfl L 52 i0 (.agg #[.string ByteArray.empty, .string ByteArray.empty, .bool false]) 3 40 Tryz.underlying44 hi0 hz0 hz1 hz2 rfl (by decide) _ _ _ rfl (HOW.out.alloc _) ⟨W.heap.size, 0, none⟩ 1 1 [.string ⟨nm.toArray⟩, .string ⟨vl.toArray⟩, .bool true] rfl rfl (cells_new _ _ _) (by simp [Value.oneCell']) hbd.1 hbd.2 ?dd ?_)
            case dd => simp; exact Nat.le_trans (bsz HBW.out HL) (Nat.le_succ _)
            intro v1 w7 hI1 hg7 _
            have hb8 := (HBW.out.alloc (bsz HBW.out HL) _).grown hg7 (by simp; exact Nat.le_trans (bsz HBW.out HL) (Nat.le_succ _)) (fun j hj => (HOW.out.lt j hj).1)
            have HI1 := Lib.hid hI1; have HB8 := Lib.hid hb8
            clear hI1 hb8 hg7 d0 d1 d2
            go_wp2
            go_roundw
            case rel =>
              exact ⟨e4, done ++ [(nm, vl, true)], rfl, HST.out, by rw [List.length_append, parsV_snoc]; exact HI1.out, HB8.out⟩
            case measure => simp [intOf]; omega

        · have hst : ParR s.data.toList e2 (done ++ [(nm, [], false)]) := by
            obtain ⟨k, hk, hke⟩ := step_bare _ e a e1 b p n e2 HA.out HF.out.1 HF.out.2.1 HF.out.2.2.1 HF.out.2.2.2.1 HF.out.2.2.2.2 HE.out.2.2 HE.out.1 (by
              intro hc2
              obtain ⟨hl, hx⟩ := List.getElem?_eq_some_iff.1 hc2
              exact h61 ⟨by rw [size_list] at hl; exact hl, hx⟩)
            have := HR.out.step hk
            rw [hke, HE.out.2.1] at this
            exact this
          have HST := Lib.hid hst; clear hst
          have hcase : e2 = s.size ∨ ∃ (hlt : e2 < s.size) (c : UInt8), s[e2]'hlt = c ∧ c ≠ 61 := by
            by_cases hlt2 : e2 < s.size
            · exact Or.inr ⟨hlt2, _, rfl, fun e => h61 ⟨hlt2, e⟩⟩
            · exact Or.inl (by omega)
          clear h61
          obtain ⟨P, hP⟩ : ∃ P, wr.heap.size = P := ⟨_, rfl⟩
          obtain ⟨W, hW⟩ : ∃ W, wr.alloc (.cells #[.string ⟨nm.toArray⟩, .string ⟨#[]⟩, .bool false] 52) = W := ⟨_, rfl⟩
          have d0 : W.cell? ⟨P, 0, none⟩ = some (.string ⟨nm.toArray⟩) := by rw [← hW, ← hP, Lib.cell_of_heap (heap_alloc_new wr _)]; rfl
          have d1 : W.cell? ⟨P, 1, none⟩ = some (.string ⟨#[]⟩) := by rw [← hW, ← hP, Lib.cell_of_heap (heap_alloc_new wr _)]; rfl
          have d2 : W.cell? ⟨P, 2, none⟩ = some (.bool false) := by rw [← hW, ← hP, Lib.cell_of_heap (heap_alloc_new wr _)]; rfl
          have HOW := Lib.hid (hW ▸ HO.out.alloc (.cells #[.string ⟨nm.toArray⟩, .string ⟨#[]⟩, .bool false] 52))
          have HBW : Hid (Below L w W) := Lib.hid (hW ▸ HB.out.alloc (bsz HB.out HL) _)
          have HW := Lib.hid hW; have HP := Lib.hid hP
          clear hW hP
          rcases hcase with hE | ⟨hlt2, c2, hc2, hne2⟩
          · have q1 : ¬ (e2 : Int) < (s.size : Int) := by omega
            have hd : decide ((e2 : Int) < (s.size : Int)) = false := decide_eq_false q1
            clear hE
            go_wp2_with fail
            refine (R1.out).mono ?_
            rintro e' wr ⟨rfl, rfl⟩
            go_wp2_with fail
            refine (R2.out).mono ?_
            rintro e' wr ⟨rfl, rfl⟩
            go_wp2_with fail
            refine (R3.out).mono ?_
            rintro e' wr ⟨rfl, rfl⟩
            go_upto_region 18 with fail
            rw [HP.out, HW.out]
            go_wp2_with (at_builtin; refine wpList_append_own _ rfl (.tmp 80) (.tmp 82) 44 rfl L 52 i0 (.agg #[.string ByteArray.empty, .string ByteArray.empty, .bool false]) 3 40 Tryz.underlying44 hi0 hz0 hz1 hz2 rfl (by decide) _ _ _ rfl (HOW.out.alloc _) ⟨W.heap.size, 0, none⟩ 1 1 [.string ⟨nm.toArray⟩, .string ⟨([] : List UInt8).toArray⟩, .bool false] rfl rfl (cells_new _ _ _) (by simp [Value.oneCell']) hbd.1 hbd.2 ?dd ?_)
            case dd => simp; exact Nat.le_trans (bsz HBW.out HL) (Nat.le_succ _)
            intro v1 w7 hI1 hg7 _
            have hb8 := (HBW.out.alloc (bsz HBW.out HL) _).grown hg7 (by simp; exact Nat.le_trans (bsz HBW.out HL) (Nat.le_succ _)) (fun j hj => (HOW.out.lt j hj).1)
            have HI1 := Lib.hid hI1; have HB8 := Lib.hid hb8
            clear hI1 hb8 hg7 d0 d1 d2
            go_wp2
            go_roundw
            case rel =>
              exact ⟨e2, done ++ [(nm, ([] : List UInt8), false)], rfl, HST.out, by rw [List.length_append, parsV_snoc]; exact HI1.out, HB8.out⟩
            case measure => simp [intOf]; omega

          · have q0 : (0 : Int) ≤ (e2 : Int) := Int.natCast_nonneg _
            have q1 : (e2 : Int) < (s.size : Int) := by omega
            obtain ⟨b1, b2⟩ := ne_u8o c2 61 (by decide) hne2
            go_wp2_with fail
            refine (R1.out).mono ?_
            rintro e' wr ⟨rfl, rfl⟩
            go_wp2_with fail
            refine (R2.out).mono ?_
            rintro e' wr ⟨rfl, rfl⟩
            go_wp2_with fail
            refine (R3.out).mono ?_
            rintro e' wr ⟨rfl, rfl⟩
            go_upto_region 18 with fail
            rw [HP.out, HW.out]
            go_wp2_with (at_builtin; refine wpList_append_own _ rfl (.tmp 80) (.tmp 82) 44 rfl L 52 i0 (.agg #[.string ByteArray.empty, .string ByteArray.empty, .bool false]) 3 40 Tryz.underlying44 hi0 hz0 hz1 hz2 rfl (by decide) _ _ _ rfl (HOW.out.alloc _) ⟨W.heap.size, 0, none⟩ 1 1 [.string ⟨nm.toArray⟩, .string ⟨([] : List UInt8).toArray⟩, .bool false] rfl rfl (cells_new _ _ _) (by simp [Value.oneCell']) hbd.1 hbd.2 ?dd ?_)
            case dd => simp; exact Nat.le_trans (bsz HBW.out HL) (Nat.le_succ _)
            intro v1 w7 hI1 hg7 _
            have hb8 := (HBW.out.alloc (bsz HBW.out HL) _).grown hg7 (by simp; exact Nat.le_trans (bsz HBW.out HL) (Nat.le_succ _)) (fun j hj => (HOW.out.lt j hj).1)
            have HI1 := Lib.hid hI1; have HB8 := Lib.hid hb8
            clear hI1 hb8 hg7 d0 d1 d2
            go_wp2
            go_roundw
            case rel =>
              exact ⟨e2, done ++ [(nm, ([] : List UInt8), false)], rfl, HST.out, by rw [List.length_append, parsV_snoc]; exact HI1.out, HB8.out⟩
            case measure => simp [intOf]; omega
    · have hst : parStep (s.data.toList.drop e) = none := step_none _ e a HA.out (by
        intro hc
        obtain ⟨hl, hx⟩ := List.getElem?_eq_some_iff.1 hc
        exact h59 ⟨by rw [size_list] at hl; exact hl, hx⟩)
      have HD := Lib.hid (HR.out.stop hst)
      clear hst
      by_cases hlt : a < s.size
      · obtain ⟨c, hc⟩ : ∃ c, s[a]'hlt = c := ⟨_, rfl⟩
        have hne : c ≠ 59 := fun e => h59 ⟨hlt, by rw [hc]; exact e⟩
        obtain ⟨b1, b2⟩ := ne_u8o c 59 (by decide) hne
        have k0 : (0 : Int) ≤ (a : Int) := Int.natCast_nonneg _
        have k1 : (a : Int) < (s.size : Int) := by omega
        have k2 : ((a : Int) == (s.size : Int)) = false := by simp; omega
        clear h59 hne
        go_wp2_with fail
        refine (R1.out).mono ?_
        rintro e' wr ⟨rfl, rfl⟩
        go_wp2
        go_ret3
        unfold ParamsPost
        rw [HD.out, HL.out]
        exact ⟨_, rfl, HO.out, HB.out⟩
      · obtain rfl : a = s.size := by omega
        have k2 : ((s.size : Int) == (s.size : Int)) = true := by simp
        clear h59
        go_wp2_with fail
        refine (R1.out).mono ?_
        rintro e' wr ⟨rfl, rfl⟩
        go_wp2
        go_ret3
        unfold ParamsPost
        rw [HD.out, HL.out]
        exact ⟨_, rfl, HO.out, HB.out⟩
end Go.Proofs.YtlfdeenekjklgaaGreatDoor
