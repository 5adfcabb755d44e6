/- Mrk2, RStd, Given, EachH: texts of the seat, one behind the other (a claim holds at most sixty). Conditions: each theorem names its own. -/
import Derived.Test.YtlfdeenekjklgaaGreatDoorPk06
import Derived.Test.YtlfdeenekjklgaaGreatDoorPk16
import Derived.Test.YtlfdeenekjklgaaGreatDoorPk10
import Derived.OrdersHeld
namespace Go.Proofs.YtlfdeenekjklgaaGreatDoor
open Go.RowKit
set_option linter.unusedSimpArgs false
set_option linter.unusedVariables false
set_option maxRecDepth 1000000
theorem mkL_at (i : Nat) (h : i < (⟨#[39, 40, 41, 43, 95, 44, 45, 46, 47, 58, 61, 63]⟩ : ByteArray).size) : mkL[i]? = some ((⟨#[39, 40, 41, 43, 95, 44, 45, 46, 47, 58, 61, 63]⟩ : ByteArray)[i]'h) := by
  have := list_get ⟨#[39, 40, 41, 43, 95, 44, 45, 46, 47, 58, 61, 63]⟩ i h
  exact this
theorem drewN_drewN (w : World) (a b : Nat) : (w.drewN a).drewN b = w.drewN (a + b) := by
  induction b with
  | zero => rfl
  | succ b ih => show ((w.drewN a).drewN b).drew = (w.drewN (a + b)).drew; rw [ih]
theorem contains_take (l : List UInt8) (k : Nat) (c d : UInt8) (h : l[k]? = some d) : (l.take (k + 1)).contains c = ((l.take k).contains c || c == d) := by
  rw [List.take_add_one, h, Option.toList_some]
  simp
  rfl
def Oks (c : UInt8) (k : Nat) (b : Bool) : Prop := (mkL.take k).contains c = b
theorem bdr_known (c : UInt8) (n : Nat) (h : c.toNat = n) (h1 : ltN n = true ∨ dgN n = true) : bdr c = true := by
  subst h
  unfold bdr
  rcases h1 with h | h
  · rw [h]; simp
  · rw [h]; simp
theorem bdr_list (c : UInt8) (n : Nat) (h : c.toNat = n) (h1 : ltN n = false) (h2 : dgN n = false) : bdr c = mkL.contains c := by
  subst h
  unfold bdr
  rw [h1, h2]; rfl
set_option maxHeartbeats 2000000 in
theorem ismark_any (s : ByteArray) (w : World) (hs : s.size ≤ 1099511627776) : Calls Tryz.prog 27 #[.string s] w fun e w' => e = .returned (.bool (isMrk s.data.toList)) ∧ Below w.heap.size w w' := by
  go_enter Tryz.func27, Tryz.ntmps27
  go_wp2
  go_loopw [3] (fun iv wr => ∃ i d : Nat, iv = .int .i64 i ∧ i ≤ s.size ∧ (s.data.toList.take i).all bdr = true ∧ wr = w.drewN d) (fun iv _ => s.size - (intOf iv).toNat)
  case atStart => exact ⟨0, 0, rfl, Nat.zero_le _, rfl, rfl⟩
  case round =>
    obtain ⟨i, d, rfl, hi, hall, rfl⟩ := hrel
    by_cases hlt : i < s.size
    · obtain ⟨c, hc⟩ : ∃ c, s[i]'hlt = c := ⟨_, rfl⟩
      have hget := list_get s i hlt
      rw [hc] at hget
      have k0 : (0 : Int) ≤ (i : Int) := Int.natCast_nonneg _
      have k1 : (i : Int) < (s.size : Int) := by omega
      have hwi := w64o i (le_oo i s.size hi hs)
      have HA := Lib.hid (And.intro hall hget); have HW := Lib.hid hwi
      clear hall hget hwi
      obtain ⟨la, hla⟩ : ∃ b, ltN c.toNat = b := ⟨_, rfl⟩
      cases la with
      | true =>
        have hbd := bdr_known c c.toNat rfl (Or.inl hla)
        have HB := Lib.hid (And.intro hbd hla)
        clear hbd hla
        go_wp2_with fail
        refine (rletter_any c.toNat _).mono ?_
        rintro e wr ⟨rfl, hwr⟩
        rw [hwr, HB.out.2]
        clear hwr
        go_wp2
        go_loopw [5, 4] (fun kv ov wq => ∃ k d2 : Nat, kv = .int .i64 k ∧ k ≤ 12 ∧ ov = .bool true ∧ wq = w.drewN d2) (fun kv _ _ => 12 - (intOf kv).toNat)
        case atStart => exact ⟨0, d, rfl, by omega, rfl, rfl⟩
        case round =>
          obtain ⟨k, d2, rfl, hk, rfl, rfl⟩ := hrel
          by_cases hkl : k < 12
          · have q0 : (0 : Int) ≤ (k : Int) := Int.natCast_nonneg _
            have q1 : (k : Int) < 12 := by omega
            obtain ⟨W5, hW5⟩ : ∃ W5, w.drewN d2 = W5 := ⟨_, rfl⟩
            rw [hW5]
            have HW5 := Lib.hid hW5
            clear hW5
            go_wp2_with fail
            refine wp_region_quiet_lit (by kernel_rfl) (by kernel_rfl) ?_
            repeat (any_goals (first | go_big_quiet_step (fail) | quiet_step (fail)))
            refine wpQuiet_nil ?_
            intro W6 hW6
            obtain ⟨nq, hq⟩ := hW6
            subst hq
            go_wp2
            go_roundw
            case rel => exact ⟨k + 1, d2 + nq, by go_num, by omega, rfl, by rw [← HW5.out, drewN_drewN]⟩
            case measure => simp [intOf]; omega
          · obtain rfl : k = 12 := by omega
            have hx := all_take bdr _ i c HA.out.2 HA.out.1 HB.out.1
            have HX := Lib.hid hx
            clear hx
            go_wp2
            have hwi := HW.out
            go_roundw
            case rel => (try rw [hwi]); clear hwi; exact ⟨i + 1, d2, by go_num, by omega, HX.out, rfl⟩
            case measure => (try rw [hwi]); clear hwi; simp [intOf]; omega
      | false =>
        obtain ⟨da, hda⟩ : ∃ b, dgN c.toNat = b := ⟨_, rfl⟩
        cases da with
        | true =>
          have hbd := bdr_known c c.toNat rfl (Or.inr hda)
          have HB := Lib.hid (And.intro hbd (And.intro hla hda))
          clear hbd hla hda
          go_wp2_with fail
          refine (rletter_any c.toNat _).mono ?_
          rintro e wr ⟨rfl, hwr⟩
          rw [hwr, HB.out.2.1]
          clear hwr wr
          go_wp2_with fail
          refine (rdigit_any c.toNat _).mono ?_
          rintro e wr ⟨rfl, hwr⟩
          rw [hwr, HB.out.2.2]
          clear hwr
          go_wp2
          go_loopw [5, 4] (fun kv ov wq => ∃ k d2 : Nat, kv = .int .i64 k ∧ k ≤ 12 ∧ ov = .bool true ∧ wq = w.drewN d2) (fun kv _ _ => 12 - (intOf kv).toNat)
          case atStart => exact ⟨0, d, rfl, by omega, rfl, rfl⟩
          case round =>
            obtain ⟨k, d2, rfl, hk, rfl, rfl⟩ := hrel
            by_cases hkl : k < 12
            · have q0 : (0 : Int) ≤ (k : Int) := Int.natCast_nonneg _
              have q1 : (k : Int) < 12 := by omega
              obtain ⟨W5, hW5⟩ : ∃ W5, w.drewN d2 = W5 := ⟨_, rfl⟩
              rw [hW5]
              have HW5 := Lib.hid hW5
              clear hW5
              go_wp2_with fail
              refine wp_region_quiet_lit (by kernel_rfl) (by kernel_rfl) ?_
              repeat (any_goals (first | go_big_quiet_step (fail) | quiet_step (fail)))
              refine wpQuiet_nil ?_
              intro W6 hW6
              obtain ⟨nq, hq⟩ := hW6
              subst hq
              go_wp2
              go_roundw
              case rel => exact ⟨k + 1, d2 + nq, by go_num, by omega, rfl, by rw [← HW5.out, drewN_drewN]⟩
              case measure => simp [intOf]; omega
            · obtain rfl : k = 12 := by omega
              have hx := all_take bdr _ i c HA.out.2 HA.out.1 HB.out.1
              have HX := Lib.hid hx
              clear hx
              go_wp2
              have hwi := HW.out
              go_roundw
              case rel => (try rw [hwi]); clear hwi; exact ⟨i + 1, d2, by go_num, by omega, HX.out, rfl⟩
              case measure => (try rw [hwi]); clear hwi; simp [intOf]; omega
        | false =>
          have hbd := bdr_list c c.toNat rfl hla hda
          have HB := Lib.hid (And.intro hbd (And.intro hla hda))
          clear hbd hla hda
          go_wp2_with fail
          refine (rletter_any c.toNat _).mono ?_
          rintro e wr ⟨rfl, hwr⟩
          rw [hwr, HB.out.2.1]
          clear hwr wr
          go_wp2_with fail
          refine (rdigit_any c.toNat _).mono ?_
          rintro e wr ⟨rfl, hwr⟩
          rw [hwr, HB.out.2.2]
          clear hwr
          go_wp2
          go_loopw [5, 4] (fun kv ov wq => ∃ (k d2 : Nat) (b : Bool), kv = .int .i64 k ∧ k ≤ 12 ∧ ov = .bool b ∧ Oks c k b ∧ wq = w.drewN d2) (fun kv _ _ => 12 - (intOf kv).toNat)
          case atStart => exact ⟨0, d, false, rfl, by omega, rfl, rfl, rfl⟩
          case round =>
            obtain ⟨k, d2, b, rfl, hk, rfl, hb, rfl⟩ := hrel
            by_cases hkl : k < 12
            · have q0 : (0 : Int) ≤ (k : Int) := Int.natCast_nonneg _
              have q1 : (k : Int) < 12 := by omega
              obtain ⟨W5, hW5⟩ : ∃ W5, w.drewN d2 = W5 := ⟨_, rfl⟩
              rw [hW5]
              have hctA : ∀ g, mkL[k]? = some g → Oks c (k + 1) (b || c == g) := fun g hg => by unfold Oks at hb ⊢; rw [contains_take mkL k c g hg, hb]
              have HW6 := Lib.hid (And.intro hW5 (And.intro hctA hb))
              clear hW5 hctA hb
              cases b with
              | true =>
                go_wp2_with fail
                refine wp_region_quiet_lit (by kernel_rfl) (by kernel_rfl) ?_
                repeat (any_goals (first | go_big_quiet_step (fail) | quiet_step (fail)))
                refine wpQuiet_nil ?_
                intro W6 hW6
                obtain ⟨nq, hq⟩ := hW6
                subst hq
                go_wp2
                go_roundw
                case rel => exact ⟨k + 1, d2 + nq, true, by go_num, by omega, rfl, HW6.out.2.1 _ (mkL_at k hkl), by rw [← HW6.out.1, drewN_drewN]⟩
                case measure => simp [intOf]; omega
              | false =>
                obtain ⟨g, hg⟩ : ∃ g, (⟨#[39, 40, 41, 43, 95, 44, 45, 46, 47, 58, 61, 63]⟩ : ByteArray)[k]'hkl = g := ⟨_, rfl⟩
                have hat := mkL_at k hkl
                rw [hg] at hat
                have HAT := Lib.hid hat
                clear hat
                by_cases hcg : c = g
                · subst hcg
                  have b1 : ((c.toNat : Int) == (c.toNat : Int)) = true := by simp
                  go_wp2_with fail
                  refine wp_region_quiet_lit (by kernel_rfl) (by kernel_rfl) ?_
                  repeat (any_goals (first | go_big_quiet_step (fail) | quiet_step (fail)))
                  refine wpQuiet_nil ?_
                  intro W6 hW6
                  obtain ⟨nq, hq⟩ := hW6
                  subst hq
                  go_wp2
                  go_roundw
                  case rel => exact ⟨k + 1, d2 + nq, true, by go_num, by omega, rfl, by have := HW6.out.2.1 _ HAT.out; simpa using this, by rw [← HW6.out.1, drewN_drewN]⟩
                  case measure => simp [intOf]; omega
                · have b1 : ((c.toNat : Int) == (g.toNat : Int)) = false := by
                    have : c.toNat ≠ g.toNat := fun e => hcg (UInt8.toNat_inj.1 e)
                    simp; omega
                  have b2 : (c == g) = false := beq_eq_false_iff_ne.2 hcg
                  have HB2 := Lib.hid b2
                  clear b2
                  go_wp2_with fail
                  refine wp_region_quiet_lit (by kernel_rfl) (by kernel_rfl) ?_
                  repeat (any_goals (first | go_big_quiet_step (fail) | quiet_step (fail)))
                  refine wpQuiet_nil ?_
                  intro W6 hW6
                  obtain ⟨nq, hq⟩ := hW6
                  subst hq
                  go_wp2
                  go_roundw
                  case rel => exact ⟨k + 1, d2 + nq, false, by go_num, by omega, rfl, by have := HW6.out.2.1 _ HAT.out; rw [HB2.out] at this; exact this, by rw [← HW6.out.1, drewN_drewN]⟩
                  case measure => simp [intOf]; omega
            · obtain rfl : k = 12 := by omega
              have hb : bdr c = b := by rw [HB.out.1]; exact hb
              cases b with
              | true =>
                have hx := all_take bdr _ i c HA.out.2 HA.out.1 hb
                have HX := Lib.hid hx
                clear hx hb
                go_wp2
                have hwi := HW.out
                go_roundw
                case rel => (try rw [hwi]); clear hwi; exact ⟨i + 1, d2, by go_num, by omega, HX.out, rfl⟩
                case measure => (try rw [hwi]); clear hwi; simp [intOf]; omega
              | false =>
                have hx := isMrk_bad _ i c HA.out.2 hb
                have bel := below_drewN (Below.refl w.heap.size w) d2
                have HX := Lib.hid (And.intro hx bel)
                clear hx hb bel
                go_wp2
                go_ret
                exact ⟨ret_boolO HX.out.1.symm, HX.out.2⟩
    · obtain rfl : i = s.size := by omega
      have hd : decide (s.size < s.size) = false := decide_eq_false (Nat.lt_irrefl _)
      have hx := isMrk_all s hall
      have bel := below_drewN (Below.refl w.heap.size w) d
      have HX := Lib.hid (And.intro hx bel)
      clear hx hall bel
      go_wp2
      all_goals
        go_ret
        refine ⟨ret_boolO ?_, HX.out.2⟩
        rw [HX.out.1, Bool.eq_iff_iff]
        simp only [Bool.and_eq_true, decide_eq_true_eq, true_iff, iff_true, Bool.false_eq_true, false_iff, iff_false]
        omega

/-- Stands in it. -/
theorem occ_yes (l p : List UInt8) (i : Nat) (hi : i ≤ l.length) (h : Lib.occAt l p i = true) : Lib.contains l p = true := by
  unfold Lib.contains
  rw [decide_eq_true_eq]
  rcases Lib.index_spec l p with ⟨_, hno⟩ | ⟨j, hj, _⟩
  · rw [hno i hi] at h; cases h
  · rw [hj]; omega
theorem occ_no (l p : List UInt8) (h : ∀ j, j + p.length ≤ l.length → Lib.occAt l p j = false) : Lib.contains l p = false := by
  unfold Lib.contains
  rw [decide_eq_false_iff_not]
  rcases Lib.index_spec l p with ⟨hno, _⟩ | ⟨j, hj, hjl, ho, _⟩
  · rw [hno]; omega
  · intro _
    have hp : p.isPrefixOf (l.drop j) = true := ho
    have hl := (List.isPrefixOf_iff_prefix.1 hp).length_le
    rw [List.length_drop] at hl
    rw [h j (by omega)] at ho
    cases ho
theorem st_bd (i s t j : Nat) (hi : i ≤ s + 1) (hs : s ≤ 1073741824) (ht : t ≤ 1073741824) (hj : i + t = j) : i ≤ 2199023255552 ∧ j ≤ 2199023255552 := by omega
theorem occ_ext (s t : ByteArray) (i j : Nat) (hj : i + t.size = j) (h : j ≤ s.size) : (s.extract i j = t) ↔ Lib.occAt s.data.toList t.data.toList i = true := by
  unfold Lib.occAt
  rw [List.isPrefixOf_iff_prefix, ext_mk, ← hj, Nat.add_sub_cancel_left, List.prefix_iff_eq_take]
  have ht : t.data.toList.length = t.size := size_list t
  rw [ht]
  constructor
  · intro e
    have := congrArg (fun b : ByteArray => b.data.toList) e
    exact this.symm
  · intro e; apply ba_ext; exact e.symm
set_option maxHeartbeats 1000000 in
theorem stands_any2 (s t : ByteArray) (w : World) (hs : s.size ≤ 1073741824) (ht : t.size ≤ 1073741824) : Calls Tryz.prog 12 #[.string s, .string t] w fun e w' => e = .returned (.bool (Lib.contains s.data.toList t.data.toList)) ∧ w' = w := by
  go_enter Tryz.func12, Tryz.ntmps12
  go_wp2
  go_loopw [5] (fun iv wr => ∃ i : Nat, iv = .int .i64 i ∧ i ≤ s.size + 1 ∧ (∀ j, j < i → Lib.occAt s.data.toList t.data.toList j = false) ∧ wr = w) (fun iv _ => s.size + 1 - (intOf iv).toNat)
  case atStart => exact ⟨0, rfl, by omega, fun j hj => by omega, rfl⟩
  case round =>
    obtain ⟨i, rfl, hi, hno, rfl⟩ := hrel
    obtain ⟨j, hj⟩ : ∃ j, i + t.size = j := ⟨_, rfl⟩
    have f1 : (i : Int) + (t.size : Int) = (j : Int) := by omega
    have hwi := w64o i (st_bd i s.size t.size j hi hs ht hj).1
    have hwj := w64j j (st_bd i s.size t.size j hi hs ht hj).2
    have HNO := Lib.hid hno; have HW := Lib.hid hwi
    clear hno hwi
    by_cases hle : j ≤ s.size
    · have k1 : (j : Int) ≤ (s.size : Int) := by omega
      have k0 : (0 : Int) ≤ (i : Int) := Int.natCast_nonneg _
      have k2 : (i : Int) ≤ (j : Int) := by omega
      have hoc := occ_ext s t i j hj hle
      have his : i ≤ s.size := by omega
      obtain ⟨u, hu⟩ : ∃ u, s.extract i j = u := ⟨_, rfl⟩
      rw [hu] at hoc
      by_cases heq : u = t
      · subst heq
        have hx := occ_yes _ _ i (by rw [size_list]; exact his) (hoc.1 rfl)
        have HX := Lib.hid hx
        clear hoc hx hj
        go_wp2
        go_ret
        exact ⟨ret_boolO HX.out.symm, rfl⟩
      · have hof : Lib.occAt s.data.toList t.data.toList i = false := by
          cases ho : Lib.occAt s.data.toList t.data.toList i with
          | false => rfl
          | true => exact absurd (hoc.2 ho) heq
        have b1 : (u.toList == t.toList) = false := by
          rw [beq_eq_false_iff_ne]; intro e; apply heq; apply ba_ext; rw [ByteArray.toList_eq, ByteArray.toList_eq] at e; exact e
        have hx : ∀ j, j < i + 1 → Lib.occAt s.data.toList t.data.toList j = false := fun k hk => by
          by_cases hki : k < i
          · exact HNO.out k hki
          · obtain rfl : k = i := by omega
            exact hof
        have HX := Lib.hid hx
        clear hoc hof hx hj
        go_wp2
        have hwi := HW.out
        go_roundw
        case rel => (try rw [hwi]); clear hwi; exact ⟨i + 1, by go_num, by omega, HX.out, by first | rfl | trivial⟩
        case measure => (try rw [hwi]); clear hwi; simp [intOf]; omega
    · have k1 : ¬ (j : Int) ≤ (s.size : Int) := by omega
      have hx := occ_no s.data.toList t.data.toList (fun k hk => HNO.out k (by rw [size_list, size_list] at hk; omega))
      have HX := Lib.hid hx
      clear hx hj
      go_wp2
      go_ret
      exact ⟨ret_boolO HX.out.symm, rfl⟩
end Go.Proofs.YtlfdeenekjklgaaGreatDoor
namespace Go.Proofs.YtlfdeenekjklgaaGreatDoor
open Go.RowKit
set_option linter.unusedSimpArgs false
set_option linter.unusedVariables false
set_option maxRecDepth 1000000
theorem dash_l (b : List UInt8) : (⟨#[45, 45]⟩ : ByteArray) ++ (⟨b.toArray⟩ : ByteArray) = ⟨(45 :: 45 :: b).toArray⟩ := by
  refine ba_ext ?_
  simp
theorem rcont_l (a b : List UInt8) (w : World) (hs : a.length ≤ 1073741824) (hb : b.length ≤ 1048576) :
    Calls Tryz.prog 12 #[.string ⟨a.toArray⟩, .string ((⟨#[45, 45]⟩ : ByteArray) ++ (⟨b.toArray⟩ : ByteArray))] w fun e w' => e = .returned (.bool (Lib.contains a (45 :: 45 :: b))) ∧ w' = w := by
  rw [dash_l]
  exact stands_any2 ⟨a.toArray⟩ ⟨(45 :: 45 :: b).toArray⟩ w (by rw [size_q]; exact hs) (by rw [size_q, List.length_cons, List.length_cons]; omega)
theorem dash_bd (n : Nat) (h : n ≤ 1048576) : ¬ 9223372036854775807 < 2 + n ∧ ¬ 9223372036854775807 < n + 2 := by omega
set_option maxHeartbeats 2000000 in
theorem rstood_any (v : Value) (l : List Prt) (t : List UInt8) (w : World) (hT : totQ l ≤ 1073741824) (hN : l.length ≤ 4294967296) (htl : t.length ≤ 1048576) (h : PrtsIn w v l) :
    Calls Tryz.prog 53 #[v, .string ⟨t.toArray⟩] w fun e w' => e = .returned (.bool (stood l (45 :: 45 :: t))) ∧ Below w.heap.size w w' := by
  obtain ⟨ao, cap, rfl, hat⟩ := h
  obtain ⟨L, hL⟩ : ∃ L, w.heap.size = L := ⟨_, rfl⟩
  have hbb : Below L w w := by rw [← hL]; exact Below.refl _ w
  have hdb := dash_bd _ htl
  have HL := Lib.hid hL; clear hL
  have HATW := Lib.hid hat; clear hat
  go_enter Tryz.func53, Tryz.ntmps53
  go_wp2
  go_loopw [5] (fun iv wr => ∃ i : Nat, iv = .int .i64 i ∧ i ≤ l.length ∧ (∀ j p, j < i → l[j]? = some p → std (45 :: 45 :: t) p = false) ∧ Below L w wr) (fun iv _ => l.length - (intOf iv).toNat)
  case atStart => exact ⟨0, rfl, Nat.zero_le _, fun j p hj => by omega, hbb⟩
  case round =>
    clear hbb
    obtain ⟨i, rfl, hi, hno, hb⟩ := hrel
    by_cases hlt : i < l.length
    · obtain ⟨p, hp⟩ : ∃ p, l[i]? = some p := ⟨_, List.getElem?_eq_getElem hlt⟩
      have hb' : Below w.heap.size w wr := by rw [HL.out]; exact hb
      obtain ⟨g, o, rfl, c0, c1, c2, c3, c4, hg⟩ := HATW.out.below hb' i p hp
      have hbd := prt_bd p _ (totQ_get l i p hp) hT
      have k0 : (0 : Int) ≤ (i : Int) := Int.natCast_nonneg _
      have k1 : (i : Int) < (l.length : Int) := by omega
      have hwi := w64p i (Nat.le_trans hi (Nat.le_trans hN (by decide)))
      have hb2 : Below L w (wr.alloc (.cells #[.string ⟨p.name.toArray⟩, .string ⟨p.file.toArray⟩, .string ⟨p.media.toArray⟩, .string ⟨p.body.toArray⟩, .bool p.has] 77)) := hb.alloc (bsz hb HL) _
      obtain ⟨b0, hb0⟩ : ∃ b, Lib.contains p.body (45 :: 45 :: t) = b := ⟨_, rfl⟩
      obtain ⟨b1, hb1⟩ : ∃ b, Lib.contains p.name (45 :: 45 :: t) = b := ⟨_, rfl⟩
      obtain ⟨b2, hb2'⟩ : ∃ b, Lib.contains p.file (45 :: 45 :: t) = b := ⟨_, rfl⟩
      obtain ⟨b3, hb3⟩ : ∃ b, Lib.contains p.media (45 :: 45 :: t) = b := ⟨_, rfl⟩
      have hstd : std (45 :: 45 :: t) p = (b0 || (b1 || (b2 || b3))) := by unfold std; rw [hb0, hb1, hb2', hb3]
      have r0 := fun W => rcont_l p.body t W hbd.1 htl
      have r1 := fun W => rcont_l p.name t W hbd.2.1 htl
      have r2 := fun W => rcont_l p.file t W hbd.2.2.1 htl
      have r3 := fun W => rcont_l p.media t W hbd.2.2.2 htl
      rw [hb0] at r0
      rw [hb1] at r1
      rw [hb2'] at r2
      rw [hb3] at r3
      have HS := Lib.hid (And.intro hstd (And.intro hp (And.intro hno hb2))); have HW := Lib.hid hwi
      have R0 := Lib.hid r0; have R1 := Lib.hid r1; have R2 := Lib.hid r2; have R3 := Lib.hid r3
      clear hstd hp hno hb2 hb hb' hwi r0 r1 r2 r3 hb0 hb1 hb2' hb3
      go_wp2_with fail
      refine (R0.out _).mono ?_
      rintro e W ⟨rfl, hW⟩
      rw [hW]
      clear hW W
      cases b0 with
      | true =>
        have hy := stood_yes l (45 :: 45 :: t) i p HS.out.2.1 (by rw [HS.out.1]; simp)
        have HY := Lib.hid hy
        clear hy
        go_wp2
        go_ret
        rw [HY.out, HL.out]
        exact ⟨rfl, HS.out.2.2.2⟩
      | false =>
        go_wp2_with fail
        refine (R1.out _).mono ?_
        rintro e W ⟨rfl, hW⟩
        rw [hW]
        clear hW W
        cases b1 with
        | true =>
          have hy := stood_yes l (45 :: 45 :: t) i p HS.out.2.1 (by rw [HS.out.1]; simp)
          have HY := Lib.hid hy
          clear hy
          go_wp2
          go_ret
          rw [HY.out, HL.out]
          exact ⟨rfl, HS.out.2.2.2⟩
        | false =>
          go_wp2_with fail
          refine (R2.out _).mono ?_
          rintro e W ⟨rfl, hW⟩
          rw [hW]
          clear hW W
          cases b2 with
          | true =>
            have hy := stood_yes l (45 :: 45 :: t) i p HS.out.2.1 (by rw [HS.out.1]; simp)
            have HY := Lib.hid hy
            clear hy
            go_wp2
            go_ret
            rw [HY.out, HL.out]
            exact ⟨rfl, HS.out.2.2.2⟩
          | false =>
            go_wp2_with fail
            refine (R3.out _).mono ?_
            rintro e W ⟨rfl, hW⟩
            rw [hW]
            clear hW W
            cases b3 with
            | true =>
              have hy := stood_yes l (45 :: 45 :: t) i p HS.out.2.1 (by rw [HS.out.1]; simp)
              have HY := Lib.hid hy
              clear hy
              go_wp2
              go_ret
              rw [HY.out, HL.out]
              exact ⟨rfl, HS.out.2.2.2⟩
            | false =>
              have hn2 : ∀ j p, j < i + 1 → l[j]? = some p → std (45 :: 45 :: t) p = false := fun j q hj hq => by
                by_cases hji : j < i
                · exact HS.out.2.2.1 j q hji hq
                · obtain rfl : j = i := by omega
                  rw [HS.out.2.1] at hq; injection hq with hq; subst hq
                  rw [HS.out.1]; rfl
              have HN2 := Lib.hid hn2
              clear hn2
              go_wp2
              have hwi := HW.out
              go_roundw
              case rel => (try rw [hwi]); clear hwi; exact ⟨i + 1, by go_num, hlt, HN2.out, HS.out.2.2.2⟩
              case measure => (try rw [hwi]); clear hwi; simp [intOf]; omega
    · have hd : decide (i < l.length) = false := decide_eq_false hlt
      have hf := stood_no l (45 :: 45 :: t) (fun j p hj hp => hno j p (by omega) hp)
      have HF := Lib.hid (And.intro hf hb)
      clear hf hno hb
      go_wp2
      go_ret
      rw [HF.out.1, HL.out]
      exact ⟨rfl, HF.out.2⟩
end Go.Proofs.YtlfdeenekjklgaaGreatDoor
namespace Go.Proofs.YtlfdeenekjklgaaGreatDoor
open Go.RowKit
set_option linter.unusedSimpArgs false
set_option linter.unusedVariables false
set_option maxRecDepth 1000000
theorem infoRPart : (Tryz.prog.info? 77).map (fun i => (i.zero, i.size, i.bytes)) = some (some (.agg #[.string ByteArray.empty, .string ByteArray.empty, .string ByteArray.empty, .string ByteArray.empty, .bool false]), 5, 72) := by kernel_rfl
theorem info_partsQ (h : (Tryz.prog.info? 77).map (fun i => (i.zero, i.size, i.bytes)) = some (some (.agg #[.string ByteArray.empty, .string ByteArray.empty, .string ByteArray.empty, .string ByteArray.empty, .bool false]), 5, 72)) : ∃ i, Tryz.prog.info? 77 = some i ∧ i.zero = some (.agg #[.string ByteArray.empty, .string ByteArray.empty, .string ByteArray.empty, .string ByteArray.empty, .bool false]) ∧ i.size = 5 ∧ i.bytes = 72 := by
  obtain ⟨i, hi, he⟩ := Option.map_eq_some_iff.1 h
  simp only [Prod.mk.injEq] at he
  exact ⟨i, hi, he.1, he.2.1, he.2.2⟩
theorem bd_q (i n : Nat) (h : i < n) (hn : n ≤ 1073741824) : i + 1 ≤ maxLen ∧ (i + 1) * 72 ≤ 140737488355328 ∧ i ≤ 2199023255552 := by unfold maxLen; omega
theorem prtsV_take (l : List Prt) (i : Nat) (p : Prt) (h : l[i]? = some p) : prtsV (l.take (i + 1)) = prtsV (l.take i) ++ [.string ⟨p.name.toArray⟩, .string ⟨p.file.toArray⟩, .string ⟨p.media.toArray⟩, .string ⟨p.body.toArray⟩, .bool p.has] := by
  rw [List.take_add_one, h, Option.toList_some, prtsV_snoc]; rfl
set_option maxHeartbeats 4000000 in
theorem given_any (v : Value) (l : List Prt) (w : World) (hN : l.length ≤ 1073741824) (h : PrtsIn w v l) :
    Calls Tryz.prog 19 #[v] w fun e w' => ∃ v', e = .returned v' ∧ w'.ownsRow w.heap.size 77 5 v' l.length (prtsV l) ∧ Below w.heap.size w w' := by
  obtain ⟨ao, cap, rfl, hat⟩ := h
  obtain ⟨i0, hi0, hz0, hz1, hz2⟩ := info_partsQ infoRPart
  obtain ⟨L, hL⟩ : ∃ L, w.heap.size = L := ⟨_, rfl⟩
  have hbb : Below L w (w.alloc (.cells #[] 77)) := by rw [← hL]; exact (Below.refl _ w).alloc (Nat.le_refl _) _
  have hrm : (w.alloc (.cells #[] 77)).ownsRow L 77 5 (.slice (some ⟨w.heap.size, 0, none⟩) 0 0) 0 [] := by rw [← hL]; exact World.ownsRow_made w #[] 0 (Nat.le_refl _) (by simp) rfl
  have HL := Lib.hid hL; clear hL
  have HATW := Lib.hid hat; clear hat
  go_enter Tryz.func19, Tryz.ntmps19
  go_wp2
  go_loopw [4, 3] (fun iv v wr => ∃ i : Nat, iv = .int .i64 i ∧ i ≤ l.length ∧ wr.ownsRow L 77 5 v i (prtsV (l.take i)) ∧ Below L w wr)
    (fun iv _ _ => l.length - (intOf iv).toNat)
  case atStart => exact ⟨0, rfl, Nat.zero_le _, hrm, hbb⟩
  case round =>
    clear hbb hrm
    obtain ⟨i, rfl, hi, hown, hb⟩ := hrel
    by_cases hlt : i < l.length
    · obtain ⟨p, hp⟩ : ∃ p, l[i]? = some p := ⟨_, List.getElem?_eq_getElem hlt⟩
      have hb' : Below w.heap.size w wr := by rw [HL.out]; exact hb
      obtain ⟨g, o, rfl, hC⟩ := HATW.out.below hb' i p hp
      have hgL : g < L := by
        obtain ⟨g', o', e, hg'⟩ := HATW.out i p hp
        injection e with e; injection e with e1 e2; subst e1; rw [← HL.out]; exact hg'.2.2.2.2.2
      have hS : Cells5 g (o + i * 5) p wr.drew := hC
      have k0 : (0 : Int) ≤ (i : Int) := Int.natCast_nonneg _
      have k1 : (i : Int) < (l.length : Int) := by omega
      have hbd := bd_q i l.length hlt hN
      have hwi := w64p i hbd.2.2
      have hsn := prtsV_take l i p hp
      have HS := Lib.hid hS; have HO := Lib.hid hown; have HB := Lib.hid hb; have HW := Lib.hid hwi; have HSN := Lib.hid hsn; have HP := Lib.hid hp
      clear hS hown hb hb' hwi hsn hp hC
      have hbL := bsz HB.out HL
      go_wp2
      refine wp_region_textH (Cells5 g (o + i * 5) p) [(0, true), (1, true), (2, true), (3, true), (4, true), (5, true), (6, true), (7, true), (8, true), (9, true), (10, true), (11, true), (12, true), (13, true), (14, true), (15, true), (16, true), (17, true), (18, true), (19, true), (20, true), (21, true), (22, true), (23, true), (24, true), (25, true), (26, true), (27, false), (28, false), (29, true)] (by kernel_rfl) (by kernel_rfl) (by kernel_rfl) (by kernel_rfl) HS.out ?_
      repeat (refine wpTxH_take rfl (by rfl) (v := ?_) ?_ ?_; rotate_left; · (intro w hS; obtain ⟨s0, s1, s2, s3, s4, _⟩ := hS; go_simp; with_reducible rfl))
      refine wpTxH_step rfl (fun K hK => ?_)
      go_simp
      refine hK _ _ ?_ ?_
      · exact keep5 HS.out _
      · clear hK K
        refine wpTxH_step rfl (fun K hK => ?_)
        refine step_append_own rfl (.tmp 12) (.tmp 39) 26 rfl L 77 i0 (.agg #[.string ByteArray.empty, .string ByteArray.empty, .string ByteArray.empty, .string ByteArray.empty, .bool false]) 5 72 Tryz.underlying26 hi0 hz0 hz1 hz2 rfl (by decide) _ _ _ rfl ((HO.out.alloc _).drew) ⟨wr.heap.size, 0, none⟩ 1 1 [.string ⟨p.name.toArray⟩, .string ⟨p.file.toArray⟩, .string ⟨p.media.toArray⟩, .string ⟨p.body.toArray⟩, .bool p.has] rfl rfl (cells_new wr 77 _) (by simp [Value.oneCell']) hbd.1 hbd.2.1 (by simp; exact Nat.le_trans hbL (Nat.le_succ _)) ?_
        intro v1 w1 hI1 hg1
        refine hK _ _ ?_ ?_
        · exact (keep5 HS.out _).grown hg1 (fun e => absurd (HO.out.lt g e.symm).1 (Nat.not_le.2 hgL))
        · clear hK K
          have hb1 : Below L w w1 := ((HB.out.alloc hbL _).drew).grown hg1 (by simp; exact Nat.le_trans hbL (Nat.le_succ _)) (fun k hk => (HO.out.lt k hk).1)
          have HI1 := Lib.hid hI1; have HB1 := Lib.hid hb1
          clear hI1 hb1 hg1
          refine wpTxH_take rfl (by rfl) (v := ?_) ?_ ?_
          rotate_left
          · intro w hS; clear hS; go_simp; with_reducible rfl
          refine wpTxH_nil ?_
          go_simp
          go_wp2
          have hwi := HW.out
          go_roundw
          case rel =>
            (try rw [hwi]); clear hwi
            refine ⟨i + 1, by go_num, by omega, ?_, HB1.out⟩
            rw [HSN.out]
            exact HI1.out
          case measure => (try rw [hwi]); clear hwi; simp [intOf]; omega
    · obtain rfl : i = l.length := by omega
      have hd : decide (l.length < l.length) = false := decide_eq_false (Nat.lt_irrefl _)
      rw [List.take_length] at hown
      have HO := Lib.hid hown; have HB := Lib.hid hb
      clear hown hb
      go_wp2
      go_ret
      rw [HL.out]
      exact ⟨_, rfl, HO.out, HB.out⟩
theorem prtAt_drew {w : World} {ao : Option Addr} {l : List Prt} (h : PrtAt w ao l) (n : Nat) : PrtAt (w.drewN n) ao l := h.below (below_drewN (Below.refl _ w) n)
set_option maxHeartbeats 4000000 in
theorem lawprts_any (v1 v2 : Value) (l : List Prt) (w : World) (hl : l.length ≤ 2199023255552) (h1 : PrtsIn w v1 l) (h2 : PrtsIn w v2 l) :
    Calls Tryz.prog 11 #[v1, v2] w fun e w' => e = .returned (.bool true) ∧ Below w.heap.size w w' := by
  obtain ⟨a1, cap1, rfl, h1⟩ := h1
  obtain ⟨a2, cap2, rfl, h2⟩ := h2
  go_enter Tryz.func11, Tryz.ntmps11
  go_wp2
  go_loopw [5] (fun iv wr => ∃ i k : Nat, iv = .int .i64 i ∧ i ≤ l.length ∧ wr = w.drewN k) (fun i _ => l.length - (intOf i).toNat)
  case atStart => exact ⟨0, 0, rfl, Nat.zero_le _, rfl⟩
  case round =>
    obtain ⟨i, k, rfl, hi, rfl⟩ := hrel
    by_cases hlt : i < l.length
    · obtain ⟨p, hp⟩ : ∃ p, l[i]? = some p := ⟨_, List.getElem?_eq_getElem hlt⟩
      obtain ⟨g1, o1, rfl, a0, a1, a2, a3, a4, _⟩ := prtAt_drew h1 k i p hp
      obtain ⟨g2, o2, rfl, b0, b1, b2, b3, b4, _⟩ := prtAt_drew h2 k i p hp
      obtain ⟨W2, hW2⟩ : ∃ W2, w.drewN k = W2 := ⟨_, rfl⟩
      rw [hW2] at a0 a1 a2 a3 a4 b0 b1 b2 b3 b4
      rw [hW2]
      have HW := Lib.hid hW2
      clear hW2 h1 h2
      have k0 : (0 : Int) ≤ (i : Int) := by omega
      have k1 : (i : Int) < (l.length : Int) := by omega
      have hwi := w64p i (Nat.le_trans hi hl)
      go_wp2_with fail
      refine wp_region_still_lit (by kernel_rfl) (by kernel_rfl) ?_
      repeat still_step
      refine wpStill_nil ?_
      go_wp2
      go_roundw
      case rel =>
        try rw [hwi]
        clear hwi
        exact ⟨i + 1, k + 1, by go_num, by omega, by rw [← HW.out]; rfl⟩
      case measure => (try rw [hwi]); clear hwi; simp [intOf]; omega
    · have hd : decide (i < l.length) = false := decide_eq_false hlt
      have bel := below_drewN (Below.refl w.heap.size w) k
      go_wp2
      go_ret
      exact ⟨rfl, bel⟩
end Go.Proofs.YtlfdeenekjklgaaGreatDoor
namespace Go.Proofs.YtlfdeenekjklgaaGreatDoor
open Go.RowKit
set_option linter.unusedSimpArgs false
set_option linter.unusedVariables false
set_option maxRecDepth 1000000
section
variable {P : Program} {ops : Array Oper} {S : World → Prop} {Q : Exit → Act → World → Prop}
theorem wp_region_eachH {id : Nat} {a : Act} {w : World} (S : World → Prop) (n : Nat) (hm : P.follows .mixedOrders = true) (hn : n = ops.size) (h : wpAnyH P .any ops (offPanic Q) S n (Array.replicate ops.size false) a w.drew) : (Code.region id ops true).wp P Q a w := by
  subst hn
  refine Code.wp_mono (Q := offPanic Q) (fun e a w h => ?_) (wp_region_held hm h)
  cases e <;> first | exact h | exact (h : False).elim
theorem eachH_take {i n : Nat} {o : Oper} {v : Value} {L : Array Bool} {a : Act} {w : World} (hi : ops[i]? = some o) (hs : Region.noSelect ops = true) (hc : (Region.free .any ops L i && (Region.ready .any ops L).contains i) = true) (hw : Region.wanted o (yielded ops a.tmps) = true) (hS : S w)
    (hv : ∀ w, S w → (execOp a.eval o).run P w = .ok (.value v) w) (h : wpAnyH P .any ops (offPanic Q) S n (L.setIfInBounds i true) (a.put o.dst v) w) : wpAnyH P .any ops (offPanic Q) S (n + 1) L a w := by
  rw [Bool.and_eq_true] at hc
  exact wpAnyH_take hi hs hc.1 hc.2 (fun _ _ _ h => h) (.inl ⟨hw, hv⟩) hS h
abbrev EachStepH (P : Program) (ops : Array Oper) (S : World → Prop) (Q : Exit → Act → World → Prop) (n : Nat) (L : Array Bool) (a : Act) (w : World) (i : Nat) (o : Oper) : Prop :=
  ∀ K : Act → World → Prop, (∀ a w, S w → wpAnyH P .any ops Q S n (L.setIfInBounds i true) a w → K a w) → if Region.wanted o (yielded ops a.tmps) = true then Oper.wp P o a w K Q else K (a.put o.dst undef) w
theorem eachH1 {i n : Nat} {o : Oper} {L : Array Bool} {a : Act} {w : World} (hr : (Region.ready .any ops L == [i]) = true) (hi : ops[i]? = some o) (h : EachStepH P ops S Q n L a w i o) : wpAnyH P .any ops Q S (n + 1) L a w := by
  refine wpAnyH_all (by simpa using hr) (by simp) (fun j hj => ?_)
  obtain rfl : j = i := by simpa using hj
  exact wpOp_step hi (fun K hK => h K (fun a w hS h' => hK a w ⟨hS, h'⟩))
theorem eachH2 {i j n : Nat} {o p : Oper} {L : Array Bool} {a : Act} {w : World} (hr : (Region.ready .any ops L == [i, j]) = true) (hi : ops[i]? = some o) (hj : ops[j]? = some p) (h : EachStepH P ops S Q n L a w i o) (h2 : EachStepH P ops S Q n L a w j p) : wpAnyH P .any ops Q S (n + 1) L a w := by
  refine wpAnyH_all (by simpa using hr) (by simp) (fun k hk => ?_)
  rcases (by simpa using hk : k = i ∨ k = j) with rfl | rfl
  · exact wpOp_step hi (fun K hK => h K (fun a w hS h' => hK a w ⟨hS, h'⟩))
  · exact wpOp_step hj (fun K hK => h2 K (fun a w hS h' => hK a w ⟨hS, h'⟩))
theorem eachH3 {i j k n : Nat} {o p q : Oper} {L : Array Bool} {a : Act} {w : World} (hr : (Region.ready .any ops L == [i, j, k]) = true) (hi : ops[i]? = some o) (hj : ops[j]? = some p) (hk : ops[k]? = some q) (h : EachStepH P ops S Q n L a w i o) (h2 : EachStepH P ops S Q n L a w j p) (h3 : EachStepH P ops S Q n L a w k q) : wpAnyH P .any ops Q S (n + 1) L a w := by
  refine wpAnyH_all (by simpa using hr) (by simp) (fun x hx => ?_)
  rcases (by simpa using hx : x = i ∨ x = j ∨ x = k) with rfl | rfl | rfl
  · exact wpOp_step hi (fun K hK => h K (fun a w hS h' => hK a w ⟨hS, h'⟩))
  · exact wpOp_step hj (fun K hK => h2 K (fun a w hS h' => hK a w ⟨hS, h'⟩))
  · exact wpOp_step hk (fun K hK => h3 K (fun a w hS h' => hK a w ⟨hS, h'⟩))
theorem eachH_done {L : Array Bool} {a : Act} {w : World} {n : Nat} (hr : Region.ready .any ops L = []) (h : Q .normal a w) : wpAnyH P .any ops (offPanic Q) S n L a w := wpAnyH_done (Q := offPanic Q) hr h n
end
end Go.Proofs.YtlfdeenekjklgaaGreatDoor
