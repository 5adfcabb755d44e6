/- The walks of turnpikeref09.IsMark and Stands. Conditions: fewer than 2^40 bytes. -/
import Derived.Test.YtgkpiakapdgglaaDoorMrk
namespace Go.Proofs.YtgkpiakapdgglaaDoor
open Go.RowKit
set_option linter.unusedSimpArgs false
set_option linter.unusedVariables false
set_option maxRecDepth 1000000
theorem mkL_at (i : Nat) (h : i < (⟨#[39, 40, 41, 43, 95, 44, 45, 46, 47, 58, 61, 63]⟩ : ByteArray).size) : mkL[i]? = some ((⟨#[39, 40, 41, 43, 95, 44, 45, 46, 47, 58, 61, 63]⟩ : ByteArray)[i]'h) := by
  have := list_get ⟨#[39, 40, 41, 43, 95, 44, 45, 46, 47, 58, 61, 63]⟩ i h
  exact this
theorem drewN_drewN (w : World) (a b : Nat) : (w.drewN a).drewN b = w.drewN (a + b) := by
  induction b with
  | zero => rfl
  | succ b ih => show ((w.drewN a).drewN b).drew = (w.drewN (a + b)).drew; rw [ih]
theorem contains_take (l : List UInt8) (k : Nat) (c d : UInt8) (h : l[k]? = some d) : (l.take (k + 1)).contains c = ((l.take k).contains c || c == d) := by
  rw [List.take_add_one, h, Option.toList_some]
  simp
  rfl
def Oks (c : UInt8) (k : Nat) (b : Bool) : Prop := (mkL.take k).contains c = b
theorem bdr_known (c : UInt8) (n : Nat) (h : c.toNat = n) (h1 : ltN n = true ∨ dgN n = true) : bdr c = true := by
  subst h
  unfold bdr
  rcases h1 with h | h
  · rw [h]; simp
  · rw [h]; simp
theorem bdr_list (c : UInt8) (n : Nat) (h : c.toNat = n) (h1 : ltN n = false) (h2 : dgN n = false) : bdr c = mkL.contains c := by
  subst h
  unfold bdr
  rw [h1, h2]; rfl
set_option maxHeartbeats 2000000 in
theorem ismark_any (s : ByteArray) (w : World) (hs : s.size ≤ 1099511627776) : Calls Tryd.prog 16 #[.string s] w fun e w' => e = .returned (.bool (isMrk s.data.toList)) ∧ Below w.heap.size w w' := by
  go_enter Tryd.func16, Tryd.ntmps16
  go_wp2
  go_loopw [3] (fun iv wr => ∃ i d : Nat, iv = .int .i64 i ∧ i ≤ s.size ∧ (s.data.toList.take i).all bdr = true ∧ wr = w.drewN d) (fun iv _ => s.size - (intOf iv).toNat)
  case atStart => exact ⟨0, 0, rfl, Nat.zero_le _, rfl, rfl⟩
  case round =>
    obtain ⟨i, d, rfl, hi, hall, rfl⟩ := hrel
    by_cases hlt : i < s.size
    · obtain ⟨c, hc⟩ : ∃ c, s[i]'hlt = c := ⟨_, rfl⟩
      have hget := list_get s i hlt
      rw [hc] at hget
      have k0 : (0 : Int) ≤ (i : Int) := Int.natCast_nonneg _
      have k1 : (i : Int) < (s.size : Int) := by omega
      have hwi := w64o i (le_oo i s.size hi hs)
      have HA := Lib.hid (And.intro hall hget); have HW := Lib.hid hwi
      clear hall hget hwi
      obtain ⟨la, hla⟩ : ∃ b, ltN c.toNat = b := ⟨_, rfl⟩
      cases la with
      | true =>
        have hbd := bdr_known c c.toNat rfl (Or.inl hla)
        have HB := Lib.hid (And.intro hbd hla)
        clear hbd hla
        go_wp2_with fail
        refine (rletter_any c.toNat _).mono ?_
        rintro e wr ⟨rfl, hwr⟩
        rw [hwr, HB.out.2]
        clear hwr
        go_wp2
        go_loopw [5, 4] (fun kv ov wq => ∃ k d2 : Nat, kv = .int .i64 k ∧ k ≤ 12 ∧ ov = .bool true ∧ wq = w.drewN d2) (fun kv _ _ => 12 - (intOf kv).toNat)
        case atStart => exact ⟨0, d, rfl, by omega, rfl, rfl⟩
        case round =>
          obtain ⟨k, d2, rfl, hk, rfl, rfl⟩ := hrel
          by_cases hkl : k < 12
          · have q0 : (0 : Int) ≤ (k : Int) := Int.natCast_nonneg _
            have q1 : (k : Int) < 12 := by omega
            obtain ⟨W5, hW5⟩ : ∃ W5, w.drewN d2 = W5 := ⟨_, rfl⟩
            rw [hW5]
            have HW5 := Lib.hid hW5
            clear hW5
            go_wp2_with fail
            refine wp_region_quiet_lit (by kernel_rfl) (by kernel_rfl) ?_
            repeat (any_goals (first | go_big_quiet_step (fail) | quiet_step (fail)))
            refine wpQuiet_nil ?_
            intro W6 hW6
            obtain ⟨nq, hq⟩ := hW6
            subst hq
            go_wp2
            go_roundw
            case rel => exact ⟨k + 1, d2 + nq, by go_num, by omega, rfl, by rw [← HW5.out, drewN_drewN]⟩
            case measure => simp [intOf]; omega
          · obtain rfl : k = 12 := by omega
            have hx := all_take bdr _ i c HA.out.2 HA.out.1 HB.out.1
            have HX := Lib.hid hx
            clear hx
            go_wp2
            have hwi := HW.out
            go_roundw
            case rel => (try rw [hwi]); clear hwi; exact ⟨i + 1, d2, by go_num, by omega, HX.out, rfl⟩
            case measure => (try rw [hwi]); clear hwi; simp [intOf]; omega
      | false =>
        obtain ⟨da, hda⟩ : ∃ b, dgN c.toNat = b := ⟨_, rfl⟩
        cases da with
        | true =>
          have hbd := bdr_known c c.toNat rfl (Or.inr hda)
          have HB := Lib.hid (And.intro hbd (And.intro hla hda))
          clear hbd hla hda
          go_wp2_with fail
          refine (rletter_any c.toNat _).mono ?_
          rintro e wr ⟨rfl, hwr⟩
          rw [hwr, HB.out.2.1]
          clear hwr wr
          go_wp2_with fail
          refine (rdigit_any c.toNat _).mono ?_
          rintro e wr ⟨rfl, hwr⟩
          rw [hwr, HB.out.2.2]
          clear hwr
          go_wp2
          go_loopw [5, 4] (fun kv ov wq => ∃ k d2 : Nat, kv = .int .i64 k ∧ k ≤ 12 ∧ ov = .bool true ∧ wq = w.drewN d2) (fun kv _ _ => 12 - (intOf kv).toNat)
          case atStart => exact ⟨0, d, rfl, by omega, rfl, rfl⟩
          case round =>
            obtain ⟨k, d2, rfl, hk, rfl, rfl⟩ := hrel
            by_cases hkl : k < 12
            · have q0 : (0 : Int) ≤ (k : Int) := Int.natCast_nonneg _
              have q1 : (k : Int) < 12 := by omega
              obtain ⟨W5, hW5⟩ : ∃ W5, w.drewN d2 = W5 := ⟨_, rfl⟩
              rw [hW5]
              have HW5 := Lib.hid hW5
              clear hW5
              go_wp2_with fail
              refine wp_region_quiet_lit (by kernel_rfl) (by kernel_rfl) ?_
              repeat (any_goals (first | go_big_quiet_step (fail) | quiet_step (fail)))
              refine wpQuiet_nil ?_
              intro W6 hW6
              obtain ⟨nq, hq⟩ := hW6
              subst hq
              go_wp2
              go_roundw
              case rel => exact ⟨k + 1, d2 + nq, by go_num, by omega, rfl, by rw [← HW5.out, drewN_drewN]⟩
              case measure => simp [intOf]; omega
            · obtain rfl : k = 12 := by omega
              have hx := all_take bdr _ i c HA.out.2 HA.out.1 HB.out.1
              have HX := Lib.hid hx
              clear hx
              go_wp2
              have hwi := HW.out
              go_roundw
              case rel => (try rw [hwi]); clear hwi; exact ⟨i + 1, d2, by go_num, by omega, HX.out, rfl⟩
              case measure => (try rw [hwi]); clear hwi; simp [intOf]; omega
        | false =>
          have hbd := bdr_list c c.toNat rfl hla hda
          have HB := Lib.hid (And.intro hbd (And.intro hla hda))
          clear hbd hla hda
          go_wp2_with fail
          refine (rletter_any c.toNat _).mono ?_
          rintro e wr ⟨rfl, hwr⟩
          rw [hwr, HB.out.2.1]
          clear hwr wr
          go_wp2_with fail
          refine (rdigit_any c.toNat _).mono ?_
          rintro e wr ⟨rfl, hwr⟩
          rw [hwr, HB.out.2.2]
          clear hwr
          go_wp2
          go_loopw [5, 4] (fun kv ov wq => ∃ (k d2 : Nat) (b : Bool), kv = .int .i64 k ∧ k ≤ 12 ∧ ov = .bool b ∧ Oks c k b ∧ wq = w.drewN d2) (fun kv _ _ => 12 - (intOf kv).toNat)
          case atStart => exact ⟨0, d, false, rfl, by omega, rfl, rfl, rfl⟩
          case round =>
            obtain ⟨k, d2, b, rfl, hk, rfl, hb, rfl⟩ := hrel
            by_cases hkl : k < 12
            · have q0 : (0 : Int) ≤ (k : Int) := Int.natCast_nonneg _
              have q1 : (k : Int) < 12 := by omega
              obtain ⟨W5, hW5⟩ : ∃ W5, w.drewN d2 = W5 := ⟨_, rfl⟩
              rw [hW5]
              have hctA : ∀ g, mkL[k]? = some g → Oks c (k + 1) (b || c == g) := fun g hg => by unfold Oks at hb ⊢; rw [contains_take mkL k c g hg, hb]
              have HW6 := Lib.hid (And.intro hW5 (And.intro hctA hb))
              clear hW5 hctA hb
              cases b with
              | true =>
                go_wp2_with fail
                refine wp_region_quiet_lit (by kernel_rfl) (by kernel_rfl) ?_
                repeat (any_goals (first | go_big_quiet_step (fail) | quiet_step (fail)))
                refine wpQuiet_nil ?_
                intro W6 hW6
                obtain ⟨nq, hq⟩ := hW6
                subst hq
                go_wp2
                go_roundw
                case rel => exact ⟨k + 1, d2 + nq, true, by go_num, by omega, rfl, HW6.out.2.1 _ (mkL_at k hkl), by rw [← HW6.out.1, drewN_drewN]⟩
                case measure => simp [intOf]; omega
              | false =>
                obtain ⟨g, hg⟩ : ∃ g, (⟨#[39, 40, 41, 43, 95, 44, 45, 46, 47, 58, 61, 63]⟩ : ByteArray)[k]'hkl = g := ⟨_, rfl⟩
                have hat := mkL_at k hkl
                rw [hg] at hat
                have HAT := Lib.hid hat
                clear hat
                by_cases hcg : c = g
                · subst hcg
                  have b1 : ((c.toNat : Int) == (c.toNat : Int)) = true := by simp
                  go_wp2_with fail
                  refine wp_region_quiet_lit (by kernel_rfl) (by kernel_rfl) ?_
                  repeat (any_goals (first | go_big_quiet_step (fail) | quiet_step (fail)))
                  refine wpQuiet_nil ?_
                  intro W6 hW6
                  obtain ⟨nq, hq⟩ := hW6
                  subst hq
                  go_wp2
                  go_roundw
                  case rel => exact ⟨k + 1, d2 + nq, true, by go_num, by omega, rfl, by have := HW6.out.2.1 _ HAT.out; simpa using this, by rw [← HW6.out.1, drewN_drewN]⟩
                  case measure => simp [intOf]; omega
                · have b1 : ((c.toNat : Int) == (g.toNat : Int)) = false := by
                    have : c.toNat ≠ g.toNat := fun e => hcg (UInt8.toNat_inj.1 e)
                    simp; omega
                  have b2 : (c == g) = false := beq_eq_false_iff_ne.2 hcg
                  have HB2 := Lib.hid b2
                  clear b2
                  go_wp2_with fail
                  refine wp_region_quiet_lit (by kernel_rfl) (by kernel_rfl) ?_
                  repeat (any_goals (first | go_big_quiet_step (fail) | quiet_step (fail)))
                  refine wpQuiet_nil ?_
                  intro W6 hW6
                  obtain ⟨nq, hq⟩ := hW6
                  subst hq
                  go_wp2
                  go_roundw
                  case rel => exact ⟨k + 1, d2 + nq, false, by go_num, by omega, rfl, by have := HW6.out.2.1 _ HAT.out; rw [HB2.out] at this; exact this, by rw [← HW6.out.1, drewN_drewN]⟩
                  case measure => simp [intOf]; omega
            · obtain rfl : k = 12 := by omega
              have hb : bdr c = b := by rw [HB.out.1]; exact hb
              cases b with
              | true =>
                have hx := all_take bdr _ i c HA.out.2 HA.out.1 hb
                have HX := Lib.hid hx
                clear hx hb
                go_wp2
                have hwi := HW.out
                go_roundw
                case rel => (try rw [hwi]); clear hwi; exact ⟨i + 1, d2, by go_num, by omega, HX.out, rfl⟩
                case measure => (try rw [hwi]); clear hwi; simp [intOf]; omega
              | false =>
                have hx := isMrk_bad _ i c HA.out.2 hb
                have bel := below_drewN (Below.refl w.heap.size w) d2
                have HX := Lib.hid (And.intro hx bel)
                clear hx hb bel
                go_wp2
                go_ret
                exact ⟨ret_boolO HX.out.1.symm, HX.out.2⟩
    · obtain rfl : i = s.size := by omega
      have hd : decide (s.size < s.size) = false := decide_eq_false (Nat.lt_irrefl _)
      have hx := isMrk_all s hall
      have bel := below_drewN (Below.refl w.heap.size w) d
      have HX := Lib.hid (And.intro hx bel)
      clear hx hall bel
      go_wp2
      all_goals
        go_ret
        refine ⟨ret_boolO ?_, HX.out.2⟩
        rw [HX.out.1, Bool.eq_iff_iff]
        simp only [Bool.and_eq_true, decide_eq_true_eq, true_iff, iff_true, Bool.false_eq_true, false_iff, iff_false]
        omega

/-- Stands in it. -/
theorem occ_yes (l p : List UInt8) (i : Nat) (hi : i ≤ l.length) (h : Lib.occAt l p i = true) : Lib.contains l p = true := by
  unfold Lib.contains
  rw [decide_eq_true_eq]
  rcases Lib.index_spec l p with ⟨_, hno⟩ | ⟨j, hj, _⟩
  · rw [hno i hi] at h; cases h
  · rw [hj]; omega
theorem occ_no (l p : List UInt8) (h : ∀ j, j + p.length ≤ l.length → Lib.occAt l p j = false) : Lib.contains l p = false := by
  unfold Lib.contains
  rw [decide_eq_false_iff_not]
  rcases Lib.index_spec l p with ⟨hno, _⟩ | ⟨j, hj, hjl, ho, _⟩
  · rw [hno]; omega
  · intro _
    have hp : p.isPrefixOf (l.drop j) = true := ho
    have hl := (List.isPrefixOf_iff_prefix.1 hp).length_le
    rw [List.length_drop] at hl
    rw [h j (by omega)] at ho
    cases ho
theorem st_bd (i s t j : Nat) (hi : i ≤ s + 1) (hs : s ≤ 1073741824) (ht : t ≤ 1073741824) (hj : i + t = j) : i ≤ 2199023255552 ∧ j ≤ 2199023255552 := by omega
theorem occ_ext (s t : ByteArray) (i j : Nat) (hj : i + t.size = j) (h : j ≤ s.size) : (s.extract i j = t) ↔ Lib.occAt s.data.toList t.data.toList i = true := by
  unfold Lib.occAt
  rw [List.isPrefixOf_iff_prefix, ext_mk, ← hj, Nat.add_sub_cancel_left, List.prefix_iff_eq_take]
  have ht : t.data.toList.length = t.size := size_list t
  rw [ht]
  constructor
  · intro e
    have := congrArg (fun b : ByteArray => b.data.toList) e
    exact this.symm
  · intro e; apply ba_ext; exact e.symm
set_option maxHeartbeats 1000000 in
theorem stands_any2 (s t : ByteArray) (w : World) (hs : s.size ≤ 1073741824) (ht : t.size ≤ 1073741824) : Calls Tryd.prog 72 #[.string s, .string t] w fun e w' => e = .returned (.bool (Lib.contains s.data.toList t.data.toList)) ∧ w' = w := by
  go_enter Tryd.func72, Tryd.ntmps72
  go_wp2
  go_loopw [5] (fun iv wr => ∃ i : Nat, iv = .int .i64 i ∧ i ≤ s.size + 1 ∧ (∀ j, j < i → Lib.occAt s.data.toList t.data.toList j = false) ∧ wr = w) (fun iv _ => s.size + 1 - (intOf iv).toNat)
  case atStart => exact ⟨0, rfl, by omega, fun j hj => by omega, rfl⟩
  case round =>
    obtain ⟨i, rfl, hi, hno, rfl⟩ := hrel
    obtain ⟨j, hj⟩ : ∃ j, i + t.size = j := ⟨_, rfl⟩
    have f1 : (i : Int) + (t.size : Int) = (j : Int) := by omega
    have hwi := w64o i (st_bd i s.size t.size j hi hs ht hj).1
    have hwj := w64j j (st_bd i s.size t.size j hi hs ht hj).2
    have HNO := Lib.hid hno; have HW := Lib.hid hwi
    clear hno hwi
    by_cases hle : j ≤ s.size
    · have k1 : (j : Int) ≤ (s.size : Int) := by omega
      have k0 : (0 : Int) ≤ (i : Int) := Int.natCast_nonneg _
      have k2 : (i : Int) ≤ (j : Int) := by omega
      have hoc := occ_ext s t i j hj hle
      have his : i ≤ s.size := by omega
      obtain ⟨u, hu⟩ : ∃ u, s.extract i j = u := ⟨_, rfl⟩
      rw [hu] at hoc
      by_cases heq : u = t
      · subst heq
        have hx := occ_yes _ _ i (by rw [size_list]; exact his) (hoc.1 rfl)
        have HX := Lib.hid hx
        clear hoc hx hj
        go_wp2
        go_ret
        exact ⟨ret_boolO HX.out.symm, rfl⟩
      · have hof : Lib.occAt s.data.toList t.data.toList i = false := by
          cases ho : Lib.occAt s.data.toList t.data.toList i with
          | false => rfl
          | true => exact absurd (hoc.2 ho) heq
        have b1 : (u.toList == t.toList) = false := by
          rw [beq_eq_false_iff_ne]; intro e; apply heq; apply ba_ext; rw [ByteArray.toList_eq, ByteArray.toList_eq] at e; exact e
        have hx : ∀ j, j < i + 1 → Lib.occAt s.data.toList t.data.toList j = false := fun k hk => by
          by_cases hki : k < i
          · exact HNO.out k hki
          · obtain rfl : k = i := by omega
            exact hof
        have HX := Lib.hid hx
        clear hoc hof hx hj
        go_wp2
        have hwi := HW.out
        go_roundw
        case rel => (try rw [hwi]); clear hwi; exact ⟨i + 1, by go_num, by omega, HX.out, by first | rfl | trivial⟩
        case measure => (try rw [hwi]); clear hwi; simp [intOf]; omega
    · have k1 : ¬ (j : Int) ≤ (s.size : Int) := by omega
      have hx := occ_no s.data.toList t.data.toList (fun k hk => HNO.out k (by rw [size_list, size_list] at hk; omega))
      have HX := Lib.hid hx
      clear hx hj
      go_wp2
      go_ret
      exact ⟨ret_boolO HX.out.symm, rfl⟩
end Go.Proofs.YtgkpiakapdgglaaDoor
