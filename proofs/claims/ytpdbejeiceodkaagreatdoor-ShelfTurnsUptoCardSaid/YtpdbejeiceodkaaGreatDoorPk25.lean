/- LanH, MdT: texts of the seat, one behind the other (a claim holds at most sixty). Conditions: each theorem names its own. -/
import Derived.Test.YtpdbejeiceodkaaGreatDoorPk14
import Derived.Test.YtpdbejeiceodkaaGreatDoorPk16
import Derived.Test.YtpdbejeiceodkaaGreatDoorPk10
import Derived.Deep.DeepCutAuto
import Derived.Test.YtpdbejeiceodkaaGreatDoorPk12
import Derived.Test.YtpdbejeiceodkaaGreatDoorPk04
import Derived.Test.YtpdbejeiceodkaaGreatDoorPk07
namespace Go.Proofs.YtpdbejeiceodkaaGreatDoor
open Go.RowKit
set_option linter.unusedSimpArgs false
set_option linter.unusedVariables false
set_option maxRecDepth 1000000
/-- strings.Split at one byte: the pieces stand in a new row. -/
theorem lsplit_lib (s : ByteArray) (c : UInt8) (m : Int) (w : World) (hs : s.size < 4294967281) (hm : w.cell? ⟨0, 0, none⟩ = some (.int .i64 m)) :
    Calls Tryz.prog 149 #[.string s, .string ⟨#[c]⟩] w fun e w' => ∃ cap, e = .returned (.slice (some ⟨w.heap.size, 0, none⟩) (Lib.split s.data.toList [c]).length cap) ∧ TxtAt w' (some ⟨w.heap.size, 0, none⟩) (Lib.split s.data.toList [c]) ∧ Below w.heap.size w w' := by
  refine (Tryz.strings_Split s ⟨#[c]⟩ m w hs hm (show 1 ≤ 1 from Nat.le_refl 1)).mono fun e w' ⟨he, hw⟩ => ?_
  have hlen := Lib.splitB_all ⟨#[c]⟩ (show 1 ≤ 1 from Nat.le_refl 1) 0 _ s rfl
  have hdat := Lib.splitB_data ⟨#[c]⟩ 0 (Lib.countB s ⟨#[c]⟩) s
  have hpc : Lib.split s.data.toList [c] = (Lib.splitB ⟨#[c]⟩ 0 (Lib.countB s ⟨#[c]⟩) s).map (·.data.toList) := hdat.symm
  have hl2 : (Lib.split s.data.toList [c]).length = Lib.countB s ⟨#[c]⟩ + 1 := by rw [hpc, List.length_map, hlen]
  refine ⟨Lib.countB s ⟨#[c]⟩ + 1, by rw [he, hl2], fun j p hj => ⟨w.heap.size, 0, rfl, by rw [hw]; simp, ?_⟩, by rw [hw]; exact (Below.refl _ w).alloc (Nat.le_refl _) _⟩
  rw [hpc, List.getElem?_map, Option.map_eq_some_iff] at hj
  obtain ⟨q, hq, rfl⟩ := hj
  rw [hw, Nat.zero_add, Lib.cell_of_heap (heap_alloc_new w _)]
  simp [hq]
theorem lan_bd (i n s : Nat) (h : i ≤ n) (hn : n ≤ s + 1) (hs : s ≤ 2147483648) : i ≤ 2199023255552 := by omega
theorem lan_b3 (s : Nat) (h : s ≤ 2147483648) : s < 4294967281 ∧ s ≤ 1099511627776 := by omega
theorem lanN_no (n : Nat) (h : lanN n = false) : (n : Int) < 1 ∨ (¬ (n : Int) < 1 ∧ (8 : Int) < (n : Int)) := by
  unfold lanN at h
  rw [Bool.and_eq_false_iff] at h
  simp only [decide_eq_false_iff_not] at h
  omega
theorem lanN_yes (n : Nat) (h : lanN n = true) : ¬ (n : Int) < 1 ∧ ¬ (8 : Int) < (n : Int) ∧ n ≤ 2199023255552 := by
  unfold lanN at h
  simp only [Bool.and_eq_true, decide_eq_true_eq] at h
  omega
theorem lanC_val (b : Bool) (c : UInt8) (n i : Nat) (h : c.toNat = n) (hb : b = decide (0 < i)) : (!lanC b c) = !(decide ((97 : Int) ≤ (n : Int)) && decide ((n : Int) ≤ 122) || (decide ((0 : Int) < (i : Int)) && decide ((48 : Int) ≤ (n : Int)) && decide ((n : Int) ≤ 57))) := by
  subst h
  subst hb
  unfold lanC lanLt lanDg
  congr 1
  rw [Bool.eq_iff_iff]
  simp only [Bool.or_eq_true, Bool.and_eq_true, decide_eq_true_eq]
  omega
set_option maxHeartbeats 4000000 in
theorem oislan_any (s : ByteArray) (m : Int) (w : World) (hs : s.size ≤ 2147483648) (hm : w.cell? ⟨0, 0, none⟩ = some (.int .i64 m)) :
    Calls Tryz.prog 101 #[.string s] w fun e w' => e = .returned (.bool (lanOk s.data.toList)) ∧ Below w.heap.size w w' := by
  have hb3 := lan_b3 _ hs
  have hl := olower_any s w hb3.2
  obtain ⟨t, ht⟩ : ∃ t : ByteArray, (⟨(lowL s.data.toList).toArray⟩ : ByteArray) = t := ⟨_, rfl⟩
  have htl : t.data.toList = lowL s.data.toList := by rw [← ht]
  have hts : t.size = s.size := by rw [← size_list, htl, lowL_len, size_list]
  rw [ht] at hl
  have hsp := fun W (hW : Below w.heap.size w W) => lsplit_lib t 45 m W (by rw [hts]; exact hb3.1) (mx_later (B := 0) hm hW)
  have hcnt := spl_count 45 t.data.toList
  have hok : lanOk s.data.toList = lanPs false (Lib.split t.data.toList [45]) := by unfold lanOk; rw [htl]
  obtain ⟨pc, hpc⟩ : ∃ pc, Lib.split t.data.toList [45] = pc := ⟨_, rfl⟩
  rw [size_list, hts, hpc] at hcnt
  rw [hpc] at hok
  simp only [hpc] at hsp
  have HL := Lib.hid hl; have HSP := Lib.hid hsp; have HCNT := Lib.hid (And.intro hcnt hs); have HOK := Lib.hid hok
  clear hl hsp hcnt hok htl hts ht hb3 hs hm hpc
  go_enter Tryz.func101, Tryz.ntmps101
  go_wp2_with fail
  refine (HL.out).mono ?_
  rintro e w1 ⟨rfl, hb1⟩
  have HB1 := Lib.hid hb1
  clear hb1
  go_wp2_with fail
  refine (HSP.out _ HB1.out).mono ?_
  rintro e w2 ⟨cap, rfl, hat, hb2⟩
  obtain ⟨g, hg⟩ : ∃ g, w1.heap.size = g := ⟨_, rfl⟩
  have HB2 := Lib.hid (HB1.out.trans (hb2.mono HB1.out.size))
  rw [hg] at hat
  rw [hg]
  have HAT := Lib.hid hat
  clear hb2 hat hg
  go_wp2
  go_loopw [11] (fun iv wr => ∃ i : Nat, iv = .int .i64 i ∧ i ≤ pc.length ∧ lanPs false pc = lanPs (decide (0 < i)) (pc.drop i) ∧ w2 = wr) (fun iv _ => pc.length - (intOf iv).toNat)
  case atStart => exact ⟨0, rfl, Nat.zero_le _, rfl, rfl⟩
  case round =>
    obtain ⟨i, rfl, hi, hno, rfl⟩ := hrel
    by_cases hlt : i < pc.length
    · obtain ⟨p, hp⟩ : ∃ p, pc[i]? = some p := ⟨_, List.getElem?_eq_getElem hlt⟩
      obtain ⟨g', o', hgo, _, c0⟩ := HAT.out i p hp
      injection hgo with hgo
      injection hgo with hg1 ho1 _
      subst hg1
      subst ho1
      rw [Nat.zero_add] at c0
      rw [lanPs_drop pc i p hp] at hno
      obtain ⟨P, hP⟩ : ∃ P : ByteArray, (⟨p.toArray⟩ : ByteArray) = P := ⟨_, rfl⟩
      have hPl : P.data.toList = p := by rw [← hP]
      have hPs : P.size = p.length := by rw [← size_list, hPl]
      rw [hP] at c0
      have k0 : (0 : Int) ≤ (i : Int) := Int.natCast_nonneg _
      have k1 : (i : Int) < (pc.length : Int) := by omega
      have hwi := wrap64_small i (lan_bd i _ _ hi HCNT.out.1 HCNT.out.2)
      have HW := Lib.hid hwi; have HNO := Lib.hid hno; have HP := Lib.hid (And.intro hP (And.intro hPl hPs))
      clear hwi hno hP hPl hPs hp
      cases hn : lanN p.length with
      | false =>
        have HR := Lib.hid (show lanPs false pc = false by rw [HNO.out]; unfold lanP; rw [hn]; simp)
        have hn2 := lanN_no _ hn
        rw [← HP.out.2.2] at hn2
        clear hn
        rcases hn2 with h1 | ⟨h1, h2⟩
        · go_wp2
          go_ret
          rw [HOK.out, HR.out]
          exact ⟨rfl, HB2.out⟩
        · go_wp2
          go_ret
          rw [HOK.out, HR.out]
          exact ⟨rfl, HB2.out⟩
      | true =>
        have HR := Lib.hid (show lanPs false pc = (P.data.toList.all (lanC (decide (0 < i))) && lanPs true (pc.drop (i + 1))) by rw [HNO.out, HP.out.2.1]; unfold lanP; rw [hn]; simp)
        have hn2 := lanN_yes _ hn
        rw [← HP.out.2.2] at hn2
        obtain ⟨h1, h2, hP40⟩ := hn2
        have HP40 := Lib.hid hP40
        clear hn hP40
        go_wp2
        go_loopw [26] (fun kv wr => ∃ k : Nat, kv = .int .i64 k ∧ k ≤ P.size ∧ P.data.toList.all (lanC (decide (0 < i))) = (P.data.toList.drop k).all (lanC (decide (0 < i))) ∧ w2 = wr) (fun kv _ => P.size - (intOf kv).toNat)
        case atStart => exact ⟨0, rfl, Nat.zero_le _, rfl, rfl⟩
        case round =>
          clear c0
          obtain ⟨k, rfl, hk, hall, rfl⟩ := hrel
          by_cases hkl : k < P.size
          · have hget := list_get P k hkl
            obtain ⟨c, hc⟩ : ∃ c, P[k]'hkl = c := ⟨_, rfl⟩
            rw [hc] at hget
            rw [all_dropL _ _ _ _ hget] at hall
            obtain ⟨a, ea⟩ : ∃ n, (P[k]'hkl).toNat = n := ⟨_, rfl⟩
            have hca : c.toNat = a := by rw [← hc]; exact ea
            have hval := lanC_val (decide (0 < i)) c a i hca rfl
            have j0 : (0 : Int) ≤ (k : Int) := Int.natCast_nonneg _
            have j1 : (k : Int) < (P.size : Int) := by omega
            have hwk := wrap64_small k (Nat.le_trans hk HP40.out)
            have HWK := Lib.hid hwk; have HALL := Lib.hid hall; have HV := Lib.hid hval
            clear hwk hall hval hget hc hca
            go_upto_region 10 with fail
            go_cut [50] (fun s50 wx => s50 = .bool (!lanC (decide (0 < i)) c) ∧ w2 = wx)
            case first =>
              by_cases q1 : (97 : Int) ≤ (a : Int) <;> by_cases q2 : (a : Int) ≤ 122 <;> by_cases q3 : (0 : Int) < (i : Int) <;> by_cases q4 : (48 : Int) ≤ (a : Int) <;> by_cases q5 : (a : Int) ≤ 57
              all_goals go_wp2_with fail
              all_goals
                go_meet
                exact ⟨by rw [HV.out]; first | (simp [q1, q2, q3, q4, q5]; done) | (simp [q1, q2, q3, q4, q5]; omega), by first | rfl | trivial⟩
            case rest =>
            obtain ⟨rfl, rfl⟩ := hcut
            cases hcc : lanC (decide (0 < i)) c with
            | false =>
              have HR2 := Lib.hid (show lanPs false pc = false by rw [HR.out, HALL.out, hcc]; simp)
              clear hcc
              go_wp2
              go_ret
              rw [HOK.out, HR2.out]
              exact ⟨rfl, HB2.out⟩
            | true =>
              have HA2 := Lib.hid (show P.data.toList.all (lanC (decide (0 < i))) = (P.data.toList.drop (k + 1)).all (lanC (decide (0 < i))) by rw [HALL.out, hcc, Bool.true_and])
              clear hcc
              go_wp2
              have hwi := HWK.out
              go_roundw
              case rel => (try rw [hwi]); clear hwi; exact ⟨k + 1, by go_num, hkl, HA2.out, by first | rfl | trivial⟩
              case measure => (try rw [hwi]); clear hwi; simp [intOf]; omega
          · obtain rfl : k = P.size := by omega
            have hd : decide (P.size < P.size) = false := decide_eq_false (Nat.lt_irrefl _)
            have HN2 := Lib.hid (show lanPs false pc = lanPs (decide (0 < i + 1)) (pc.drop (i + 1)) by
              rw [HR.out, hall, List.drop_of_length_le (by rw [size_list]; exact Nat.le_refl _)]
              rw [show decide (0 < i + 1) = true from decide_eq_true (Nat.succ_pos i)]
              rfl)
            clear hall
            go_wp2
            have hwi := HW.out
            go_roundw
            case rel => (try rw [hwi]); clear hwi; exact ⟨i + 1, by go_num, hlt, HN2.out, by first | rfl | trivial⟩
            case measure => (try rw [hwi]); clear hwi; simp [intOf]; omega
    · obtain rfl : i = pc.length := by omega
      have hd : decide (pc.length < pc.length) = false := decide_eq_false (Nat.lt_irrefl _)
      rw [List.drop_length] at hno
      have HNO := Lib.hid hno
      clear hno
      go_wp2
      go_ret
      rw [HOK.out, HNO.out]
      exact ⟨rfl, HB2.out⟩
end Go.Proofs.YtpdbejeiceodkaaGreatDoor
namespace Go.Proofs.YtpdbejeiceodkaaGreatDoor
open Go.RowKit
set_option linter.unusedSimpArgs false
set_option linter.unusedVariables false
set_option maxRecDepth 1000000
theorem valP_k7 (l v : List UInt8) (k : Nat) (h : valP l = some (v, k)) : v.length ≤ k := by
  unfold valP at h
  split at h
  · exact (unq_used l v k h).2.2
  · injection h with h
    injection h with h1 h2
    rw [← h1, ← h2, List.length_take]
    omega
theorem parStep_tot (l : List UInt8) (p : Par) (k : Nat) (h : parStep l = some (some (some p, k))) : p.1.length + p.2.1.length + 1 ≤ k := by
  unfold parStep at h
  split at h
  · simp only at h
    split at h
    · simp at h
    · split at h
      · split at h
        · simp at h
        · rename_i v k2 hv
          simp only [Option.some.injEq, Prod.mk.injEq] at h
          obtain ⟨rfl, rfl⟩ := h
          have := valP_k7 _ _ _ hv
          simp only [List.length_take]
          omega
      · simp only [Option.some.injEq, Prod.mk.injEq] at h
        obtain ⟨rfl, rfl⟩ := h
        simp only [List.length_take, List.length_nil]
        omega
  · cases h
theorem parF_tot : ∀ (f : Nat) (l : List UInt8) (ps : List Par) (k : Nat), parF f l = some (ps, k) → totP ps + ps.length ≤ k
  | 0, l, ps, k, h => by
    simp only [parF, Option.some.injEq, Prod.mk.injEq] at h
    obtain ⟨rfl, rfl⟩ := h
    exact Nat.le_refl _
  | f + 1, l, ps, k, h => by
    rw [parF] at h
    cases hs : parStep l with
    | none =>
      rw [hs] at h
      simp only [Option.some.injEq, Prod.mk.injEq] at h
      obtain ⟨rfl, rfl⟩ := h
      exact Nat.le_refl _
    | some o =>
      rw [hs] at h
      cases o with
      | none => cases h
      | some qk =>
        obtain ⟨q, k2⟩ := qk
        simp only [Option.map_eq_some_iff] at h
        obtain ⟨x, hx, he⟩ := h
        injection he with h1 h2
        have ih := parF_tot f (l.drop k2) x.1 x.2 hx
        rw [← h1, ← h2, totP_append, List.length_append]
        cases q with
        | none => simp only [Option.toList_none, totP, List.length_nil]; omega
        | some q =>
          have := parStep_tot l q k2 hs
          simp only [Option.toList_some, totP, List.length_singleton]
          omega
theorem parR_tot (l : List UInt8) (ps : List Par) (m e : Nat) (h : parR l = (ps, m, e)) : totP ps + ps.length ≤ m := by
  unfold parR at h
  cases hp : parP l with
  | none =>
    rw [hp] at h
    injection h with h1 h2
    injection h2 with h2 h3
    rw [← h1, ← h2]
    exact Nat.le_refl _
  | some x =>
    rw [hp] at h
    obtain ⟨ps2, k⟩ := x
    injection h with h1 h2
    injection h2 with h2 h3
    rw [← h1, ← h2]
    exact parF_tot _ l ps2 k hp
theorem totP_lowP (ps : List Par) : totP (ps.map lowP) = totP ps := by
  induction ps with
  | nil => rfl
  | cons p r ih => rw [List.map_cons]; simp only [totP]; rw [ih]; unfold lowP; rw [lowL_len]
theorem totP_take (ps : List Par) (k : Nat) : totP (ps.take k) + (ps.take k).length ≤ totP ps + ps.length := by
  have h := congrArg totP (List.take_append_drop k ps)
  have h2 := congrArg List.length (List.take_append_drop k ps)
  rw [totP_append] at h
  rw [List.length_append] at h2
  omega
theorem mdK_tot (s rest : List UInt8) (n : Nat) : (mdK s rest n).1.length + (mdK s rest n).2.1.length + (totP (mdK s rest n).2.2.1 + (mdK s rest n).2.2.1.length) ≤ n + rest.length := by
  unfold mdK
  split
  · simp [noMed, totP]
  · rename_i hc
    obtain ⟨⟨ps, m, e⟩, hp⟩ : ∃ r, parR (rest.drop (runL isSg rest)) = r := ⟨_, rfl⟩
    rw [hp] at hc ⊢
    have := parR_tot _ ps m e hp
    have hm : runL isSg rest + m = rest.length := Classical.byContradiction fun h => hc (Or.inr (Or.inr h))
    simp only [lowL_len, List.length_take, totP_lowP, List.length_map]
    omega
theorem mdR_tot (s : List UInt8) : (mdR s).1.length + (mdR s).2.1.length + (totP (mdR s).2.2.1 + (mdR s).2.2.1.length) ≤ s.length := by
  unfold mdR
  split
  · simp [noMed, totP]
  · rename_i hc
    have h1 : s[runL isSg s]? = some 47 := Classical.byContradiction fun h => hc (Or.inr h)
    have hl := (List.getElem?_eq_some_iff.1 h1).1
    refine Nat.le_trans (mdK_tot _ _ _) ?_
    rw [List.length_drop]
    omega
end Go.Proofs.YtpdbejeiceodkaaGreatDoor
