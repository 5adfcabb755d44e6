/- The walk of turnpikeref15.stands: the plain function stood. Conditions: at most 2^29 letters. -/
import Derived.Test.YtgkpiakapdgglaaDoorSStd
import Derived.Test.YtgkpiakapdgglaaDoorMrk2
namespace Go.Proofs.YtgkpiakapdgglaaDoor
open Go.RowKit
set_option linter.unusedSimpArgs false
set_option linter.unusedVariables false
set_option maxRecDepth 1000000
theorem dash_l (b : List UInt8) : (⟨#[45, 45]⟩ : ByteArray) ++ (⟨b.toArray⟩ : ByteArray) = ⟨(45 :: 45 :: b).toArray⟩ := by
  refine ba_ext ?_
  simp
theorem rcont_l (a b : List UInt8) (w : World) (hs : a.length ≤ 1073741824) (hb : b.length ≤ 1048576) :
    Calls Tryd.prog 72 #[.string ⟨a.toArray⟩, .string ((⟨#[45, 45]⟩ : ByteArray) ++ (⟨b.toArray⟩ : ByteArray))] w fun e w' => e = .returned (.bool (Lib.contains a (45 :: 45 :: b))) ∧ w' = w := by
  rw [dash_l]
  exact stands_any2 ⟨a.toArray⟩ ⟨(45 :: 45 :: b).toArray⟩ w (by rw [size_q]; exact hs) (by rw [size_q, List.length_cons, List.length_cons]; omega)
theorem dash_bd (n : Nat) (h : n ≤ 1048576) : ¬ 9223372036854775807 < 2 + n ∧ ¬ 9223372036854775807 < n + 2 := by omega
set_option maxHeartbeats 2000000 in
theorem rstood_any (v : Value) (l : List Prt) (t : List UInt8) (w : World) (hT : totQ l ≤ 1073741824) (hN : l.length ≤ 4294967296) (htl : t.length ≤ 1048576) (h : PrtsIn w v l) :
    Calls Tryd.prog 41 #[v, .string ⟨t.toArray⟩] w fun e w' => e = .returned (.bool (stood l (45 :: 45 :: t))) ∧ Below w.heap.size w w' := by
  obtain ⟨ao, cap, rfl, hat⟩ := h
  obtain ⟨L, hL⟩ : ∃ L, w.heap.size = L := ⟨_, rfl⟩
  have hbb : Below L w w := by rw [← hL]; exact Below.refl _ w
  have hdb := dash_bd _ htl
  have HL := Lib.hid hL; clear hL
  have HATW := Lib.hid hat; clear hat
  go_enter Tryd.func41, Tryd.ntmps41
  go_wp2
  go_loopw [5] (fun iv wr => ∃ i : Nat, iv = .int .i64 i ∧ i ≤ l.length ∧ (∀ j p, j < i → l[j]? = some p → std (45 :: 45 :: t) p = false) ∧ Below L w wr) (fun iv _ => l.length - (intOf iv).toNat)
  case atStart => exact ⟨0, rfl, Nat.zero_le _, fun j p hj => by omega, hbb⟩
  case round =>
    clear hbb
    obtain ⟨i, rfl, hi, hno, hb⟩ := hrel
    by_cases hlt : i < l.length
    · obtain ⟨p, hp⟩ : ∃ p, l[i]? = some p := ⟨_, List.getElem?_eq_getElem hlt⟩
      have hb' : Below w.heap.size w wr := by rw [HL.out]; exact hb
      obtain ⟨g, o, rfl, c0, c1, c2, c3, c4, hg⟩ := HATW.out.below hb' i p hp
      have hbd := prt_bd p _ (totQ_get l i p hp) hT
      have k0 : (0 : Int) ≤ (i : Int) := Int.natCast_nonneg _
      have k1 : (i : Int) < (l.length : Int) := by omega
      have hwi := w64p i (Nat.le_trans hi (Nat.le_trans hN (by decide)))
      have hb2 : Below L w (wr.alloc (.cells #[.string ⟨p.name.toArray⟩, .string ⟨p.file.toArray⟩, .string ⟨p.media.toArray⟩, .string ⟨p.body.toArray⟩, .bool p.has] 74)) := hb.alloc (bsz hb HL) _
      obtain ⟨b0, hb0⟩ : ∃ b, Lib.contains p.body (45 :: 45 :: t) = b := ⟨_, rfl⟩
      obtain ⟨b1, hb1⟩ : ∃ b, Lib.contains p.name (45 :: 45 :: t) = b := ⟨_, rfl⟩
      obtain ⟨b2, hb2'⟩ : ∃ b, Lib.contains p.file (45 :: 45 :: t) = b := ⟨_, rfl⟩
      obtain ⟨b3, hb3⟩ : ∃ b, Lib.contains p.media (45 :: 45 :: t) = b := ⟨_, rfl⟩
      have hstd : std (45 :: 45 :: t) p = (b0 || (b1 || (b2 || b3))) := by unfold std; rw [hb0, hb1, hb2', hb3]
      have r0 := fun W => rcont_l p.body t W hbd.1 htl
      have r1 := fun W => rcont_l p.name t W hbd.2.1 htl
      have r2 := fun W => rcont_l p.file t W hbd.2.2.1 htl
      have r3 := fun W => rcont_l p.media t W hbd.2.2.2 htl
      rw [hb0] at r0
      rw [hb1] at r1
      rw [hb2'] at r2
      rw [hb3] at r3
      have HS := Lib.hid (And.intro hstd (And.intro hp (And.intro hno hb2))); have HW := Lib.hid hwi
      have R0 := Lib.hid r0; have R1 := Lib.hid r1; have R2 := Lib.hid r2; have R3 := Lib.hid r3
      clear hstd hp hno hb2 hb hb' hwi r0 r1 r2 r3 hb0 hb1 hb2' hb3
      go_wp2_with fail
      refine (R0.out _).mono ?_
      rintro e W ⟨rfl, hW⟩
      rw [hW]
      clear hW W
      cases b0 with
      | true =>
        have hy := stood_yes l (45 :: 45 :: t) i p HS.out.2.1 (by rw [HS.out.1]; simp)
        have HY := Lib.hid hy
        clear hy
        go_wp2
        go_ret
        rw [HY.out, HL.out]
        exact ⟨rfl, HS.out.2.2.2⟩
      | false =>
        go_wp2_with fail
        refine (R1.out _).mono ?_
        rintro e W ⟨rfl, hW⟩
        rw [hW]
        clear hW W
        cases b1 with
        | true =>
          have hy := stood_yes l (45 :: 45 :: t) i p HS.out.2.1 (by rw [HS.out.1]; simp)
          have HY := Lib.hid hy
          clear hy
          go_wp2
          go_ret
          rw [HY.out, HL.out]
          exact ⟨rfl, HS.out.2.2.2⟩
        | false =>
          go_wp2_with fail
          refine (R2.out _).mono ?_
          rintro e W ⟨rfl, hW⟩
          rw [hW]
          clear hW W
          cases b2 with
          | true =>
            have hy := stood_yes l (45 :: 45 :: t) i p HS.out.2.1 (by rw [HS.out.1]; simp)
            have HY := Lib.hid hy
            clear hy
            go_wp2
            go_ret
            rw [HY.out, HL.out]
            exact ⟨rfl, HS.out.2.2.2⟩
          | false =>
            go_wp2_with fail
            refine (R3.out _).mono ?_
            rintro e W ⟨rfl, hW⟩
            rw [hW]
            clear hW W
            cases b3 with
            | true =>
              have hy := stood_yes l (45 :: 45 :: t) i p HS.out.2.1 (by rw [HS.out.1]; simp)
              have HY := Lib.hid hy
              clear hy
              go_wp2
              go_ret
              rw [HY.out, HL.out]
              exact ⟨rfl, HS.out.2.2.2⟩
            | false =>
              have hn2 : ∀ j p, j < i + 1 → l[j]? = some p → std (45 :: 45 :: t) p = false := fun j q hj hq => by
                by_cases hji : j < i
                · exact HS.out.2.2.1 j q hji hq
                · obtain rfl : j = i := by omega
                  rw [HS.out.2.1] at hq; injection hq with hq; subst hq
                  rw [HS.out.1]; rfl
              have HN2 := Lib.hid hn2
              clear hn2
              go_wp2
              have hwi := HW.out
              go_roundw
              case rel => (try rw [hwi]); clear hwi; exact ⟨i + 1, by go_num, hlt, HN2.out, HS.out.2.2.2⟩
              case measure => (try rw [hwi]); clear hwi; simp [intOf]; omega
    · have hd : decide (i < l.length) = false := decide_eq_false hlt
      have hf := stood_no l (45 :: 45 :: t) (fun j p hj hp => hno j p (by omega) hp)
      have HF := Lib.hid (And.intro hf hb)
      clear hf hno hb
      go_wp2
      go_ret
      rw [HF.out.1, HL.out]
      exact ⟨rfl, HF.out.2⟩
end Go.Proofs.YtgkpiakapdgglaaDoor
