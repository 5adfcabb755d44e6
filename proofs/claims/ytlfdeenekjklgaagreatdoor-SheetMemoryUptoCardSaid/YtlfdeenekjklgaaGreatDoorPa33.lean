/- The walk of the reference's Params: the plain function parR. Conditions: fewer than 2^40 bytes. -/
import Derived.Test.YtlfdeenekjklgaaGreatDoorPk12
namespace Go.Proofs.YtlfdeenekjklgaaGreatDoor
open Go.RowKit
set_option linter.unusedSimpArgs false
set_option linter.unusedVariables false
set_option maxRecDepth 1000000
theorem infoRParO : (Tryz.prog.info? 85).map (fun i => (i.zero, i.size, i.bytes)) = some (some (.agg #[.string ByteArray.empty, .string ByteArray.empty, .bool false]), 3, 40) := by kernel_rfl
theorem info_partsRO (h : (Tryz.prog.info? 85).map (fun i => (i.zero, i.size, i.bytes)) = some (some (.agg #[.string ByteArray.empty, .string ByteArray.empty, .bool false]), 3, 40)) : ∃ i, Tryz.prog.info? 85 = some i ∧ i.zero = some (.agg #[.string ByteArray.empty, .string ByteArray.empty, .bool false]) ∧ i.size = 3 ∧ i.bytes = 40 := by
  obtain ⟨i, hi, he⟩ := Option.map_eq_some_iff.1 h
  simp only [Prod.mk.injEq] at he
  exact ⟨i, hi, he.1, he.2.1, he.2.2⟩
/-- Three cells of a block of the call's own. -/
structure C3 (w : World) (P : Nat) (a b c : Value) : Prop where
  lt : P < w.heap.size
  c0 : w.cell? ⟨P, 0, none⟩ = some a
  c1 : w.cell? ⟨P, 1, none⟩ = some b
  c2 : w.cell? ⟨P, 2, none⟩ = some c
  z1 : w.frozen? ⟨P, 1, none⟩ = false
  z2 : w.frozen? ⟨P, 2, none⟩ = false
theorem C3.new (w : World) (a b c : Value) (T : TypeId) : C3 (w.alloc (.cells #[a, b, c] T)) w.heap.size a b c :=
  ⟨by simp, by rw [Lib.cell_of_heap (heap_alloc_new w _)]; rfl, by rw [Lib.cell_of_heap (heap_alloc_new w _)]; rfl, by rw [Lib.cell_of_heap (heap_alloc_new w _)]; rfl, Lib.frozen_of_heap (heap_alloc_new w _) 1, Lib.frozen_of_heap (heap_alloc_new w _) 2⟩
theorem C3.set1 {w : World} {P : Nat} {a b c : Value} (h : C3 w P a b c) (x : Value) : C3 (w.setCell ⟨P, 1, none⟩ x) P a x c := by
  have n01 : (⟨P, 1, none⟩ : Addr) ≠ ⟨P, 0, none⟩ := by intro e; injection e with _ e _; omega
  have n12 : (⟨P, 1, none⟩ : Addr) ≠ ⟨P, 2, none⟩ := by intro e; injection e with _ e _; omega
  exact ⟨by simpa [World.setCell] using h.lt, by rw [World.cell?_setCell_other _ _ _ _ n01]; exact h.c0, by rw [World.cell?_setCell_same _ _ _ h.c1], by rw [World.cell?_setCell_other _ _ _ _ n12]; exact h.c2, by rw [World.frozen?_setCell]; exact h.z1, by rw [World.frozen?_setCell]; exact h.z2⟩
theorem C3.set2 {w : World} {P : Nat} {a b c : Value} (h : C3 w P a b c) (x : Value) : C3 (w.setCell ⟨P, 2, none⟩ x) P a b x := by
  have n02 : (⟨P, 2, none⟩ : Addr) ≠ ⟨P, 0, none⟩ := by intro e; injection e with _ e _; omega
  have n21 : (⟨P, 2, none⟩ : Addr) ≠ ⟨P, 1, none⟩ := by intro e; injection e with _ e _; omega
  exact ⟨by simpa [World.setCell] using h.lt, by rw [World.cell?_setCell_other _ _ _ _ n02]; exact h.c0, by rw [World.cell?_setCell_other _ _ _ _ n21]; exact h.c1, by rw [World.cell?_setCell_same _ _ _ h.c2], by rw [World.frozen?_setCell]; exact h.z1, by rw [World.frozen?_setCell]; exact h.z2⟩
theorem C3.below {w w' : World} {P : Nat} {a b c : Value} (h : C3 w P a b c) (hb : Below w.heap.size w w') : C3 w' P a b c :=
  ⟨Nat.lt_of_lt_of_le h.lt hb.size, by rw [hb.cell (p := ⟨P, 0, none⟩) h.lt]; exact h.c0, by rw [hb.cell (p := ⟨P, 1, none⟩) h.lt]; exact h.c1, by rw [hb.cell (p := ⟨P, 2, none⟩) h.lt]; exact h.c2, by rw [hb.frozen (p := ⟨P, 1, none⟩) h.lt]; exact h.z1, by rw [hb.frozen (p := ⟨P, 2, none⟩) h.lt]; exact h.z2⟩
theorem valP_tok (l : List UInt8) (n : Nat) (h : runL isSg l = n) (h0 : n ≠ 0) : valP l = some (l.take n, n) := by unfold valP; rw [h, if_neg h0]
theorem valP_unq (l : List UInt8) (h : runL isSg l = 0) : valP l = unq l := by unfold valP; rw [h, if_pos rfl]
set_option maxHeartbeats 16000000 in
theorem rparams_any (s : ByteArray) (w : World) (hs : s.size ≤ 1099511627776) : Calls Tryz.prog 35 #[.string s] w (ParamsPost s 85 w) := by
  obtain ⟨i0, hi0, hz0, hz1, hz2⟩ := info_partsRO infoRParO
  obtain ⟨L, hL⟩ : ∃ L, w.heap.size = L := ⟨_, rfl⟩
  have hbb : Below L w (w.alloc (.cells #[] 85)) := by rw [← hL]; exact (Below.refl _ w).alloc (Nat.le_refl _) _
  have hrm : (w.alloc (.cells #[] 85)).ownsRow L 85 3 (.slice (some ⟨w.heap.size, 0, none⟩) 0 0) 0 [] := by rw [← hL]; exact World.ownsRow_made w #[] 0 (Nat.le_refl _) (by simp) rfl
  have HL := Lib.hid hL; clear hL
  go_enter Tryz.func35, Tryz.ntmps35
  go_wp2
  go_loopw [6, 5] (fun ev v wr => ∃ (e : Nat) (done : List Par), ev = .int .i64 e ∧ ParR s.data.toList e done ∧ wr.ownsRow L 85 3 v done.length (parsV done) ∧ Below L w wr) (fun ev _ _ => s.size - (intOf ev).toNat)
  case atStart => exact ⟨0, [], rfl, ParR.start _, hrm, hbb⟩
  case round =>
    clear hbb hrm
    obtain ⟨e, done, rfl, hR, hown, hb⟩ := hrel
    have he : e ≤ s.size := by have := hR.1; rw [size_list] at this; exact this
    have hbd := p_bd _ _ _ hR.2.1 he hs
    have hnb := runL_at isBl s e
    obtain ⟨nb, hnbe⟩ : ∃ nb, runL isBl (s.data.toList.drop e) = nb := ⟨_, rfl⟩
    rw [hnbe] at hnb
    obtain ⟨a, ha⟩ : ∃ a, e + nb = a := ⟨_, rfl⟩
    have f1 : (e : Int) + (nb : Int) = (a : Int) := by omega
    have has : a ≤ s.size := by omega
    have r1 := rblanks_any s e wr hs he
    rw [hnbe] at r1
    have HR := Lib.hid hR; have HO := Lib.hid hown; have HB := Lib.hid hb; have R1 := Lib.hid r1
    have HA : Hid (e + runL isBl (s.data.toList.drop e) = a) := Lib.hid (by rw [hnbe]; exact ha)
    clear hR hown hb r1 hnbe ha
    by_cases h59 : ∃ hlt : a < s.size, s[a]'hlt = 59
    · obtain ⟨hlt, hc⟩ := h59
      have hget : s.data.toList[a]? = some 59 := by rw [list_get s a hlt, hc]
      have k0 : (0 : Int) ≤ (a : Int) := Int.natCast_nonneg _
      have k1 : (a : Int) < (s.size : Int) := by omega
      obtain ⟨e1, he1⟩ : ∃ e1, a + 1 = e1 := ⟨_, rfl⟩
      have f2 : (a : Int) + 1 = (e1 : Int) := by omega
      have he1s : e1 ≤ s.size := by omega
      have hbl := runL_at isBl s e1
      obtain ⟨b, hbe⟩ : ∃ b, runL isBl (s.data.toList.drop e1) = b := ⟨_, rfl⟩
      rw [hbe] at hbl
      obtain ⟨p, hp⟩ : ∃ p, e1 + b = p := ⟨_, rfl⟩
      have f3 : (e1 : Int) + (b : Int) = (p : Int) := by omega
      have hps : p ≤ s.size := by omega
      have hnl := runL_at isSg s p
      obtain ⟨n, hne⟩ : ∃ n, runL isSg (s.data.toList.drop p) = n := ⟨_, rfl⟩
      rw [hne] at hnl
      have r2 := rblanks_any s e1 wr hs he1s
      rw [hbe] at r2
      have r3 := rsigns_any s p wr hs hps
      rw [hne] at r3
      have R2 := Lib.hid r2; have R3 := Lib.hid r3
      have hee : e < e1 := by have := HA.out; omega
      have HF := Lib.hid (And.intro hget (And.intro he1 (And.intro hbe (And.intro hp hne))))
      clear r2 r3 hget he1 hbe hp hne
      by_cases hn0 : n = 0
      · subst hn0
        have hst : ParR s.data.toList e1 done := by
          obtain ⟨k, hk, hke⟩ := step_blank _ e a e1 b p HA.out HF.out.1 HF.out.2.1 HF.out.2.2.1 HF.out.2.2.2.1 HF.out.2.2.2.2
          have := HR.out.step hk
          rw [hke] at this
          simpa using this
        have HST := Lib.hid hst; clear hst
        go_wp2_with fail
        refine (R1.out).mono ?_
        rintro e' wr ⟨rfl, rfl⟩
        go_wp2_with fail
        refine (R2.out).mono ?_
        rintro e' wr ⟨rfl, rfl⟩
        go_wp2_with fail
        refine (R3.out).mono ?_
        rintro e' wr ⟨rfl, rfl⟩

        go_wp2
        go_roundw
        case rel => exact ⟨e1, done, rfl, HST.out, HO.out, HB.out⟩
        case measure => simp [intOf]; omega
      · have b0 : ((n : Int) == 0) = false := by simp; omega
        obtain ⟨e2, he2⟩ : ∃ e2, p + n = e2 := ⟨_, rfl⟩
        have f4 : (p : Int) + (n : Int) = (e2 : Int) := by omega
        have he2s : e2 ≤ s.size := by omega
        have hee2 : e < e2 := by have := HF.out.2.2.2.1; omega
        obtain ⟨nm, hnm⟩ : ∃ nm, (s.data.toList.drop p).take n = nm := ⟨_, rfl⟩
        have hx : s.extract p e2 = ⟨nm.toArray⟩ := by rw [ext_mk, ← hnm, ← he2, Nat.add_sub_cancel_left]
        have p0 : (0 : Int) ≤ (p : Int) := Int.natCast_nonneg _
        have p1 : (p : Int) ≤ (e2 : Int) := by omega
        have p2 : (e2 : Int) ≤ (s.size : Int) := by omega
        have HE := Lib.hid (And.intro he2 (And.intro hnm hn0))
        clear he2 hnm hn0
        obtain ⟨P, hP⟩ : ∃ P, wr.heap.size = P := ⟨_, rfl⟩
        have hC := C3.new wr (.string ⟨nm.toArray⟩) (.string ⟨#[]⟩) (.bool false) 85
        have hbP : Below wr.heap.size wr (wr.alloc (.cells #[.string ⟨nm.toArray⟩, .string ⟨#[]⟩, .bool false] 85)) := (Below.refl _ wr).alloc (Nat.le_refl _) _
        rw [hP] at hC
        have HP := Lib.hid hP; have HC := Lib.hid hC; have HBP := Lib.hid hbP
        clear hP hC hbP
        by_cases h61 : ∃ hlt : e2 < s.size, s[e2]'hlt = 61
        · obtain ⟨hlt2, hc2⟩ := h61
          have hget2 : s.data.toList[e2]? = some 61 := by rw [list_get s e2 hlt2, hc2]
          have q0 : (0 : Int) ≤ (e2 : Int) := Int.natCast_nonneg _
          have q1 : (e2 : Int) < (s.size : Int) := by omega
          obtain ⟨e3, he3⟩ : ∃ e3, e2 + 1 = e3 := ⟨_, rfl⟩
          have f5 : (e2 : Int) + 1 = (e3 : Int) := by omega
          have he3s : e3 ≤ s.size := by omega
          have q2 : (0 : Int) ≤ (e3 : Int) := Int.natCast_nonneg _
          have q3 : (e3 : Int) ≤ (s.size : Int) := by omega
          have hnl3 := runL_at isSg s e3
          obtain ⟨n3, hn3⟩ : ∃ n, runL isSg (s.data.toList.drop e3) = n := ⟨_, rfl⟩
          rw [hn3] at hnl3
          have hC1 := HC.out.set2 (.bool true)
          have hb1 : Below wr.heap.size wr ((wr.alloc (.cells #[.string ⟨nm.toArray⟩, .string ⟨#[]⟩, .bool false] 85)).setCell ⟨P, 2, none⟩ (.bool true)) := HBP.out.setCell (p := ⟨P, 2, none⟩) (by rw [HP.out]; exact Nat.le_refl _) _
          obtain ⟨W1, hW1⟩ : ∃ W1, (wr.alloc (.cells #[.string ⟨nm.toArray⟩, .string ⟨#[]⟩, .bool false] 85)).setCell ⟨P, 2, none⟩ (.bool true) = W1 := ⟨_, rfl⟩
          rw [hW1] at hC1 hb1
          have r4 := rsigns_any s e3 W1 hs he3s
          rw [hn3] at r4
          have HQ := Lib.hid (And.intro hget2 (And.intro he3 hn3)); have R4 := Lib.hid r4; have HW1 := Lib.hid hW1; have HC1 := Lib.hid hC1; have HB1 := Lib.hid hb1
          clear hget2 he3 hn3 r4 hW1 hC1 hb1
          by_cases hn30 : n3 = 0
          · subst hn30
            have hx3 := ext_back s e3
            have hC2 := HC1.out.set1 (.string ByteArray.empty)
            have hb2 : Below wr.heap.size wr (W1.setCell ⟨P, 1, none⟩ (.string ByteArray.empty)) := HB1.out.setCell (p := ⟨P, 1, none⟩) (by rw [HP.out]; exact Nat.le_refl _) _
            obtain ⟨W2, hW2⟩ : ∃ W2, W1.setCell ⟨P, 1, none⟩ (.string ByteArray.empty) = W2 := ⟨_, rfl⟩
            rw [hW2] at hC2 hb2
            have hu := runq_any ⟨(s.data.toList.drop e3).toArray⟩ W2 (by rw [size_mk, List.length_drop, size_list]; omega)
            have hvu := valP_unq _ HQ.out.2.2
            obtain ⟨o, ho⟩ : ∃ o, unq (s.data.toList.drop e3) = o := ⟨_, rfl⟩
            rw [show (⟨(s.data.toList.drop e3).toArray⟩ : ByteArray).data.toList = s.data.toList.drop e3 from rfl, ho] at hu
            rw [ho] at hvu
            have HU := Lib.hid hu; have HV := Lib.hid (And.intro hvu ho); have HC2 := Lib.hid hC2; have HB2 := Lib.hid hb2; have HW2 := Lib.hid hW2
            clear hu hvu ho hC2 hb2 hW2
            go_wp2_with fail
            refine (R1.out).mono ?_
            rintro e' wr ⟨rfl, rfl⟩
            go_wp2_with fail
            refine (R2.out).mono ?_
            rintro e' wr ⟨rfl, rfl⟩
            go_wp2_with fail
            refine (R3.out).mono ?_
            rintro e' wr ⟨rfl, rfl⟩

            obtain ⟨_, c0, c1, c2, z1, z2⟩ := HC.out
            go_upto_region 11 with fail
            rw [HP.out]
            go_upto_region 15 with fail
            rw [HW1.out]
            clear c0 c1 c2 z1 z2
            obtain ⟨_, c0, c1, c2, z1, z2⟩ := HC1.out
            go_wp2_with fail
            refine (R4.out).mono ?_
            rintro e' W1 ⟨rfl, rfl⟩
            go_upto_region 17 with fail
            rw [HW2.out]
            clear c0 c1 c2 z1 z2
            go_wp2_with fail
            refine (HU.out).mono ?_
            rintro e' w3 ⟨rfl, hb3⟩
            have hC3 := HC2.out.below hb3
            have hb3' : Below wr.heap.size wr w3 := HB2.out.trans (hb3.mono HB2.out.size)
            clear hb3
            cases o with
            | none =>
              have hst := step_fault _ e a e1 b p n e2 e3 HA.out HF.out.1 HF.out.2.1 HF.out.2.2.1 HF.out.2.2.2.1 HF.out.2.2.2.2 HE.out.2.2 HE.out.1 HQ.out.1 HQ.out.2.1 HV.out.1
              have HD := Lib.hid (HR.out.fault hst)
              have HBW := Lib.hid (HB.out.trans (hb3'.mono (bsz HB.out HL)))
              clear hst hC3 hb3'
              rw [show unqRet none = .tuple #[.string ⟨#[]⟩, .int .i64 0, .int .i64 13] from rfl]
              have hbm : Below L w (w3.alloc (.cells #[] 85)) := HBW.out.alloc (bsz HBW.out HL) _
              have hrm : (w3.alloc (.cells #[] 85)).ownsRow L 85 3 (.slice (some ⟨w3.heap.size, 0, none⟩) 0 0) 0 [] := World.ownsRow_made w3 #[] 0 (bsz HBW.out HL) (by simp) rfl
              have HM := Lib.hid (And.intro hrm hbm)
              clear hrm hbm
              go_wp2
              go_ret3
              unfold ParamsPost
              rw [HD.out, HL.out]
              exact ⟨_, rfl, HM.out.1, HM.out.2⟩
            | some x =>
              obtain ⟨vl, k⟩ := x
              rw [show unqRet (some (vl, k)) = .tuple #[.string ⟨vl.toArray⟩, .int .i64 (k : Int), .int .i64 0] from rfl]
              have hst : ParR s.data.toList (e3 + k) (done ++ [(nm, vl, true)]) := by
                obtain ⟨j, hj, hje⟩ := step_value _ e a e1 b p n e2 e3 HA.out HF.out.1 HF.out.2.1 HF.out.2.2.1 HF.out.2.2.2.1 HF.out.2.2.2.2 HE.out.2.2 HE.out.1 HQ.out.1 HQ.out.2.1 vl k HV.out.1
                have := HR.out.step hj
                rw [hje, HE.out.2.1] at this
                exact this
              have hu := valP_used _ _ _ HV.out.1
              rw [List.length_drop, size_list] at hu
              have HST := Lib.hid hst
              obtain ⟨e4, he4⟩ : ∃ e4, e3 + k = e4 := ⟨_, rfl⟩
              rw [he4] at HST
              have f7 : (e3 : Int) + (k : Int) = (e4 : Int) := by omega
              have hee4 : e < e4 := by have := HQ.out.2.1; omega
              have he4s : e4 ≤ s.size := by omega
              have hC4 := hC3.set1 (.string ⟨vl.toArray⟩)
              have hb4 : Below wr.heap.size wr (w3.setCell ⟨P, 1, none⟩ (.string ⟨vl.toArray⟩)) := hb3'.setCell (p := ⟨P, 1, none⟩) (by rw [HP.out]; exact Nat.le_refl _) _
              obtain ⟨W, hW⟩ : ∃ W, w3.setCell ⟨P, 1, none⟩ (.string ⟨vl.toArray⟩) = W := ⟨_, rfl⟩
              rw [hW] at hC4 hb4
              have HOW := Lib.hid (own_later HO.out hb4)
              have HBW := Lib.hid (HB.out.trans (hb4.mono (bsz HB.out HL)))
              have HW := Lib.hid hW
              have HC4 := Lib.hid hC4
              obtain ⟨_, c0, c1, c2, z1, z2⟩ := hC3
              clear hst hu he4 hb4 hW hC4 hb3'
              go_upto_region 23 with fail
              rw [HW.out]
              clear c0 c1 c2 z1 z2
              obtain ⟨_, d0, d1, d2, _, _⟩ := HC4.out
              go_wp2_with (at_builtin; refine wpList_append_own _ rfl (.tmp 95) (.tmp 97) 37 rfl L 85 i0 (.agg #[.string ByteArray.empty, .string ByteArray.empty, .bool false]) 3 40 Tryz.underlying37 hi0 hz0 hz1 hz2 rfl (by decide) _ _ _ rfl (HOW.out.alloc _) ⟨W.heap.size, 0, none⟩ 1 1 [.string ⟨nm.toArray⟩, .string ⟨vl.toArray⟩, .bool true] rfl rfl (cells_new _ _ _) (by simp [Value.oneCell']) hbd.1 hbd.2 ?dd ?_)
              case dd => simp; exact Nat.le_trans (bsz HBW.out HL) (Nat.le_succ _)
              intro v1 w7 hI1 hg7 _
              have hb8 := (HBW.out.alloc (bsz HBW.out HL) _).grown hg7 (by simp; exact Nat.le_trans (bsz HBW.out HL) (Nat.le_succ _)) (fun j hj => (HOW.out.lt j hj).1)
              have HI1 := Lib.hid hI1; have HB8 := Lib.hid hb8
              clear hI1 hb8 hg7 d0 d1 d2
              go_wp2
              go_roundw
              case rel =>
                exact ⟨e4, done ++ [(nm, vl, true)], rfl, HST.out, by rw [List.length_append, parsV_snoc]; exact HI1.out, HB8.out⟩
              case measure => simp [intOf]; omega

          · have b3 : ((n3 : Int) == 0) = false := by simp; omega
            obtain ⟨e4, he4⟩ : ∃ e4, e3 + n3 = e4 := ⟨_, rfl⟩
            have f7 : (e3 : Int) + (n3 : Int) = (e4 : Int) := by omega
            have he4s : e4 ≤ s.size := by omega
            have hee4 : e < e4 := by have := HQ.out.2.1; omega
            obtain ⟨vl, hvl⟩ : ∃ vl, (s.data.toList.drop e3).take n3 = vl := ⟨_, rfl⟩
            have hx3 : s.extract e3 e4 = ⟨vl.toArray⟩ := by rw [ext_mk, ← hvl, ← he4, Nat.add_sub_cancel_left]
            have q4 : (e3 : Int) ≤ (e4 : Int) := by omega
            have q5 : (e4 : Int) ≤ (s.size : Int) := by omega
            have hst : ParR s.data.toList e4 (done ++ [(nm, vl, true)]) := by
              obtain ⟨j, hj, hje⟩ := step_value _ e a e1 b p n e2 e3 HA.out HF.out.1 HF.out.2.1 HF.out.2.2.1 HF.out.2.2.2.1 HF.out.2.2.2.2 HE.out.2.2 HE.out.1 HQ.out.1 HQ.out.2.1 vl n3 (by rw [← hvl]; exact valP_tok _ _ HQ.out.2.2 hn30)
              have := HR.out.step hj
              rw [hje, HE.out.2.1, he4] at this
              exact this
            have HST := Lib.hid hst
            have hC4 := HC1.out.set1 (.string ⟨vl.toArray⟩)
            have hb4 : Below wr.heap.size wr (W1.setCell ⟨P, 1, none⟩ (.string ⟨vl.toArray⟩)) := HB1.out.setCell (p := ⟨P, 1, none⟩) (by rw [HP.out]; exact Nat.le_refl _) _
            obtain ⟨W, hW⟩ : ∃ W, W1.setCell ⟨P, 1, none⟩ (.string ⟨vl.toArray⟩) = W := ⟨_, rfl⟩
            rw [hW] at hC4 hb4
            have HOW := Lib.hid (own_later HO.out hb4)
            have HBW := Lib.hid (HB.out.trans (hb4.mono (bsz HB.out HL)))
            have HW := Lib.hid hW
            have HC4 := Lib.hid hC4
            clear hst he4 hvl hb4 hW hC4
            go_wp2_with fail
            refine (R1.out).mono ?_
            rintro e' wr ⟨rfl, rfl⟩
            go_wp2_with fail
            refine (R2.out).mono ?_
            rintro e' wr ⟨rfl, rfl⟩
            go_wp2_with fail
            refine (R3.out).mono ?_
            rintro e' wr ⟨rfl, rfl⟩

            obtain ⟨_, c0, c1, c2, z1, z2⟩ := HC.out
            go_upto_region 11 with fail
            rw [HP.out]
            go_upto_region 15 with fail
            rw [HW1.out]
            clear c0 c1 c2 z1 z2
            obtain ⟨_, c0, c1, c2, z1, z2⟩ := HC1.out
            go_wp2_with fail
            refine (R4.out).mono ?_
            rintro e' W1 ⟨rfl, rfl⟩
            go_upto_region 17 with fail
            rw [HW.out]
            clear c0 c1 c2 z1 z2
            obtain ⟨_, d0, d1, d2, _, _⟩ := HC4.out
            go_wp2_with (at_builtin; refine wpList_append_own _ rfl (.tmp 95) (.tmp 97) 37 rfl L 85 i0 (.agg #[.string ByteArray.empty, .string ByteArray.empty, .bool false]) 3 40 Tryz.underlying37 hi0 hz0 hz1 hz2 rfl (by decide) _ _ _ rfl (HOW.out.alloc _) ⟨W.heap.size, 0, none⟩ 1 1 [.string ⟨nm.toArray⟩, .string ⟨vl.toArray⟩, .bool true] rfl rfl (cells_new _ _ _) (by simp [Value.oneCell']) hbd.1 hbd.2 ?dd ?_)
            case dd => simp; exact Nat.le_trans (bsz HBW.out HL) (Nat.le_succ _)
            intro v1 w7 hI1 hg7 _
            have hb8 := (HBW.out.alloc (bsz HBW.out HL) _).grown hg7 (by simp; exact Nat.le_trans (bsz HBW.out HL) (Nat.le_succ _)) (fun j hj => (HOW.out.lt j hj).1)
            have HI1 := Lib.hid hI1; have HB8 := Lib.hid hb8
            clear hI1 hb8 hg7 d0 d1 d2
            go_wp2
            go_roundw
            case rel =>
              exact ⟨e4, done ++ [(nm, vl, true)], rfl, HST.out, by rw [List.length_append, parsV_snoc]; exact HI1.out, HB8.out⟩
            case measure => simp [intOf]; omega

        · have hst : ParR s.data.toList e2 (done ++ [(nm, [], false)]) := by
            obtain ⟨k, hk, hke⟩ := step_bare _ e a e1 b p n e2 HA.out HF.out.1 HF.out.2.1 HF.out.2.2.1 HF.out.2.2.2.1 HF.out.2.2.2.2 HE.out.2.2 HE.out.1 (by
              intro hc2
              obtain ⟨hl, hx⟩ := List.getElem?_eq_some_iff.1 hc2
              exact h61 ⟨by rw [size_list] at hl; exact hl, hx⟩)
            have := HR.out.step hk
            rw [hke, HE.out.2.1] at this
            exact this
          have HST := Lib.hid hst; clear hst
          have hcase : e2 = s.size ∨ ∃ (hlt : e2 < s.size) (c : UInt8), s[e2]'hlt = c ∧ c ≠ 61 := by
            by_cases hlt2 : e2 < s.size
            · exact Or.inr ⟨hlt2, _, rfl, fun e => h61 ⟨hlt2, e⟩⟩
            · exact Or.inl (by omega)
          clear h61
          obtain ⟨W, hW⟩ : ∃ W, wr.alloc (.cells #[.string ⟨nm.toArray⟩, .string ⟨#[]⟩, .bool false] 85) = W := ⟨_, rfl⟩
          have HOW := Lib.hid (hW ▸ HO.out.alloc (.cells #[.string ⟨nm.toArray⟩, .string ⟨#[]⟩, .bool false] 85))
          have HBW : Hid (Below L w W) := Lib.hid (hW ▸ HB.out.alloc (bsz HB.out HL) _)
          have HCW : Hid (C3 W P (.string ⟨nm.toArray⟩) (.string ⟨#[]⟩) (.bool false)) := Lib.hid (hW ▸ HC.out)
          have HW := Lib.hid hW
          clear hW
          rcases hcase with hE | ⟨hlt2, c2, hc2, hne2⟩
          · have q1 : ¬ (e2 : Int) < (s.size : Int) := by omega
            have hd : decide ((e2 : Int) < (s.size : Int)) = false := decide_eq_false q1
            clear hE
            go_wp2_with fail
            refine (R1.out).mono ?_
            rintro e' wr ⟨rfl, rfl⟩
            go_wp2_with fail
            refine (R2.out).mono ?_
            rintro e' wr ⟨rfl, rfl⟩
            go_wp2_with fail
            refine (R3.out).mono ?_
            rintro e' wr ⟨rfl, rfl⟩

            go_upto_region 23 with fail
            rw [HP.out, HW.out]
            obtain ⟨_, d0, d1, d2, _, _⟩ := HCW.out
            go_wp2_with (at_builtin; refine wpList_append_own _ rfl (.tmp 95) (.tmp 97) 37 rfl L 85 i0 (.agg #[.string ByteArray.empty, .string ByteArray.empty, .bool false]) 3 40 Tryz.underlying37 hi0 hz0 hz1 hz2 rfl (by decide) _ _ _ rfl (HOW.out.alloc _) ⟨W.heap.size, 0, none⟩ 1 1 [.string ⟨nm.toArray⟩, .string ⟨([] : List UInt8).toArray⟩, .bool false] rfl rfl (cells_new _ _ _) (by simp [Value.oneCell']) hbd.1 hbd.2 ?dd ?_)
            case dd => simp; exact Nat.le_trans (bsz HBW.out HL) (Nat.le_succ _)
            intro v1 w7 hI1 hg7 _
            have hb8 := (HBW.out.alloc (bsz HBW.out HL) _).grown hg7 (by simp; exact Nat.le_trans (bsz HBW.out HL) (Nat.le_succ _)) (fun j hj => (HOW.out.lt j hj).1)
            have HI1 := Lib.hid hI1; have HB8 := Lib.hid hb8
            clear hI1 hb8 hg7 d0 d1 d2
            go_wp2
            go_roundw
            case rel =>
              exact ⟨e2, done ++ [(nm, ([] : List UInt8), false)], rfl, HST.out, by rw [List.length_append, parsV_snoc]; exact HI1.out, HB8.out⟩
            case measure => simp [intOf]; omega

          · have q0 : (0 : Int) ≤ (e2 : Int) := Int.natCast_nonneg _
            have q1 : (e2 : Int) < (s.size : Int) := by omega
            obtain ⟨b1, b2⟩ := ne_u8o c2 61 (by decide) hne2
            go_wp2_with fail
            refine (R1.out).mono ?_
            rintro e' wr ⟨rfl, rfl⟩
            go_wp2_with fail
            refine (R2.out).mono ?_
            rintro e' wr ⟨rfl, rfl⟩
            go_wp2_with fail
            refine (R3.out).mono ?_
            rintro e' wr ⟨rfl, rfl⟩

            go_upto_region 23 with fail
            rw [HP.out, HW.out]
            obtain ⟨_, d0, d1, d2, _, _⟩ := HCW.out
            go_wp2_with (at_builtin; refine wpList_append_own _ rfl (.tmp 95) (.tmp 97) 37 rfl L 85 i0 (.agg #[.string ByteArray.empty, .string ByteArray.empty, .bool false]) 3 40 Tryz.underlying37 hi0 hz0 hz1 hz2 rfl (by decide) _ _ _ rfl (HOW.out.alloc _) ⟨W.heap.size, 0, none⟩ 1 1 [.string ⟨nm.toArray⟩, .string ⟨([] : List UInt8).toArray⟩, .bool false] rfl rfl (cells_new _ _ _) (by simp [Value.oneCell']) hbd.1 hbd.2 ?dd ?_)
            case dd => simp; exact Nat.le_trans (bsz HBW.out HL) (Nat.le_succ _)
            intro v1 w7 hI1 hg7 _
            have hb8 := (HBW.out.alloc (bsz HBW.out HL) _).grown hg7 (by simp; exact Nat.le_trans (bsz HBW.out HL) (Nat.le_succ _)) (fun j hj => (HOW.out.lt j hj).1)
            have HI1 := Lib.hid hI1; have HB8 := Lib.hid hb8
            clear hI1 hb8 hg7 d0 d1 d2
            go_wp2
            go_roundw
            case rel =>
              exact ⟨e2, done ++ [(nm, ([] : List UInt8), false)], rfl, HST.out, by rw [List.length_append, parsV_snoc]; exact HI1.out, HB8.out⟩
            case measure => simp [intOf]; omega
    · have hst : parStep (s.data.toList.drop e) = none := step_none _ e a HA.out (by
        intro hc
        obtain ⟨hl, hx⟩ := List.getElem?_eq_some_iff.1 hc
        exact h59 ⟨by rw [size_list] at hl; exact hl, hx⟩)
      have HD := Lib.hid (HR.out.stop hst)
      clear hst
      by_cases hlt : a < s.size
      · obtain ⟨c, hc⟩ : ∃ c, s[a]'hlt = c := ⟨_, rfl⟩
        have hne : c ≠ 59 := fun e => h59 ⟨hlt, by rw [hc]; exact e⟩
        obtain ⟨b1, b2⟩ := ne_u8o c 59 (by decide) hne
        have k0 : (0 : Int) ≤ (a : Int) := Int.natCast_nonneg _
        have k1 : (a : Int) < (s.size : Int) := by omega
        have k2 : ¬ (s.size : Int) ≤ (a : Int) := by omega
        have k3 : decide (s.size ≤ a) = false := decide_eq_false (by omega)
        clear h59 hne
        go_wp2_with fail
        refine (R1.out).mono ?_
        rintro e' wr ⟨rfl, rfl⟩
        go_wp2_with fail
        go_ret3
        unfold ParamsPost
        rw [HD.out, HL.out]
        exact ⟨_, rfl, HO.out, HB.out⟩
      · have k1 : (s.size : Int) ≤ (a : Int) := by omega
        clear h59
        go_wp2_with fail
        refine (R1.out).mono ?_
        rintro e' wr ⟨rfl, rfl⟩
        go_wp2
        go_ret3
        unfold ParamsPost
        rw [HD.out, HL.out]
        exact ⟨_, rfl, HO.out, HB.out⟩
end Go.Proofs.YtlfdeenekjklgaaGreatDoor
