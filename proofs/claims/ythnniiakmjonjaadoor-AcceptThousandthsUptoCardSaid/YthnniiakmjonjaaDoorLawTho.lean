/- The walk of turnpikelaw07.AcceptThousandths: true. Conditions: bytealg's MaxLen holds an int; octet.signs and strconv's table hold what the text lays. -/
import Derived.Test.YthnniiakmjonjaaDoorThoP
import Derived.Test.YthnniiakmjonjaaDoorAwake07
import Derived.Test.YthnniiakmjonjaaDoorLaidSg
import Derived.Test.YthnniiakmjonjaaDoorLaidPow7
namespace Go.Proofs.YthnniiakmjonjaaDoor
open Go.RowKit
set_option linter.unusedSimpArgs false
set_option linter.unusedVariables false
set_option maxRecDepth 1000000
theorem tho_len : ∀ n : Fin 1001, ((pqR (n.val : Int)).2 == 0 && decide ((pqR (n.val : Int)).1.length ≤ 5)) = true := by decide +kernel
theorem oqual_l (L : List UInt8) (x e : Nat) (hq : quR L = (x, e)) (m : Int) (w : World) (hl : L.length ≤ 5) (hm : w.cell? ⟨1, 0, none⟩ = some (.int .i64 m)) :
    Calls Tryd.prog 21 #[.string ⟨L.toArray⟩] w fun en w' => en = .returned (.tuple #[.int .i64 (x : Int), .int .i64 (e : Int)]) ∧ Below w.heap.size w w' := by
  have h := oqual_any ⟨L.toArray⟩ m w (by rw [size_mk]; omega) hm
  unfold QuPost at h
  rwa [show (⟨L.toArray⟩ : ByteArray).data.toList = L from rfl, hq] at h
set_option maxHeartbeats 4000000 in
theorem acceptThousandths_any (q : Int) (m : Int) (w : World) (hm : w.cell? ⟨1, 0, none⟩ = some (.int .i64 m)) (hg : SgAt w) (hp : PowAt w) :
    Calls Tryd.prog 16 #[.int .i64 q] w fun e w' => e = .returned (.bool true) ∧ Below w.heap.size w w' := by
  have h1 := oprq_any q w hp
  have h2 := fun w1 => rprq_any q w1
  have HMG := Lib.hid (And.intro hm hg)
  by_cases hb : q < 0 ∨ 1000 < q
  · have hR : pqR q = ([], 71) := by unfold pqR; rw [if_pos hb]
    rw [hR] at h1
    simp only [hR] at h2
    have H1 := Lib.hid h1; have H2 := Lib.hid h2
    have hw : q < 0 ∨ (0 ≤ q ∧ 1000 < q) := by omega
    clear hb h1 h2 hR hm hg hp
    rcases hw with k1 | ⟨k1, k2⟩
    all_goals
      go_enter Tryd.func16, Tryd.ntmps16
      go_wp2_with fail
      refine (H1.out).mono ?_
      rintro e w1 ⟨rfl, hb1⟩
      have HB1 := Lib.hid hb1
      clear hb1
      go_wp2_with fail
      refine (H2.out _).mono ?_
      rintro e w2 ⟨rfl, hb2⟩
      have HB2 := Lib.hid (HB1.out.trans (hb2.mono HB1.out.size))
      clear hb2
      go_wp2_with fail
      refine (awake07_any m _ (mx_later (B := 0) HMG.out.1 HB2.out) (HMG.out.2.below HB2.out)).mono ?_
      rintro e w3 ⟨rfl, hb3⟩
      have HB3 := Lib.hid (HB2.out.trans (hb3.mono HB2.out.size))
      clear hb3
      go_wp2
      go_ret
      exact ⟨by simp, HB3.out⟩
  · obtain ⟨n, rfl⟩ : ∃ n : Nat, q = (n : Int) := ⟨q.toNat, by omega⟩
    have hn : n < 1001 := by omega
    have a1 := tho_all ⟨n, hn⟩
    have a2 := tho_len ⟨n, hn⟩
    simp only [Bool.and_eq_true, beq_iff_eq, decide_eq_true_eq, Bool.not_eq_true', bne_iff_ne] at a1 a2
    obtain ⟨L, hL⟩ : ∃ L, (pqR (n : Int)).1 = L := ⟨_, rfl⟩
    have hR : pqR (n : Int) = (L, 0) := by rw [← hL, ← a2.1]
    rw [hL] at a1 a2
    rw [hR] at h1
    simp only [hR] at h2
    obtain ⟨b1, b2, b3⟩ := a1
    have b4 : ¬ L = [] := by intro e; rw [e] at b2; cases b2
    have hpos := List.length_pos_iff.2 b4
    obtain ⟨j, hj⟩ : ∃ j, L.length - 1 = j := ⟨_, rfl⟩
    have f1 : (L.length : Int) - 1 = (j : Int) := by omega
    have j0 : (0 : Int) ≤ (j : Int) := Int.natCast_nonneg _
    have j2 : (j : Int) ≤ (L.length : Int) := by omega
    have j3 : (L.length : Int) ≤ 5 := by have := a2.2; omega
    have j4 : (1 : Int) ≤ (L.length : Int) := by omega
    obtain ⟨S, hS⟩ : ∃ S, L.dropLast = S := ⟨_, rfl⟩
    have hxf := ext_front ⟨L.toArray⟩ j
    rw [show (⟨L.toArray⟩ : ByteArray).data.toList = L from rfl, show L.take j = S from by rw [← hS, List.dropLast_eq_take, hj]] at hxf
    obtain ⟨⟨x, e⟩, hx⟩ : ∃ r, quR S = r := ⟨_, rfl⟩
    rw [hS, hx] at b3
    have hSl : S.length ≤ 5 := by rw [← hS, List.length_dropLast]; have := a2.2; omega
    have hway : ((e : Int) != 0) = true ∨ (((e : Int) != 0) = false ∧ ((x : Int) != (n : Int)) = true) := by
      by_cases h : e = 0
      · refine Or.inr ⟨by simp; omega, ?_⟩
        have : x ≠ n := fun h' => b3 (by rw [h, h'])
        simp; omega
      · exact Or.inl (by simp; omega)
    have q1 := fun w1 h => oqual_l L n 0 b1 m w1 a2.2 h
    have q2 := fun w1 h => oqual_l S x e hx m w1 hSl h
    have H1 := Lib.hid h1; have H2 := Lib.hid h2; have H3 := Lib.hid q1; have H4 := Lib.hid q2
    clear hb h1 h2 hR hm hg hp q1 q2 hx hS hSl hj hL b1 b3 a2 hn hpos
    rcases hway with k1 | ⟨k1, k2⟩
    all_goals
      go_enter Tryd.func16, Tryd.ntmps16
      go_wp2_with fail
      refine (H1.out).mono ?_
      rintro en w1 ⟨rfl, hb1⟩
      have HB1 := Lib.hid hb1
      clear hb1
      go_wp2_with fail
      refine (H2.out _).mono ?_
      rintro en w2 ⟨rfl, hb2⟩
      have HB2 := Lib.hid (HB1.out.trans (hb2.mono HB1.out.size))
      clear hb2
      go_wp2_with fail
      refine (awake07_any m _ (mx_later (B := 0) HMG.out.1 HB2.out) (HMG.out.2.below HB2.out)).mono ?_
      rintro en w3 ⟨rfl, hb3⟩
      have HB3 := Lib.hid (HB2.out.trans (hb3.mono HB2.out.size))
      clear hb3
      go_wp2_with fail
      refine (H3.out _ (mx_later (B := 0) HMG.out.1 HB3.out)).mono ?_
      rintro en w4 ⟨rfl, hb4⟩
      have HB4 := Lib.hid (HB3.out.trans (hb4.mono HB3.out.size))
      clear hb4
      go_wp2_with fail
      refine (H4.out _ (mx_later (B := 0) HMG.out.1 HB4.out)).mono ?_
      rintro en w5 ⟨rfl, hb5⟩
      have HB5 := Lib.hid (HB4.out.trans (hb5.mono HB4.out.size))
      clear hb5
      go_wp2
      go_ret
      exact ⟨by simp, HB5.out⟩
theorem acceptThousandths_row (q : Int) (W : World) (hL : laidMetH Tryd.prog Rows.acceptThousandthsUptoRow.laid W) (hsh : W.ShapedOpen Tryd.prog) {H : Prop} (_ : H) :
    Calls Tryd.prog 16 #[.int .i64 q] W fun e W' => e = .returned (.bool true) ∧ Below W.heap.size W W' := by
  obtain ⟨m, hm⟩ := Tryd.laysM145.s1_3 W hsh
  exact acceptThousandths_any q m W hm (sg_of_laid (l := Rows.acceptThousandthsUptoRow.laid) (by simp [Rows.acceptThousandthsUptoRow]) hL) (pow_of_laid (l := Rows.acceptThousandthsUptoRow.laid) (by simp [Rows.acceptThousandthsUptoRow]) hL)
end Go.Proofs.YthnniiakmjonjaaDoor
