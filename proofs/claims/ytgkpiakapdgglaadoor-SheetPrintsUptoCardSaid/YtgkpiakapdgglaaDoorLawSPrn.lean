/- The walk of turnpikelaw15.SheetPrints: true. Conditions: at most 1048576 letters and pairs; bytealg's MaxLen holds an int. -/
import Derived.Test.YtgkpiakapdgglaaDoorKnown
import Derived.Test.YtgkpiakapdgglaaDoorLawPars
namespace Go.Proofs.YtgkpiakapdgglaaDoor
open Go.RowKit
set_option linter.unusedSimpArgs false
set_option linter.unusedVariables false
set_option maxRecDepth 1000000
theorem prn_len (l : List Par) : (prnP l).1.length ≤ 3 * totP l + 2 * l.length := by
  unfold prnP
  split
  · exact joinP_len l
  · simp
theorem prn_no (l : List Par) : (prnP l).2 = 0 ∨ (prnP l).2 = 150 := by
  unfold prnP; split <;> simp
set_option maxHeartbeats 2000000 in
theorem sheetPrints_any (v : Value) (l : List Par) (m : Int) (w : World) (hb : totP l + l.length ≤ 1048576) (h : ParsIn w v l) (hm : w.cell? ⟨1, 0, none⟩ = some (.int .i64 m)) :
    Calls Tryd.prog 4 #[v] w fun e w' => e = .returned (.bool true) ∧ Below w.heap.size w w' := by
  have hT : totP l ≤ 4294967296 := by omega
  have hN : l.length ≤ 4294967296 := by omega
  have hN2 : l.length ≤ 2199023255552 := by omega
  have hsz : (⟨(prnP l).1.toArray⟩ : ByteArray).size ≤ 2147483648 := by rw [size_l]; have := prn_len l; omega
  have hback := prs_prn l
  have hno := prn_no l
  go_enter Tryd.func4, Tryd.ntmps4
  go_wp2_with fail
  refine (known_any v l _ hN h).mono ?_
  rintro e w1 ⟨v2, rfl, ho, hb1⟩
  have h1 := h.below hb1
  have p1 := parsIn_own ho
  have hm1 := mx_later (B := 0) hm hb1
  clear ho
  go_wp2_with fail
  refine (sprint_any v l _ hT hN h1).mono ?_
  rintro e w2 ⟨rfl, hb2⟩
  have h2 := h1.below hb2
  have p2 := p1.below hb2
  have hm2 := mx_later (B := 0) hm1 hb2
  go_wp2_with fail
  refine (rprint_any v2 l _ hT hN p2).mono ?_
  rintro e w3 ⟨rfl, hb3⟩
  have h3 := h2.below hb3
  have p3 := p2.below hb3
  have hm3 := mx_later (B := 0) hm2 hb3
  generalize prnP l = q at *
  obtain ⟨t, n⟩ := q
  simp only at hsz hback hno
  have HA := Lib.hid (And.intro hsz (And.intro hback (And.intro h3 p3)))
  have HB := Lib.hid (And.intro hb1 (And.intro hb2 hb3))
  clear hsz hback h3 p3 h2 p2 h1 p1 hb1 hb2 hb3 hm hm1 hm2 h
  go_wp2_with fail
  refine (awake15_any m _ hm3).mono ?_
  rintro e w4 ⟨rfl, hb4⟩
  have hm4 := mx_later (B := 0) hm3 hb4
  have HB4 := Lib.hid hb4
  have HH := Lib.hid (And.intro (HA.out.2.2.1.below hb4) (HA.out.2.2.2.below hb4))
  clear hb4 hm3
  go_wp2_with fail
  refine (lawpars_any v v2 l _ hN2 HH.out.1 HH.out.2).mono ?_
  rintro e w5 ⟨rfl, hb5⟩
  have hm5 := mx_later (B := 0) hm4 hb5
  have HB5 := Lib.hid hb5
  have HP5 := Lib.hid (HH.out.2.below hb5)
  have b1 := HB.out.1
  have b2 := b1.trans (HB.out.2.1.mono b1.size)
  have b3 := b2.trans (HB.out.2.2.mono b2.size)
  have b4 := b3.trans (HB4.out.mono b3.size)
  have b5 := b4.trans (HB5.out.mono b4.size)
  have HBB := Lib.hid b5
  clear b1 b2 b3 b4 b5 hb5 hm4
  rcases hno with rfl | rfl
  · have hbk := HA.out.2.1 rfl
    have HBK := Lib.hid hbk
    clear hbk
    go_wp2_with fail
    refine (spairs_any ⟨t.toArray⟩ m _ HA.out.1 hm5).mono ?_
    rintro e w6 ⟨v3, rfl, ho6, hb6⟩
    rw [show (⟨t.toArray⟩ : ByteArray).data.toList = t from rfl, HBK.out] at ho6
    rw [show (⟨t.toArray⟩ : ByteArray).data.toList = t from rfl, HBK.out]
    have HO6 := Lib.hid (parsIn_own ho6)
    have HP6 := Lib.hid (HP5.out.below hb6)
    have HB6 := Lib.hid hb6
    clear ho6 hb6 hm5
    go_wp2_with fail
    refine (lawpars_any v3 v2 l _ hN2 HO6.out HP6.out).mono ?_
    rintro e w7 ⟨rfl, hb7⟩
    have HB7 := Lib.hid hb7
    clear hb7
    go_wp2
    go_ret
    have c6 := HBB.out.trans (HB6.out.mono HBB.out.size)
    exact ⟨rfl, c6.trans (HB7.out.mono c6.size)⟩
  · go_wp2
    go_ret
    exact ⟨rfl, HBB.out⟩
theorem sheetPrints_row (v : Value) (l : List Par) (W : World) {L : Prop} (hL : L) (hsh : W.ShapedOpen Tryd.prog) (hb : totP l + l.length ≤ 1048576) (h : ParsIn W v l) :
    Calls Tryd.prog 4 #[v] W fun e w' => e = .returned (.bool true) ∧ Below W.heap.size W w' := by
  obtain ⟨m, hm⟩ := Tryd.laysM144.s1_3 W hsh
  exact sheetPrints_any v l m W hb h hm
end Go.Proofs.YtgkpiakapdgglaaDoor
