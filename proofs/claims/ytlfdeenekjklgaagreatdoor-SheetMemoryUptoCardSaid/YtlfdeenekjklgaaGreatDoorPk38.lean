/- LawSIns, Keep, MemP, LawSPairs, ParIn, LawPars: texts of the seat, one behind the other (a claim holds at most sixty). Conditions: each theorem names its own. -/
import Derived.Test.YtlfdeenekjklgaaGreatDoorPa30
import Derived.Test.YtlfdeenekjklgaaGreatDoorPa37
import Derived.Test.YtlfdeenekjklgaaGreatDoorPk01
import Derived.Maps.AppendAt
import Derived.Laws.OwnMore
import Derived.Lib.ItoaNum
import Derived.Test.YtlfdeenekjklgaaGreatDoorPk27
import Derived.BigQuiet
import Derived.Deep.QuietTactic
namespace Go.Proofs.YtlfdeenekjklgaaGreatDoor
open Go.RowKit
set_option linter.unusedSimpArgs false
set_option linter.unusedVariables false
set_option maxRecDepth 1000000
theorem al_len (mk s : List UInt8) (most : Int) : ∀ (f : Nat) (done : List Prt) (o : Option Nat), (alF f mk s most done o).1.length ≤ done.length + f
  | 0, done, o => by simp [alF]
  | f + 1, done, none => by rw [al_none]; simp
  | f + 1, done, some a => by
    cases hb : bhd mk s (!done.isEmpty) a with
    | over => rw [al_over f mk s most done a hb]; simp only; omega
    | bad c q => rw [al_bad f mk s most done a c q hb]; simp
    | go q =>
      rw [al_go f mk s most done a q hb]
      split
      · simp
      · split
        · simp
        · split
          · simp
          · split
            · have := al_len mk s most f done none; omega
            · rename_i a2 _
              have := al_len mk s most f (done ++ [withB (hdF (s.length + 1) s q st00).1 (cutB s (hdF (s.length + 1) s q st00).2.1 a2)]) (some a2)
              rw [List.length_append, List.length_singleton] at this
              omega
theorem psR_len (b s : List UInt8) (most : Int) : (psR b s most).1.length ≤ s.length + 2 := by
  unfold psR
  split
  · simp
  · split
    · simp
    · have := al_len (45 :: 45 :: b) s most (s.length + 2) [] (fst9 (45 :: 45 :: b) s 0)
      simpa using this
theorem body_len (mk s : List UInt8) (p : Prt) (h : inOf mk s p) : p.body.length + 2 + mk.length ≤ s.length := by
  have h1 := h.1
  rw [contains_fnd] at h1
  obtain ⟨i, hi⟩ := Option.isSome_iff_exists.1 h1
  have := (fnd_spec _ _ _ hi).1
  rw [List.length_append] at this
  simp only [List.length_cons] at this
  omega
set_option maxHeartbeats 4000000 in
theorem sheetParses_any (b s : List UInt8) (most : Int) (m : Int) (w : World) (hT : b.length + s.length ≤ 1048576) (hg : SgAt w) (hE : ErrAt w) (hm : w.cell? ⟨2, 0, none⟩ = some (.int .i64 m)) :
    Calls Tryz.prog 3 #[.string ⟨b.toArray⟩, .string ⟨s.toArray⟩, .int .i64 most] w fun e w' => e = .returned (.bool true) ∧ Below w.heap.size w w' := by
  have hps := sparse_any b s most m w (by omega) (by omega) hm hg hE
  have hrp := fun W => rparse_any b s most W (by omega) (by omega)
  have hln := psR_len b s most
  obtain ⟨⟨l, a, c⟩, hR⟩ : ∃ R, psR b s most = R := ⟨_, rfl⟩
  rw [hR] at hps hln
  simp only [hR] at hrp
  unfold PsPost at hps
  unfold RPsPost at hrp
  simp only at hps hrp hln
  have HPS := Lib.hid hps; have HRP := Lib.hid hrp
  have haw := fun W (hW : Below w.heap.size w W) => awake15_any m W (mx_later (B := 0) hm hW)
  have hlp := fun v1 v2 W (h1 : PrtsIn W v1 l) (h2 : PrtsIn W v2 l) => lawprts_any v1 v2 l W (by omega) h1 h2
  have HAW := Lib.hid haw; have HLP := Lib.hid hlp
  clear hps hrp hln hR haw hlp hT hg hE hm
  go_enter Tryz.func3, Tryz.ntmps3
  go_wp2_with fail
  refine HPS.out.mono ?_
  rintro e w1 ⟨v1, rfl, ho1, hb1⟩
  have H1 := Lib.hid (And.intro (prtsIn_own ho1) hb1)
  clear ho1 hb1
  go_wp2_with fail
  refine (HRP.out w1).mono ?_
  rintro e w2 ⟨v2, rfl, ho2, hb2⟩
  have H2 := Lib.hid (And.intro (H1.out.1.below hb2) (And.intro ho2 (H1.out.2.trans (hb2.mono H1.out.2.size))))
  clear ho2 hb2 H1
  go_wp2_with fail
  refine (HAW.out w2 H2.out.2.2).mono ?_
  rintro e w3 ⟨rfl, hb3⟩
  have H3 := Lib.hid (And.intro (H2.out.1.below hb3) (And.intro (H2.out.2.1.below hb3) (H2.out.2.2.trans (hb3.mono H2.out.2.2.size))))
  clear hb3 H2
  go_wp2_with fail
  refine (HLP.out v1 v2 w3 H3.out.1 H3.out.2.1).mono ?_
  rintro e w4 ⟨rfl, hb4⟩
  have HB4 := Lib.hid (H3.out.2.2.trans (hb4.mono H3.out.2.2.size))
  clear hb4 H3
  go_wp2
  go_ret
  exact ⟨by simp, HB4.out⟩
set_option maxHeartbeats 4000000 in
theorem sheetInside_any (b s : List UInt8) (most : Int) (m : Int) (w : World) (hT : b.length + s.length ≤ 1048576) (hg : SgAt w) (hE : ErrAt w) (hm : w.cell? ⟨2, 0, none⟩ = some (.int .i64 m)) :
    Calls Tryz.prog 4 #[.string ⟨b.toArray⟩, .string ⟨s.toArray⟩, .int .i64 most] w fun e w' => e = .returned (.bool true) ∧ Below w.heap.size w w' := by
  have hps := sparse_any b s most m w (by omega) (by omega) hm hg hE
  have hrp := fun W => rparse_any b s most W (by omega) (by omega)
  have hln := psR_len b s most
  have hkn := psR_known b s most
  obtain ⟨⟨l, a, c⟩, hR⟩ : ∃ R, psR b s most = R := ⟨_, rfl⟩
  rw [hR] at hps hln hkn
  simp only [hR] at hrp
  unfold PsPost at hps
  unfold RPsPost at hrp
  simp only at hps hrp hln hkn
  have HPS := Lib.hid hps; have HRP := Lib.hid hrp; have HKN := Lib.hid hkn
  have haw := fun W (hW : Below w.heap.size w W) => awake15_any m W (mx_later (B := 0) hm hW)
  have HAW := Lib.hid haw
  have HT := Lib.hid (And.intro hT hln)
  have hbz : (⟨b.toArray⟩ : ByteArray).size = b.length := size_mk b
  clear hps hrp hln hkn hR haw hT hg hE hm
  go_enter Tryz.func4, Tryz.ntmps4
  go_wp2_with fail
  refine HPS.out.mono ?_
  rintro e w1 ⟨v1, rfl, ho1, hb1⟩
  obtain ⟨av, cv, rfl⟩ := own_slice ho1
  have H1 := Lib.hid (And.intro (prtsIn_own ho1) hb1)
  clear ho1 hb1
  by_cases hc : c = 0
  · subst hc
    have hk : a = 0 ∧ l ≠ [] ∧ (l.length : Int) ≤ most ∧ ∀ p ∈ l, inOf (45 :: 45 :: b) s p := by
      rcases HKN.out with h | h
      · exact absurd rfl h.1
      · exact h.2
    have HK := Lib.hid hk.2
    have hlp := List.length_pos_iff.2 hk.2.1
    have g0 : decide ((l.length : Int) < 1) = false := decide_eq_false (by omega)
    have g00 : decide (l.length < 1) = false := decide_eq_false (by omega)
    have g1 : decide (most < (l.length : Int)) = false := decide_eq_false (by omega)
    clear hk hlp
    have hsd := fun (A B : List UInt8) W (hA : A.length ≤ 1073741824) (hB : B.length ≤ 1073741824) => stands_any2 ⟨A.toArray⟩ ⟨B.toArray⟩ W (by rw [size_mk]; exact hA) (by rw [size_mk]; exact hB)
    have HSD := Lib.hid hsd
    clear hsd
    have e3 : (⟨#[13, 10, 45, 45]⟩ : ByteArray) ++ (⟨b.toArray⟩ : ByteArray) = ⟨(13 :: 10 :: 45 :: 45 :: b).toArray⟩ := ba_ext (by simp)
    have l3 : ¬ 9223372036854775807 < 4 + b.length := nof _ _ (by omega) (by have := HT.out.1; omega)
    obtain ⟨cm, hcm⟩ : ∃ cm, 13 :: 10 :: 45 :: 45 :: b = cm := ⟨_, rfl⟩
    rw [hcm] at e3
    have HCM := Lib.hid hcm
    clear hcm
    go_wp2
    go_loopw [13] (fun iv wr => ∃ i : Nat, iv = .int .i64 (i : Int) ∧ i ≤ l.length ∧ wr = w1) (fun iv _ => l.length - (intOf iv).toNat)
    case atStart => exact ⟨0, rfl, Nat.zero_le _, rfl⟩
    case round =>
      obtain ⟨i, rfl, hi, rfl⟩ := hrel
      by_cases hlt : i < l.length
      · obtain ⟨p, hp⟩ : ∃ p, l[i]? = some p := ⟨_, List.getElem?_eq_getElem hlt⟩
        have hin := HK.out.2.2 p (List.mem_of_getElem? hp)
        have hbl := body_len _ s p hin
        have hat := H1.out.1
        obtain ⟨ao', cap', hv, hat⟩ := hat
        injection hv with hv1 hv2 hv3
        subst hv1; subst hv3
        obtain ⟨g, o, rfl, c0, c1, c2, c3, c4, _⟩ := hat i p hp
        have k0 : (0 : Int) ≤ (i : Int) := Int.natCast_nonneg _
        have k1 : (i : Int) < (l.length : Int) := by omega
        have hpz : (⟨p.body.toArray⟩ : ByteArray).size = p.body.length := size_mk _
        obtain ⟨T1, hT1⟩ : ∃ T1, p.body ++ [13, 10, 45, 45] = T1 := ⟨_, rfl⟩
        obtain ⟨T2, hT2⟩ : ∃ T2, T1 ++ b = T2 := ⟨_, rfl⟩
        have e1 : (⟨p.body.toArray⟩ : ByteArray) ++ (⟨#[13, 10, 45, 45]⟩ : ByteArray) = ⟨T1.toArray⟩ := by rw [← hT1]; exact cat_ll _ _
        have e2 : (⟨T1.toArray⟩ : ByteArray) ++ (⟨b.toArray⟩ : ByteArray) = ⟨T2.toArray⟩ := by rw [← hT2]; exact cat_ll _ _
        have z1 : T1.length = p.body.length + 4 := by rw [← hT1, List.length_append]; rfl
        have z2 : T2.length = T1.length + b.length := by rw [← hT2, List.length_append]
        have l1 : ¬ 9223372036854775807 < p.body.length + 4 := nof _ _ (by have := HT.out.1; omega) (by omega)
        have l2 : ¬ 9223372036854775807 < T1.length + b.length := nof _ _ (by have := HT.out.1; omega) (by have := HT.out.1; omega)
        have hs1 : Calls Tryz.prog 12 #[.string ⟨s.toArray⟩, .string ⟨T2.toArray⟩] wr fun e w' => e = .returned (.bool (Lib.contains s T2)) ∧ w' = wr := HSD.out s T2 wr (by have := HT.out.1; omega) (by have := HT.out.1; omega)
        have hs2 : Calls Tryz.prog 12 #[.string ⟨p.body.toArray⟩, .string ⟨cm.toArray⟩] wr fun e w' => e = .returned (.bool (Lib.contains p.body cm)) ∧ w' = wr := HSD.out p.body cm wr (by have := HT.out.1; omega) (by rw [← HCM.out]; simp only [List.length_cons]; have := HT.out.1; omega)
        have hi1 : Lib.contains s T2 = true := by rw [show T2 = p.body ++ 13 :: 10 :: 45 :: 45 :: b by rw [← hT2, ← hT1]; simp]; exact hin.1
        have hi2 : Lib.contains p.body cm = false := by rw [← HCM.out]; exact hin.2
        rw [hi1] at hs1
        rw [hi2] at hs2
        have HS1 := Lib.hid hs1; have HS2 := Lib.hid hs2
        have hwi := w64i ((i : Int) + 1) (by omega) (by have := HT.out; omega)
        have HW := Lib.hid hwi.1
        clear hp hin hbl hT1 hT2 z1 z2 hs1 hs2 hi1 hi2 hwi hat c0 c1 c2 c4
        go_wp2_with fail
        refine HS1.out.mono ?_
        rintro e wz ⟨rfl, hwz⟩
        rw [hwz]
        clear hwz
        go_wp2_with fail
        refine HS2.out.mono ?_
        rintro e wz ⟨rfl, hwz⟩
        rw [hwz]
        clear hwz
        go_wp2
        have hwi := HW.out
        go_roundw
        case rel =>
          (try rw [hwi]); clear hwi
          exact ⟨i + 1, by go_num, by omega, by first | rfl | trivial⟩
        case measure => (try rw [hwi]); clear hwi; simp [intOf]; omega
      · obtain rfl : i = l.length := by omega
        have hd : decide (l.length < l.length) = false := decide_eq_false (Nat.lt_irrefl _)
        go_wp2_with fail
        refine (HAW.out wr H1.out.2).mono ?_
        rintro e w3 ⟨rfl, hb3⟩
        have HB3 := Lib.hid (H1.out.2.trans (hb3.mono H1.out.2.size))
        clear hb3
        go_wp2
        go_ret
        exact ⟨rfl, HB3.out⟩
  · have n1 : ((c : Nat) : Int) ≠ 0 := by omega
    have n2 : (((c : Nat) : Int) == 0) = false := beq_false_of_ne n1
    have n3 : (((c : Nat) : Int) != 0) = true := by simpa using hc
    have hl : l = [] := by
      rcases HKN.out with h | h
      · exact h.2
      · exact absurd h.1 hc
    subst hl
    clear hc
    go_wp2_with fail
    refine (HRP.out w1).mono ?_
    rintro e w2 ⟨v2, rfl, ho2, hb2⟩
    have HB2 := Lib.hid (H1.out.2.trans (hb2.mono H1.out.2.size))
    clear ho2 hb2
    go_wp2_with fail
    refine (HAW.out w2 HB2.out).mono ?_
    rintro e w3 ⟨rfl, hb3⟩
    have HB3 := Lib.hid (HB2.out.trans (hb3.mono HB2.out.size))
    clear hb3
    go_wp2
    go_ret
    exact ⟨by simp, HB3.out⟩
theorem sheetParses_row (a c : ByteArray) (z : Int) (W : World) (hL : laidMetH Tryz.prog Rows.sheetParsesUptoRow.laid W) (hsh : W.ShapedOpen Tryz.prog) (hs : a.size + c.size ≤ 1048576) :
    Calls Tryz.prog 3 #[.string a, .string c, .int .i64 z] W fun e w' => e = .returned (.bool true) ∧ Below W.heap.size W w' := by
  obtain ⟨m, hm⟩ := Tryz.laysM144.s1_3 W hsh
  have hl : laidMet Tryz.prog (Rows.sheetParsesUptoRow.laid.filter fun x => x.2.handleName?.isNone) W := hL.1
  have hh : handlesMet Tryz.prog _ W := hL.2
  have ha : a.data.toList.length = a.size := Array.length_toList
  have hc : c.data.toList.length = c.size := Array.length_toList
  have := sheetParses_any a.data.toList c.data.toList z m W (by omega) (sg_of_laid (mem_laid 1 (by kernel_rfl)) hl) (err_of_laid (mem_laid 0 (by kernel_rfl)) hh) hm
  rw [str_eqq a, str_eqq c] at this
  exact this
theorem sheetInside_row (a c : ByteArray) (z : Int) (W : World) (hL : laidMetH Tryz.prog Rows.sheetInsideUptoRow.laid W) (hsh : W.ShapedOpen Tryz.prog) (hs : a.size + c.size ≤ 1048576) :
    Calls Tryz.prog 4 #[.string a, .string c, .int .i64 z] W fun e w' => e = .returned (.bool true) ∧ Below W.heap.size W w' := by
  obtain ⟨m, hm⟩ := Tryz.laysM144.s1_3 W hsh
  have hl : laidMet Tryz.prog (Rows.sheetInsideUptoRow.laid.filter fun x => x.2.handleName?.isNone) W := hL.1
  have hh : handlesMet Tryz.prog _ W := hL.2
  have ha : a.data.toList.length = a.size := Array.length_toList
  have hc : c.data.toList.length = c.size := Array.length_toList
  have := sheetInside_any a.data.toList c.data.toList z m W (by omega) (sg_of_laid (mem_laid 1 (by kernel_rfl)) hl) (err_of_laid (mem_laid 0 (by kernel_rfl)) hh) hm
  rw [str_eqq a, str_eqq c] at this
  exact this
end Go.Proofs.YtlfdeenekjklgaaGreatDoor
namespace Go.Proofs.YtlfdeenekjklgaaGreatDoor
open Go.RowKit
set_option linter.unusedSimpArgs false
set_option linter.unusedVariables false
/-- A slice that begins the row of another one, or lies elsewhere, holds after an append onto that other one what it held. -/
theorem append_keep {P : Program} (w : World) (base : Nat) (t ty e : TypeId) (i : TypeInfo) (z : Value) (size bytes : Nat) (ht : P.underlying t = some (.slice e)) (hi : P.info? e = some i) (hz : i.zero = some z)
    (hsize : i.size = size) (hby : i.bytes = bytes) (hzs : z.cells.size = size) (hsz : 0 < size)
    (v : Value) (n : Nat) (xs : List Value) (hown : w.ownsRow base e size v n xs)
    (a : Addr) (m c : Nat) (news : List Value) (hl : news.length = m * size) (hnews : ∀ j u, news[j]? = some u → w.cell? (a.add j) = some u) (h1 : ∀ u ∈ news, u.oneCell' = true)
    (h63 : n + m ≤ maxLen) (hbytes : (n + m) * bytes ≤ 140737488355328) (hbase : base ≤ w.heap.size) :
    ∃ v' w', (Builtin.append_ #[t, t] ty #[v, .slice (some a) m c]).run P w = .ok v' w' ∧ w'.ownsRow base e size v' (n + m) (xs ++ news) ∧ w.grownBy w' v.ownBlock ∧ (v'.ownBlock = v.ownBlock ∨ v'.ownBlock = some w.heap.size) ∧
      ∀ b0 v0 n0 xs0, w.ownsRow b0 e size v0 n0 xs0 → (v0.ownBlock = v.ownBlock → n0 ≤ n) → w'.ownsRow b0 e size v0 n0 xs0 := by
  obtain ⟨v', w', hr, h2, h3, h4, h5⟩ := run_append_own_at (P := P) w base t ty e i z size bytes ht hi hz hsize hby hzs hsz v n xs hown a m c news hl hnews h1 h63 hbytes hbase
  refine ⟨v', w', hr, h2, h3, h5, fun b0 v0 n0 xs0 h0 hn => ?_⟩
  by_cases hne : v0.ownBlock = none ∨ v0.ownBlock ≠ v.ownBlock
  · exact h0.kept h3 hne
  · have hne1 : v0.ownBlock ≠ none := fun e => hne (.inl e)
    have hne2 : v0.ownBlock = v.ownBlock := Classical.byContradiction fun e => hne (.inr e)
    have hn0 := hn hne2
    rcases hown.2 with ⟨rfl, _⟩ | ⟨g, cap, cur, rfl, hbg, hg, hnc, hcm, hcs, htake⟩
    · exact absurd (by rw [hne2]; rfl) hne1
    · by_cases hroom : n + m ≤ cap
      · have hfit : n * i.size + news.length ≤ cur.size := by rw [hl, hcs, ← hsize, ← Nat.add_mul]; exact Nat.mul_le_mul_right _ hroom
        have hr2 := run_append_room (P := P) w t ty e i ht hi g n cap cur hg a m c news (by rw [hsize]; exact hl) hnews h1 hroom hfit
        rw [hr2] at hr
        injection hr with hv hw
        subst hw
        have hh := setRow_heap w g cur (cur.toList.take (n * i.size) ++ news ++ cur.toList.drop (n * i.size + news.length)).toArray e (0, 0) hg
        refine ⟨h0.1, ?_⟩
        rcases h0.2 with h00 | ⟨g0, cap0, cur0, hv0, hb0, hg0, hnc0, hcm0, hcs0, htake0⟩
        · exact .inl h00
        · rw [hv0] at hne2
          obtain rfl : g0 = g := by simpa [Value.ownBlock] using hne2
          rw [hg] at hg0
          injection hg0 with hg0
          injection hg0 with hg0
          subst hg0
          refine .inr ⟨g0, cap0, _, hv0, hb0, hh, hnc0, hcm0, ?_, ?_⟩
          · simp only [List.size_toArray, List.length_append, List.length_take, List.length_drop, Array.length_toList]
            omega
          · rw [← htake0]
            have hle : n0 * size ≤ n * i.size := by rw [hsize]; exact Nat.mul_le_mul_right _ hn0
            have hlt : (cur.toList.take (n * i.size)).length = n * i.size := by rw [List.length_take, Array.length_toList]; omega
            show List.take (n0 * size) (List.take (n * i.size) cur.toList ++ news ++ List.drop (n * i.size + news.length) cur.toList) = _
            rw [List.append_assoc, List.take_append_of_le_length (by rw [hlt]; exact hle), List.take_take, Nat.min_eq_left hle]
      · have holds : ∀ j u, xs[j]? = some u → w.cell? ((⟨g, 0, none⟩ : Addr).add j) = some u := hown.cells (g := g) rfl
        have hr2 := run_append_grow (P := P) w t ty e i z ht hi hz ⟨g, 0, none⟩ n cap xs (by rw [hsize]; exact hown.1) holds a m c news (by rw [hsize]; exact hl) hnews (by omega) (by have := h63; simp only [maxLen] at this; omega) (growslice_fits (by omega) (by rw [hby]; exact hbytes))
        rw [hr2] at hr
        injection hr with hv hw
        subst hw
        exact h0.kept (row := none) ⟨rfl, rfl, rfl, by simp, fun k hk _ => heap_alloc_old w.drew _ hk⟩ (by
          right; exact hne1)
theorem wpList_append_keep {P : Program} {w : World} {ops : Array Oper} {rest : List Oper} {o : Oper} {a : Act} {Q : Exit → Act → World → Prop} (hgd : o.guard = none) (s x : Operand) (t : TypeId)
    (ho : o.op = .call { callee := .builtin .append, args := #[s, x], argTypes := #[t, t] })
    (base : Nat) (e : TypeId) (i : TypeInfo) (z : Value) (size bytes : Nat) (ht : P.underlying t = some (.slice e)) (hi : P.info? e = some i) (hz : i.zero = some z)
    (hsize : i.size = size) (hby : i.bytes = bytes) (hzs : z.cells.size = size) (hsz : 0 < size)
    (v : Value) (n : Nat) (xs : List Value) (hs : a.eval s = v) (hown : w.ownsRow base e size v n xs)
    (ad : Addr) (m c : Nat) (news : List Value) (hx : a.eval x = .slice (some ad) m c) (hl : news.length = m * size) (hnews : ∀ j u, news[j]? = some u → w.cell? (ad.add j) = some u) (h1 : ∀ u ∈ news, u.oneCell' = true)
    (h63 : n + m ≤ maxLen) (hbytes : (n + m) * bytes ≤ 140737488355328) (hbase : base ≤ w.heap.size)
    (h : ∀ v' w', w'.ownsRow base e size v' (n + m) (xs ++ news) → w.grownBy w' v.ownBlock → (v'.ownBlock = v.ownBlock ∨ v'.ownBlock = some w.heap.size) → (∀ b0 v0 n0 xs0, w.ownsRow b0 e size v0 n0 xs0 → (v0.ownBlock = v.ownBlock → n0 ≤ n) → w'.ownsRow b0 e size v0 n0 xs0) → wpList P ops Q rest (a.put o.dst v') w') :
    wpList P ops Q (o :: rest) a w := by
  refine wpList_plain hgd fun K hK => ?_
  obtain ⟨v', w', hr, h2, h3, h4, h5⟩ := append_keep (P := P) w base t o.type e i z size bytes ht hi hz hsize hby hzs hsz v n xs hown ad m c news hl hnews h1 h63 hbytes hbase
  unfold Oper.wp execOp
  simp only [ho, resolve, invoke, builtin, Sem.run_bind, Sem.run_pure, Result.andThen_ok, List.map_toArray, List.map_cons, List.map_nil, hs, hx, hr]
  exact hK _ _ (h v' w' h2 h3 h4 h5)
/-- Rows of unlike types do not share a block. -/
theorem own_ne {w : World} {b b' n n' k k' : Nat} {T T' : TypeId} {v v' : Value} {xs xs' : List Value} (h : w.ownsRow b T k v n xs) (h' : w.ownsRow b' T' k' v' n' xs') (hne : T ≠ T') : v.ownBlock = none ∨ v.ownBlock ≠ v'.ownBlock := by
  rcases h.2 with ⟨rfl, _⟩ | ⟨g, cap, cur, rfl, _, hg, _⟩
  · exact .inl rfl
  · right
    rcases h'.2 with ⟨rfl, _⟩ | ⟨g', cap', cur', rfl, _, hg', _⟩
    · simp [Value.ownBlock]
    · intro e
      obtain rfl : g = g' := by simpa [Value.ownBlock] using e
      rw [hg] at hg'
      injection hg' with hg'
      injection hg' with _ hg' _
      exact hne hg'
end Go.Proofs.YtlfdeenekjklgaaGreatDoor
namespace Go.Proofs.YtlfdeenekjklgaaGreatDoor
open Go.RowKit
set_option linter.unusedSimpArgs false
set_option linter.unusedVariables false
/-- Slices with their lengths. -/
abbrev VL := List (Value × Nat)
/-- The mark of a place: "mark" and its number. -/
def mkB (k : Nat) : List UInt8 := [109, 97, 114, 107] ++ Lib.decDigits k
/-- No two of them lie in one block. -/
def ApartL (vs : VL) : Prop := ∀ (k k' : Nat) (p p' : Value × Nat), vs[k]? = some p → vs[k']? = some p' → k ≠ k' → p.1.ownBlock = none ∨ p.1.ownBlock ≠ p'.1.ownBlock
/-- Each is a row of the call's own; those ahead of list i are marked, of list i the first j elements. -/
def MRows (W : World) (L : Nat) (T : TypeId) (s : Nat) (vs : VL) (i j : Nat) : Prop := ∀ (k : Nat) (p : Value × Nat), vs[k]? = some p → ∃ xs, W.ownsRow L T s p.1 p.2 xs ∧ ∀ q, q < p.2 → (k < i ∨ (k = i ∧ q < j)) → xs[q * s]? = some (.string ⟨(mkB (100 * k + q)).toArray⟩)
theorem MRows.kept {W W' : World} {L s i j : Nat} {T : TypeId} {vs : VL} {row : Option Nat} (h : MRows W L T s vs i j) (hg : W.grownBy W' row) (hne : ∀ (k : Nat) (p : Value × Nat), vs[k]? = some p → p.1.ownBlock = none ∨ p.1.ownBlock ≠ row) : MRows W' L T s vs i j := fun k p hp => by
  obtain ⟨xs, h1, h2⟩ := h k p hp
  exact ⟨xs, h1.kept hg (hne k p hp), h2⟩
theorem MRows.below {W W' : World} {L s i j : Nat} {T : TypeId} {vs : VL} (h : MRows W L T s vs i j) (hb : Below W.heap.size W W') : MRows W' L T s vs i j := fun k p hp => by
  obtain ⟨xs, h1, h2⟩ := h k p hp
  exact ⟨xs, own_later h1 hb, h2⟩
theorem MRows.next {W : World} {L s i j : Nat} {T : TypeId} {vs : VL} (h : MRows W L T s vs i j) (p : Value × Nat) (hp : vs[i]? = some p) (hj : p.2 ≤ j) : MRows W L T s vs (i + 1) 0 := fun k p' hp' => by
  obtain ⟨xs, h1, h2⟩ := h k p' hp'
  refine ⟨xs, h1, fun q hq hc => h2 q hq ?_⟩
  by_cases hk : k = i
  · subst hk
    rw [hp] at hp'
    injection hp' with hp'
    subst hp'
    exact .inr ⟨rfl, by omega⟩
  · exact .inl (by omega)
theorem MRows.row {W : World} {L s i j : Nat} {T : TypeId} {vs : VL} (h : MRows W L T s vs i j) (k : Nat) (p : Value × Nat) (hp : vs[k]? = some p) : ∃ xs, W.ownsRow L T s p.1 p.2 xs := by
  obtain ⟨xs, h1, _⟩ := h k p hp
  exact ⟨xs, h1⟩
theorem MRows.append {W : World} {L s : Nat} {T : TypeId} {vs : VL} (h : MRows W L T s vs 0 0) (v : Value) (n : Nat) (xs : List Value) (hv : W.ownsRow L T s v n xs) : MRows W L T s (vs ++ [(v, n)]) 0 0 := fun k p hp => by
  rw [List.getElem?_append] at hp
  split at hp
  · exact h k p hp
  · have hk : k - vs.length = 0 := by
      have := (List.getElem?_eq_some_iff.1 hp).1
      simpa using this
    rw [hk] at hp
    obtain rfl : (v, n) = p := by simpa using hp
    exact ⟨xs, hv, fun q _ hc => by omega⟩
theorem mRows_nil (W : World) (L s : Nat) (T : TypeId) : MRows W L T s [] 0 0 := fun k p hp => by simp at hp
theorem ApartL.append {W : World} {L s : Nat} {T : TypeId} {vs : VL} (h : ApartL vs) (hr : MRows W L T s vs 0 0) (v : Value) (n B : Nat) (hB : W.heap.size ≤ B) (hv : ∀ b, v.ownBlock = some b → B ≤ b) : ApartL (vs ++ [(v, n)]) := by
  have hlt : ∀ (k : Nat) (p : Value × Nat), vs[k]? = some p → ∀ b, p.1.ownBlock = some b → b < W.heap.size := fun k p hp b hb => by
    obtain ⟨xs, h1⟩ := hr.row k p hp
    exact (h1.lt b hb).2
  have hlast : ∀ (k : Nat) (p : Value × Nat), (vs ++ [(v, n)])[k]? = some p → vs[k]? = some p ∨ (k = vs.length ∧ p = (v, n)) := fun k p hp => by
    rw [List.getElem?_append] at hp
    split at hp
    · exact .inl hp
    · have hk : k - vs.length = 0 := by
        have := (List.getElem?_eq_some_iff.1 hp).1
        simpa using this
      rw [hk] at hp
      exact .inr ⟨by omega, by simpa using hp.symm⟩
  intro k k' p p' hp hp' hne
  rcases hlast k p hp with h1 | ⟨h1, rfl⟩
  · rcases hlast k' p' hp' with h2 | ⟨h2, rfl⟩
    · exact h k k' p p' h1 h2 hne
    · cases hb : p.1.ownBlock with
      | none => exact .inl rfl
      | some b =>
        right
        intro e
        have := hlt k p h1 b hb
        have := hv b e.symm
        omega
  · rcases hlast k' p' hp' with h2 | ⟨h2, rfl⟩
    · cases hb : v.ownBlock with
      | none => exact .inl rfl
      | some b =>
        right
        intro e
        have := hlt k' p' h2 b e.symm
        have := hv b hb
        omega
    · omega
theorem apartL_nil : ApartL [] := fun k k' p p' hp => by simp at hp
/-- An element of list i is written over: first its name with its mark, then what follows. -/
theorem MRows.mark {W W' : World} {L s i j : Nat} {T : TypeId} {vs : VL} {g c n : Nat} (h : MRows W L T s vs i j) (hA : ApartL vs) (hp : vs[i]? = some (.slice (some ⟨g, 0, none⟩) n c, n)) (hj : j < n) (hs : 0 < s)
    (hst : ∀ xs, W.ownsRow L T s (.slice (some ⟨g, 0, none⟩) n c) n xs → ∃ ys, W'.ownsRow L T s (.slice (some ⟨g, 0, none⟩) n c) n ys ∧ (∀ q, q < j → ys[q * s]? = xs[q * s]?) ∧ (j * s < xs.length → ys[j * s]? = some (.string ⟨(mkB (100 * i + j)).toArray⟩))) (hg : W.grownBy W' (some g)) : MRows W' L T s vs i (j + 1) := fun k p hk => by
  obtain ⟨xs, h1, h2⟩ := h k p hk
  by_cases hki : k = i
  · subst hki
    rw [hp] at hk
    injection hk with hk
    subst hk
    obtain ⟨ys, h3, h4, h5⟩ := hst xs h1
    refine ⟨ys, h3, fun q hq hc => ?_⟩
    by_cases hqj : q = j
    · subst hqj
      refine h5 ?_
      rw [h1.1]
      exact Nat.mul_lt_mul_of_pos_right hj hs
    · rw [h4 q (by omega)]
      exact h2 q hq (by omega)
  · refine ⟨xs, h1.kept hg ?_, fun q hq hc => h2 q hq (by omega)⟩
    exact hA k i p _ hk hp hki
theorem set3 {W : World} {L j c g n : Nat} {T : TypeId} (a u1 u2 : Value) (xs : List Value) (h : W.ownsRow L T 3 (.slice (some ⟨g, 0, none⟩) n c) n xs) :
    ∃ ys, (((W.setCell ⟨g, j * 3, none⟩ a).setCell ⟨g, j * 3 + 1, none⟩ u1).setCell ⟨g, j * 3 + 2, none⟩ u2).ownsRow L T 3 (.slice (some ⟨g, 0, none⟩) n c) n ys ∧ (∀ q, q < j → ys[q * 3]? = xs[q * 3]?) ∧ (j * 3 < xs.length → ys[j * 3]? = some a) := by
  have h1 := (h.stored (j * 3) a).1
  have h2 := (h1.stored (j * 3 + 1) u1).1
  have h3 := (h2.stored (j * 3 + 2) u2).1
  refine ⟨_, h3, fun q hq => ?_, fun hl => ?_⟩
  · rw [List.getElem?_set_ne (by omega), List.getElem?_set_ne (by omega), List.getElem?_set_ne (by omega)]
  · rw [List.getElem?_set_ne (by omega), List.getElem?_set_ne (by omega), List.getElem?_set_self hl]
theorem set5 {W : World} {L j c g n : Nat} {T : TypeId} (a u1 u2 u3 u4 : Value) (xs : List Value) (h : W.ownsRow L T 5 (.slice (some ⟨g, 0, none⟩) n c) n xs) :
    ∃ ys, (((((W.setCell ⟨g, j * 5, none⟩ a).setCell ⟨g, j * 5 + 1, none⟩ u1).setCell ⟨g, j * 5 + 2, none⟩ u2).setCell ⟨g, j * 5 + 3, none⟩ u3).setCell ⟨g, j * 5 + 4, none⟩ u4).ownsRow L T 5 (.slice (some ⟨g, 0, none⟩) n c) n ys ∧ (∀ q, q < j → ys[q * 5]? = xs[q * 5]?) ∧ (j * 5 < xs.length → ys[j * 5]? = some a) := by
  have h1 := (h.stored (j * 5) a).1
  have h2 := (h1.stored (j * 5 + 1) u1).1
  have h3 := (h2.stored (j * 5 + 2) u2).1
  have h4 := (h3.stored (j * 5 + 3) u3).1
  have h5 := (h4.stored (j * 5 + 4) u4).1
  refine ⟨_, h5, fun q hq => ?_, fun hl => ?_⟩
  · rw [List.getElem?_set_ne (by omega), List.getElem?_set_ne (by omega), List.getElem?_set_ne (by omega), List.getElem?_set_ne (by omega), List.getElem?_set_ne (by omega)]
  · rw [List.getElem?_set_ne (by omega), List.getElem?_set_ne (by omega), List.getElem?_set_ne (by omega), List.getElem?_set_ne (by omega), List.getElem?_set_self hl]
theorem gset (W : World) (g q : Nat) (u : Value) : W.grownBy (W.setCell ⟨g, q, none⟩ u) (some g) :=
  ⟨rfl, rfl, rfl, by simp, fun k _ hk => heap_setCell_other W ⟨g, q, none⟩ k u (fun e => hk (by simp [e]))⟩
theorem gset3 (W : World) (g j : Nat) (a u1 u2 : Value) : W.grownBy (((W.setCell ⟨g, j * 3, none⟩ a).setCell ⟨g, j * 3 + 1, none⟩ u1).setCell ⟨g, j * 3 + 2, none⟩ u2) (some g) :=
  ((gset _ _ _ _).trans (gset _ _ _ _)).trans (gset _ _ _ _)
theorem gset5 (W : World) (g j : Nat) (a u1 u2 u3 u4 : Value) : W.grownBy (((((W.setCell ⟨g, j * 5, none⟩ a).setCell ⟨g, j * 5 + 1, none⟩ u1).setCell ⟨g, j * 5 + 2, none⟩ u2).setCell ⟨g, j * 5 + 3, none⟩ u3).setCell ⟨g, j * 5 + 4, none⟩ u4) (some g) :=
  ((((gset _ _ _ _).trans (gset _ _ _ _)).trans (gset _ _ _ _)).trans (gset _ _ _ _)).trans (gset _ _ _ _)
/-- What an append onto one of them, or onto what has grown out of it, leaves. -/
theorem MRows.grow {W W' : World} {L s i j n : Nat} {T : TypeId} {vs : VL} {v : Value} (h : MRows W L T s vs i j) (hC : ∀ (k : Nat) (p : Value × Nat), vs[k]? = some p → p.1.ownBlock = v.ownBlock → p.2 ≤ n)
    (hK : ∀ b0 v0 n0 xs0, W.ownsRow b0 T s v0 n0 xs0 → (v0.ownBlock = v.ownBlock → n0 ≤ n) → W'.ownsRow b0 T s v0 n0 xs0) : MRows W' L T s vs i j := fun k p hp => by
  obtain ⟨xs, h1, h2⟩ := h k p hp
  exact ⟨xs, hK _ _ _ _ h1 (hC k p hp), h2⟩
theorem grow_cond {W : World} {L s i j n m : Nat} {T : TypeId} {vs : VL} {v v' : Value} (h : MRows W L T s vs i j) (hC : ∀ (k : Nat) (p : Value × Nat), vs[k]? = some p → p.1.ownBlock = v.ownBlock → p.2 ≤ n) (hnm : n ≤ m)
    (hv : v'.ownBlock = v.ownBlock ∨ v'.ownBlock = some W.heap.size) : ∀ (k : Nat) (p : Value × Nat), vs[k]? = some p → p.1.ownBlock = v'.ownBlock → p.2 ≤ m := fun k p hp he => by
  rcases hv with hv | hv
  · exact Nat.le_trans (hC k p hp (he.trans hv)) hnm
  · obtain ⟨xs, h1⟩ := h.row k p hp
    have := (h1.lt _ (he.trans hv)).2
    omega
theorem grow_start {W : World} {L s i j k0 : Nat} {T : TypeId} {vs : VL} (h : MRows W L T s vs i j) (hA : ApartL vs) (p0 : Value × Nat) (hp0 : vs[k0]? = some p0) : ∀ (k : Nat) (p : Value × Nat), vs[k]? = some p → p.1.ownBlock = p0.1.ownBlock → p.2 ≤ p0.2 := fun k p hp he => by
  by_cases hk : k = k0
  · subst hk
    rw [hp] at hp0
    injection hp0 with hp0
    subst hp0
    exact Nat.le_refl _
  · rcases hA k k0 p p0 hp hp0 hk with hn | hn
    · obtain ⟨xs, h1⟩ := h.row k p hp
      rcases h1.2 with ⟨_, h0⟩ | ⟨g, c, cur, hv, _⟩
      · omega
      · rw [hv] at hn
        simp [Value.ownBlock] at hn
    · exact absurd he hn
/-- The mark that is read. -/
theorem MRows.at {W : World} {L s i j : Nat} {T : TypeId} {vs : VL} (h : MRows W L T s vs i j) (k : Nat) (p : Value × Nat) (hp : vs[k]? = some p) (q : Nat) (hq : q < p.2) (hc : k < i) (hs : 0 < s) :
    ∃ g c, p.1 = .slice (some ⟨g, 0, none⟩) p.2 c ∧ W.cell? ⟨g, q * s, none⟩ = some (.string ⟨(mkB (100 * k + q)).toArray⟩) := by
  obtain ⟨xs, h1, h2⟩ := h k p hp
  rcases h1.2 with ⟨_, h0⟩ | ⟨g, c, cur, hv, _⟩
  · omega
  · refine ⟨g, c, hv, ?_⟩
    rw [hv] at h1
    rw [h1.cellAt (q * s) (Nat.mul_lt_mul_of_pos_right hq hs)]
    exact h2 q hq (.inl hc)
theorem MRows.slice {W : World} {L s i j : Nat} {T : TypeId} {vs : VL} (h : MRows W L T s vs i j) (k : Nat) (p : Value × Nat) (hp : vs[k]? = some p) : ∃ ao c, p.1 = .slice ao p.2 c ∧ (0 < p.2 → ∃ g, ao = some ⟨g, 0, none⟩) := by
  obtain ⟨xs, h1⟩ := h.row k p hp
  rcases h1.2 with ⟨hv, h0⟩ | ⟨g, c, cur, hv, _⟩
  · exact ⟨none, 0, by rw [hv, h0], fun h => by omega⟩
  · exact ⟨some ⟨g, 0, none⟩, c, hv, fun _ => ⟨g, rfl⟩⟩
end Go.Proofs.YtlfdeenekjklgaaGreatDoor
namespace Go.Proofs.YtlfdeenekjklgaaGreatDoor
open Go.RowKit
set_option linter.unusedSimpArgs false
set_option linter.unusedVariables false
set_option maxRecDepth 1000000
theorem prs_len (s : ByteArray) : (prsP s.data.toList).1.length ≤ s.size + 1 := by
  unfold prsP
  split
  · simp
  · have h1 := parsOf_len (Lib.split s.data.toList [38])
    have h2 := (split_len 38 s.data.toList.length s.data.toList (Nat.le_refl _)).1
    rw [size_list] at h2
    exact Nat.le_trans h1 h2
theorem le_3141 (n k : Nat) (h : n ≤ k + 1) (hk : k ≤ 2147483648) : n ≤ 2199023255552 := by omega
end Go.Proofs.YtlfdeenekjklgaaGreatDoor
namespace Go.Proofs.YtlfdeenekjklgaaGreatDoor
open Go.RowKit
set_option linter.unusedSimpArgs false
set_option linter.unusedVariables false
end Go.Proofs.YtlfdeenekjklgaaGreatDoor
namespace Go.Proofs.YtlfdeenekjklgaaGreatDoor
open Go.RowKit
set_option linter.unusedSimpArgs false
set_option linter.unusedVariables false
set_option maxRecDepth 1000000
set_option maxHeartbeats 4000000 in
theorem lawpars_any (v1 v2 : Value) (l : List Par) (w : World) (hl : l.length ≤ 2199023255552) (h1 : ParsIn w v1 l) (h2 : ParsIn w v2 l) :
    Calls Tryz.prog 17 #[v1, v2] w fun e w' => e = .returned (.bool true) ∧ Below w.heap.size w w' := by
  obtain ⟨a1, cap1, rfl, h1⟩ := h1
  obtain ⟨a2, cap2, rfl, h2⟩ := h2
  go_enter Tryz.func17, Tryz.ntmps17
  go_wp2
  go_loopw [5] (fun iv wr => ∃ i k : Nat, iv = .int .i64 i ∧ i ≤ l.length ∧ wr = w.drewN k) (fun i _ => l.length - (intOf i).toNat)
  case atStart => exact ⟨0, 0, rfl, Nat.zero_le _, rfl⟩
  case round =>
    obtain ⟨i, k, rfl, hi, rfl⟩ := hrel
    by_cases hlt : i < l.length
    · obtain ⟨p, hp⟩ : ∃ p, l[i]? = some p := ⟨_, List.getElem?_eq_getElem hlt⟩
      obtain ⟨g1, o1, rfl, _, a0, a1, a2⟩ := parAt_drew h1 k i p hp
      obtain ⟨g2, o2, rfl, _, b0, b1, b2⟩ := parAt_drew h2 k i p hp
      obtain ⟨W2, hW2⟩ : ∃ W2, w.drewN k = W2 := ⟨_, rfl⟩
      rw [hW2] at a0 a1 a2 b0 b1 b2
      rw [hW2]
      have HW := Lib.hid hW2
      clear hW2 h1 h2
      have k0 : (0 : Int) ≤ (i : Int) := by omega
      have k1 : (i : Int) < (l.length : Int) := by omega
      have hwi := wrap64_small i (Nat.le_trans hi hl)
      go_wp2_with fail
      refine wp_region_still_lit (by kernel_rfl) (by kernel_rfl) ?_
      repeat still_step
      refine wpStill_nil ?_
      go_wp2
      go_roundw
      case rel =>
        try rw [hwi]
        clear hwi
        exact ⟨i + 1, k + 1, by go_num, by omega, by rw [← HW.out]; rfl⟩
      case measure => (try rw [hwi]); clear hwi; simp [intOf]; omega
    · have hd : decide (i < l.length) = false := decide_eq_false hlt
      have bel := below_drewN (Below.refl w.heap.size w) k
      go_wp2
      go_ret
      exact ⟨rfl, bel⟩
end Go.Proofs.YtlfdeenekjklgaaGreatDoor
