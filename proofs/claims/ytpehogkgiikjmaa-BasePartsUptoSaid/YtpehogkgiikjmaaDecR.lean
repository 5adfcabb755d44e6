/- The walk of turnpikeref03.Decode: it returns the plain machine decR; nothing that was there turns. Conditions: no text is longer than memory. -/
import Derived.Test.YtpehogkgiikjmaaBeg
import Derived.Test.YtpehogkgiikjmaaReg
namespace Go.Proofs.Ytpehogkgiikjmaa
open Go.RowKit
set_option linter.unusedSimpArgs false
set_option linter.unusedVariables false
theorem ext_len (s : ByteArray) (a b : Nat) (h : a ≤ b) (hb : b ≤ s.size) : (s.extract a b).size = b - a := by
  rw [← size_list, Lib.extract_data, List.length_take, List.length_drop, size_list]; omega
theorem ext_get (s : ByteArray) (a b : Nat) (p : List UInt8) (hp : (s.data.toList.drop a).take (b - a) = p) (j : Nat) (hj : j < p.length) (h : j < (s.extract a b).size) : (s.extract a b)[j]'h = p[j]'hj := by
  have e : (s.extract a b).data.toList = p := by rw [Lib.extract_data, hp]
  subst e
  rfl
theorem tup3' {a a' b b' c c' : Value} (h1 : a = a') (h2 : b = b') (h3 : c = c') : Ending.returned (.tuple #[a, b, c]) = .returned (.tuple #[a', b', c']) := by rw [h1, h2, h3]
def RRel (s : ByteArray) (w : World) (B : Nat) (v e x : Value) (wr : World) : Prop := ∃ (i : Nat) (acc : List UInt8) (fl : Nat) (b : Bool), x = .int .i64 i ∧ i ≤ s.size ∧ i % 4 = 0 ∧ e = .bool b ∧ b = (fl != 0) ∧ dgo acc [] fl i (s.data.toList.drop i) = decR s.data.toList ∧ wr.ownsRow B 5 1 v acc.length (Lib.byteCells acc) ∧ acc.length ≤ i ∧ Below B w wr
set_option maxRecDepth 100000 in
set_option maxHeartbeats 8000000 in
theorem rdecode_any (s : ByteArray) (w : World) (hs : s.size ≤ 140737488351232) :
    Calls Try.prog 23 #[.string s] w fun e w' => e = .returned (.tuple #[.string ⟨(decR s.data.toList).1.toArray⟩, .int .i64 (decR s.data.toList).2.1, .int .i64 (decR s.data.toList).2.2]) ∧ Below w.heap.size w w' := by
  obtain ⟨i0, hi, hz0, hz1, hz2⟩ := info_parts infoByte
  have hsl := size_list s
  have HL := Lib.hid hsl; clear hsl
  go_enter Try.func23, Try.ntmps23
  go_wp2
  go_loopw [5, 6, 7] (fun v e x wr => RRel s w w.heap.size v e x wr) (fun _ _ x _ => s.size + 4 - (intOf x).toNat)
  case atStart => exact ⟨0, [], 0, false, rfl, Nat.zero_le _, rfl, rfl, rfl, rfl, World.ownsRow_made w #[] 0 (Nat.le_refl _) (by simp) rfl, Nat.le_refl _, (Below.refl _ w).alloc (Nat.le_refl _) _⟩
  case round =>
    obtain ⟨i, acc, fl, b, rfl, hil, hi4, rfl, hbf, hgo, hown, hal, hbw⟩ := hrel
    have hbs := hbw.size
    have HA := Lib.hid hgo; clear hgo
    by_cases hlt : i < s.size
    · by_cases hfl : fl = 0
      · subst hfl
        obtain rfl : b = false := hbf
        (try clear hbf)
        obtain ⟨m, hm⟩ : ∃ m : Nat, m = min 4 (s.size - i) := ⟨_, rfl⟩
        have hm1 : 1 ≤ m := by omega
        have hm4 : m ≤ 4 := by omega
        have hms : i + m ≤ s.size := by omega
        have H4 := Lib.hid hi4; clear hi4
        have hq : (m = 4 ∧ i + 4 ≤ s.size) ∨ (m < 4 ∧ i + m = s.size) := by omega
        have HM := Lib.hid hm; clear hm
        rcases hq with ⟨rfl, hq⟩ | ⟨hq1, hq⟩
        · skip
          have c1 : ¬ (s.size : Int) - (i : Int) < 4 := by omega
          have HQ := Lib.hid hq; clear hm1 hm4 hq
          go_wp2
          go_loop [9] (fun x => ∃ (j : Nat) (vs : List Nat) (fl : Nat), x = .int .i64 ((j : Int) + 1) ∧ j ≤ 4 ∧ GInv ((s.data.toList.drop i).take j) vs fl) (fun x => 4 + 1 - (intOf x).toNat)
          case atStart => exact ⟨0, [], 0, rfl, Nat.zero_le _, .inl ⟨rfl, rfl, rfl⟩⟩
          case round =>
            obtain ⟨j, vs, fl, rfl, hj, hinv⟩ := hrel
            have hpl : ((s.data.toList.drop i).take j).length = j := by rw [List.length_take, List.length_drop, HL.out]; omega
            by_cases hjl : j < 4
            · have hjs : i + j < s.size := by omega
              have hjI : (j : Int) + 1 ≤ 4 := by omega
              have hst := hinv.step (by rw [hpl]; omega) (s[i + j]'hjs)
              have hdj := drop_get s (i + j) hjs
              have hsp : s.data.toList.drop i = (s.data.toList.drop i).take j ++ s.data.toList.drop (i + j) := by rw [← List.drop_drop, List.take_append_drop]
              have htk : (s.data.toList.drop i).take (j + 1) = (s.data.toList.drop i).take j ++ [s[i + j]'hjs] := by
                rw [List.take_succ_eq_append_getElem (by rw [List.length_drop, HL.out]; omega), List.getElem_drop]; rfl
              have hed : (s.extract i (i + (j + 1))).data.toList = (s.data.toList.drop i).take (j + 1) := by rw [Lib.extract_data, show i + (j + 1) - i = j + 1 from by omega]
              have hes : (s.extract i (i + (j + 1))).size ≤ 4 := by rw [ext_len s _ _ (by omega) (by omega)]; omega
              rcases hst with ⟨hn, hgn⟩ | ⟨vs', fl', hn, hinv2⟩
              · have hok : okG (s.extract i (i + (j + 1))).data.toList = false := by rw [hed, htk]; exact okG_none hgn
                have hbad : dgo acc [] 0 i (s.data.toList.drop i) = ([], i + j, 30) := by
                  have hb := dgo_bad acc ((s.data.toList.drop i).take j) (s.data.toList.drop (i + j + 1)) vs fl i _ hinv H4.out (by rw [hpl]; omega) hn
                  rw [← hdj, ← hsp, hpl] at hb; exact hb
                have HB := Lib.hid hbad; clear hbad hed htk hsp hdj hn hgn hinv hpl
                generalize hge : s.extract i (i + (j + 1)) = g at hok hes
                have x1 : (i : Int) + ((j : Int) + 1) ≤ (s.size : Int) := by omega
                have HOK := Lib.hid hok; clear hok
                go_wp2_with fail
                refine (begins_any _ _ hes).mono ?_
                rintro e w1 ⟨rfl, rfl⟩
                rw [HOK.out]
                go_wp2
                go_ret3
                rw [← HA.out, HB.out]
                exact ⟨tup3' rfl (by show _ = Value.int .i64 ((i + j : Nat) : Int); go_num) rfl, hbw⟩
              · have hok : okG (s.extract i (i + (j + 1))).data.toList = true := by rw [hed, htk]; exact okG_inv hinv2
                rw [← htk] at hinv2
                have HI2 := Lib.hid hinv2; clear hinv2 hed htk hsp hdj hn hinv hpl
                generalize hge : s.extract i (i + (j + 1)) = g at hok hes
                have x1 : (i : Int) + ((j : Int) + 1) ≤ (s.size : Int) := by omega
                have HOK := Lib.hid hok; clear hok
                go_wp2_with fail
                refine (begins_any _ _ hes).mono ?_
                rintro e w1 ⟨rfl, rfl⟩
                rw [HOK.out]
                go_wp2
                go_round
                case rel => exact ⟨j + 1, vs', fl', by go_num, by omega, HI2.out⟩
                case measure => simp [intOf]; omega
            · obtain rfl : j = 4 := by omega
              have hg := dgo_group acc ((s.data.toList.drop i).take 4) (s.data.toList.drop (i + 4)) vs fl i hinv H4.out
              rw [← List.drop_drop, List.take_append_drop, hpl, if_pos rfl] at hg
              rw [List.drop_drop] at hg
              have HG := Lib.hid hg; clear hg
              obtain ⟨g, hge⟩ : ∃ g, s.extract i (i + 4) = g := ⟨_, rfl⟩
              have hgs : g.size = 4 := by rw [← hge, ext_len s _ _ (by omega) (by have := HQ.out; omega)]; omega
              have hget : ∀ p, (s.data.toList.drop i).take 4 = p → ∀ k (hk : k < p.length) (h : k < g.size), g[k]'h = p[k]'hk := by
                subst hge; intro p hp k hk h
                exact ext_get s i (i + 4) p (by rw [show i + 4 - i = 4 from by omega]; exact hp) k hk h
              have x1 : (i : Int) + 4 ≤ (s.size : Int) := by have := HQ.out; omega
              have G0 : 0 < g.size := by omega
              have G1 : 1 < g.size := by omega
              have G2 : 2 < g.size := by omega
              have G3 : 3 < g.size := by omega
              rcases hinv with ⟨hp, _⟩ | ⟨c0, a, hp, _⟩ | ⟨c0, c1, a, b, hp, _⟩ | ⟨c0, c1, c2, a, b, c, hp, _⟩ | ⟨c0, c1, a, b, hp, _⟩ | ⟨c0, c1, c2, c3, a, b, c, d, hp, h0, h1, h2, h3, rfl, rfl⟩ | ⟨c0, c1, c2, a, b, c, hp, h0, h1, h2, hc4, rfl, rfl⟩ | ⟨c0, c1, a, b, hp, h0, h1, hb16, rfl, rfl⟩
              · rw [hp] at hpl; simp at hpl
              · rw [hp] at hpl; simp at hpl
              · rw [hp] at hpl; simp at hpl
              · rw [hp] at hpl; simp at hpl
              · rw [hp] at hpl; simp at hpl
              · have g0 := hget _ hp 0 (by simp) G0
                have g1 := hget _ hp 1 (by simp) G1
                have g2 := hget _ hp 2 (by simp) G2
                have g3 := hget _ hp 3 (by simp) G3
                simp only [List.getElem_cons_zero, List.getElem_cons_succ] at g0 g1 g2 g3
                have la := sv_lt h0
                have lb := sv_lt h1
                have lc := sv_lt h2
                have ld := sv_lt h3
                have n2 := ne61' (sv_ne h2)
                have n3 := ne61' (sv_ne h3)
                obtain ⟨n, hn⟩ : ∃ n : Nat, a * 262144 + b * 4096 = n := ⟨_, rfl⟩
                have y0 := IntWalk.i64_in ((a : Int) * 262144) (by omega)
                have y1 := IntWalk.i64_in ((b : Int) * 4096) (by omega)
                have y2 : IntKind.i64.wrap ((a : Int) * 262144 + (b : Int) * 4096) = (n : Int) := by rw [IntWalk.i64_in _ (by omega)]; omega
                have hnl : (n : Int) < 16777216 := by omega
                have hn0 : (0 : Int) ≤ (n : Int) := by omega
                have q0 := dw_r0 a b n hn
                obtain ⟨x0, hx0⟩ : ∃ x, b0 a b = x := ⟨_, rfl⟩
                rw [hx0] at q0
                obtain ⟨n1, hn1⟩ : ∃ m : Nat, n + c * 64 = m := ⟨_, rfl⟩
                have y3 : (n : Int) + (c : Int) * 64 = (n1 : Int) := by omega
                have hnl1 : (n1 : Int) < 16777216 := by omega
                have hn01 : (0 : Int) ≤ (n1 : Int) := by omega
                have q1 := dw_r1 a b c n n1 hn hn1 lc
                obtain ⟨x1, hx1⟩ : ∃ x, b1 b c = x := ⟨_, rfl⟩
                rw [hx1] at q1
                obtain ⟨n2, hn2⟩ : ∃ m : Nat, n1 + d = m := ⟨_, rfl⟩
                have y4 : (n1 : Int) + (d : Int) = (n2 : Int) := by omega
                have hnl2 : (n2 : Int) < 16777216 := by omega
                have hn02 : (0 : Int) ≤ (n2 : Int) := by omega
                have q2 := dw_r2 a b c d n n1 n2 hn hn1 hn2
                obtain ⟨x2, hx2⟩ : ∃ x, b2 c d = x := ⟨_, rfl⟩
                rw [hx2] at q2
                have HX0 := Lib.hid hx0 ; have HX1 := Lib.hid hx1 ; have HX2 := Lib.hid hx2 ; have HN := Lib.hid hn; have HGS := Lib.hid hgs; clear hx0 hx1 hx2 hn hp hpl hget
                have HN1 := Lib.hid hn1; clear hn1
                have HN2 := Lib.hid hn2; clear hn2
                have hjI : ¬ (4 : Int) + 1 ≤ 4 := by omega
                go_wp2
                refine wp_region_text [(0, true), (1, true), (4, true), (5, true), (2, false), (3, true), (6, false), (7, true), (8, true), (9, true)] (by kernel_rfl) (by kernel_rfl) (by kernel_rfl) (by kernel_rfl) ?_
                repeat (refine wpTx_take rfl (by rfl) (v := ?_) ?_ ?_; rotate_left; · (intro w; go_simp; with_reducible rfl))
                refine wpTx_step rfl (fun K hK => ?_)
                go_simp
                refine (of_yes _ _ h0 _).mono ?_
                rintro e w1 ⟨rfl, rfl⟩
                refine hK _ _ ?_
                clear hK K
                repeat (refine wpTx_take rfl (by rfl) (v := ?_) ?_ ?_; rotate_left; · (intro w; go_simp; with_reducible rfl))
                refine wpTx_step rfl (fun K hK => ?_)
                go_simp
                refine (of_yes _ _ h1 _).mono ?_
                rintro e w1 ⟨rfl, rfl⟩
                refine hK _ _ ?_
                clear hK K
                repeat (refine wpTx_take rfl (by rfl) (v := ?_) ?_ ?_; rotate_left; · (intro w; go_simp; with_reducible rfl))
                refine wpTx_nil ?_
                go_simp
                have hown := hown.drew; have hbw := hbw.drew; have hbs : w.heap.size ≤ wr.drew.heap.size := hbs
                generalize wr.drew = wr at hown hbw hbs ⊢
                go_wp2_with (at_builtin; refine wpList_append_own _ rfl (.tmp 66) (.tmp 70) 27 rfl w.heap.size 5 i0 (.int .u8 0) 1 1 Try.underlying27 hi hz0 hz1 hz2 rfl (by decide) _ _ _ rfl (hown.alloc _) ⟨wr.heap.size, 0, none⟩ 1 1 (Lib.byteCells [x0]) rfl rfl (cells_new _ _ _) (byteCells_oneCell _) ?d0 ?e0 ?f0 ?_)
                case d0 => unfold maxLen; omega
                case e0 => omega
                case f0 => simp; omega
                intro v1 w1 hI1 hg1 _
                rw [← Lib.byteCells_append] at hI1
                have hb1 := (hbw.alloc (by omega) _).grown hg1 (by simp; omega) (fun j hj => (hown.lt j hj).1)
                have hs1 := hb1.size
                clear hg1
                go_wp2_with fail
                refine (of_yes _ _ h2 _).mono ?_
                rintro e w0 ⟨rfl, rfl⟩
                go_wp2_with (at_builtin; refine wpList_append_own _ rfl (.tmp 81) (.tmp 85) 27 rfl w.heap.size 5 i0 (.int .u8 0) 1 1 Try.underlying27 hi hz0 hz1 hz2 rfl (by decide) _ _ _ rfl (hI1.alloc _) ⟨w1.heap.size, 0, none⟩ 1 1 (Lib.byteCells [x1]) rfl rfl (cells_new _ _ _) (byteCells_oneCell _) ?d1 ?e1 ?f1 ?_)
                case d1 => unfold maxLen; omega
                case e1 => omega
                case f1 => simp; omega
                intro v2 w2 hI2 hg2 _
                rw [← Lib.byteCells_append] at hI2
                have hb2 := (hb1.alloc (by omega) _).grown hg2 (by simp; omega) (fun j hj => (hI1.lt j hj).1)
                have hs2 := hb2.size
                clear hg2
                go_wp2_with fail
                refine (of_yes _ _ h3 _).mono ?_
                rintro e w0 ⟨rfl, rfl⟩
                go_wp2_with (at_builtin; refine wpList_append_own _ rfl (.tmp 95) (.tmp 98) 27 rfl w.heap.size 5 i0 (.int .u8 0) 1 1 Try.underlying27 hi hz0 hz1 hz2 rfl (by decide) _ _ _ rfl (hI2.alloc _) ⟨w2.heap.size, 0, none⟩ 1 1 (Lib.byteCells [x2]) rfl rfl (cells_new _ _ _) (byteCells_oneCell _) ?d2 ?e2 ?f2 ?_)
                case d2 => unfold maxLen; omega
                case e2 => omega
                case f2 => simp; omega
                intro v3 w3 hI3 hg3 _
                rw [← Lib.byteCells_append] at hI3
                have hb3 := (hb2.alloc (by omega) _).grown hg3 (by simp; omega) (fun j hj => (hI2.lt j hj).1)
                have hs3 := hb3.size
                clear hg3
                go_wp2
                go_roundw
                case rel => exact ⟨i + 4, acc ++ gb [a, b, c, d], 0, _, by go_num, by have := HQ.out; omega, by have := H4.out; omega, rfl, rfl, by rw [← HG.out]; exact HA.out, by simpa [gb, HX0.out, HX1.out, HX2.out] using hI3, by simp [gb]; omega, hb3⟩
                case measure => simp [intOf]; omega
              · have g0 := hget _ hp 0 (by simp) G0
                have g1 := hget _ hp 1 (by simp) G1
                have g2 := hget _ hp 2 (by simp) G2
                have g3 := hget _ hp 3 (by simp) G3
                simp only [List.getElem_cons_zero, List.getElem_cons_succ] at g0 g1 g2 g3
                have la := sv_lt h0
                have lb := sv_lt h1
                have lc := sv_lt h2
                have n2 := ne61' (sv_ne h2)
                have n3 : (((61 : UInt8).toNat : Int) != 61) = false := by decide
                obtain ⟨n, hn⟩ : ∃ n : Nat, a * 262144 + b * 4096 = n := ⟨_, rfl⟩
                have y0 := IntWalk.i64_in ((a : Int) * 262144) (by omega)
                have y1 := IntWalk.i64_in ((b : Int) * 4096) (by omega)
                have y2 : IntKind.i64.wrap ((a : Int) * 262144 + (b : Int) * 4096) = (n : Int) := by rw [IntWalk.i64_in _ (by omega)]; omega
                have hnl : (n : Int) < 16777216 := by omega
                have hn0 : (0 : Int) ≤ (n : Int) := by omega
                have q0 := dw_r0 a b n hn
                obtain ⟨x0, hx0⟩ : ∃ x, b0 a b = x := ⟨_, rfl⟩
                rw [hx0] at q0
                obtain ⟨n1, hn1⟩ : ∃ m : Nat, n + c * 64 = m := ⟨_, rfl⟩
                have y3 : (n : Int) + (c : Int) * 64 = (n1 : Int) := by omega
                have hnl1 : (n1 : Int) < 16777216 := by omega
                have hn01 : (0 : Int) ≤ (n1 : Int) := by omega
                have q1 := dw_r1 a b c n n1 hn hn1 lc
                obtain ⟨x1, hx1⟩ : ∃ x, b1 b c = x := ⟨_, rfl⟩
                rw [hx1] at q1
                have HX0 := Lib.hid hx0 ; have HX1 := Lib.hid hx1 ; have HN := Lib.hid hn; have HGS := Lib.hid hgs; clear hx0 hx1 hn hp hpl hget
                have HN1 := Lib.hid hn1; clear hn1
                have hjI : ¬ (4 : Int) + 1 ≤ 4 := by omega
                go_wp2
                refine wp_region_text [(0, true), (1, true), (4, true), (5, true), (2, false), (3, true), (6, false), (7, true), (8, true), (9, true)] (by kernel_rfl) (by kernel_rfl) (by kernel_rfl) (by kernel_rfl) ?_
                repeat (refine wpTx_take rfl (by rfl) (v := ?_) ?_ ?_; rotate_left; · (intro w; go_simp; with_reducible rfl))
                refine wpTx_step rfl (fun K hK => ?_)
                go_simp
                refine (of_yes _ _ h0 _).mono ?_
                rintro e w1 ⟨rfl, rfl⟩
                refine hK _ _ ?_
                clear hK K
                repeat (refine wpTx_take rfl (by rfl) (v := ?_) ?_ ?_; rotate_left; · (intro w; go_simp; with_reducible rfl))
                refine wpTx_step rfl (fun K hK => ?_)
                go_simp
                refine (of_yes _ _ h1 _).mono ?_
                rintro e w1 ⟨rfl, rfl⟩
                refine hK _ _ ?_
                clear hK K
                repeat (refine wpTx_take rfl (by rfl) (v := ?_) ?_ ?_; rotate_left; · (intro w; go_simp; with_reducible rfl))
                refine wpTx_nil ?_
                go_simp
                have hown := hown.drew; have hbw := hbw.drew; have hbs : w.heap.size ≤ wr.drew.heap.size := hbs
                generalize wr.drew = wr at hown hbw hbs ⊢
                go_wp2_with (at_builtin; refine wpList_append_own _ rfl (.tmp 66) (.tmp 70) 27 rfl w.heap.size 5 i0 (.int .u8 0) 1 1 Try.underlying27 hi hz0 hz1 hz2 rfl (by decide) _ _ _ rfl (hown.alloc _) ⟨wr.heap.size, 0, none⟩ 1 1 (Lib.byteCells [x0]) rfl rfl (cells_new _ _ _) (byteCells_oneCell _) ?d3 ?e3 ?f3 ?_)
                case d3 => unfold maxLen; omega
                case e3 => omega
                case f3 => simp; omega
                intro v1 w1 hI1 hg1 _
                rw [← Lib.byteCells_append] at hI1
                have hb1 := (hbw.alloc (by omega) _).grown hg1 (by simp; omega) (fun j hj => (hown.lt j hj).1)
                have hs1 := hb1.size
                clear hg1
                go_wp2_with fail
                refine (of_yes _ _ h2 _).mono ?_
                rintro e w0 ⟨rfl, rfl⟩
                go_wp2_with (at_builtin; refine wpList_append_own _ rfl (.tmp 81) (.tmp 85) 27 rfl w.heap.size 5 i0 (.int .u8 0) 1 1 Try.underlying27 hi hz0 hz1 hz2 rfl (by decide) _ _ _ rfl (hI1.alloc _) ⟨w1.heap.size, 0, none⟩ 1 1 (Lib.byteCells [x1]) rfl rfl (cells_new _ _ _) (byteCells_oneCell _) ?d4 ?e4 ?f4 ?_)
                case d4 => unfold maxLen; omega
                case e4 => omega
                case f4 => simp; omega
                intro v2 w2 hI2 hg2 _
                rw [← Lib.byteCells_append] at hI2
                have hb2 := (hb1.alloc (by omega) _).grown hg2 (by simp; omega) (fun j hj => (hI1.lt j hj).1)
                have hs2 := hb2.size
                clear hg2
                go_wp2
                go_roundw
                case rel => exact ⟨i + 4, acc ++ gb [a, b, c], 1, _, by go_num, by have := HQ.out; omega, by have := H4.out; omega, rfl, rfl, by rw [← HG.out]; exact HA.out, by simpa [gb, HX0.out, HX1.out] using hI2, by simp [gb]; omega, hb2⟩
                case measure => simp [intOf]; omega
              · have g0 := hget _ hp 0 (by simp) G0
                have g1 := hget _ hp 1 (by simp) G1
                have g2 := hget _ hp 2 (by simp) G2
                have g3 := hget _ hp 3 (by simp) G3
                simp only [List.getElem_cons_zero, List.getElem_cons_succ] at g0 g1 g2 g3
                have la := sv_lt h0
                have lb := sv_lt h1
                have n2 : (((61 : UInt8).toNat : Int) != 61) = false := by decide
                obtain ⟨n, hn⟩ : ∃ n : Nat, a * 262144 + b * 4096 = n := ⟨_, rfl⟩
                have y0 := IntWalk.i64_in ((a : Int) * 262144) (by omega)
                have y1 := IntWalk.i64_in ((b : Int) * 4096) (by omega)
                have y2 : IntKind.i64.wrap ((a : Int) * 262144 + (b : Int) * 4096) = (n : Int) := by rw [IntWalk.i64_in _ (by omega)]; omega
                have hnl : (n : Int) < 16777216 := by omega
                have hn0 : (0 : Int) ≤ (n : Int) := by omega
                have q0 := dw_r0 a b n hn
                obtain ⟨x0, hx0⟩ : ∃ x, b0 a b = x := ⟨_, rfl⟩
                rw [hx0] at q0
                have HX0 := Lib.hid hx0 ; have HN := Lib.hid hn; have HGS := Lib.hid hgs; clear hx0 hn hp hpl hget
                have hjI : ¬ (4 : Int) + 1 ≤ 4 := by omega
                go_wp2
                refine wp_region_text [(0, true), (1, true), (4, true), (5, true), (2, false), (3, true), (6, false), (7, true), (8, true), (9, true)] (by kernel_rfl) (by kernel_rfl) (by kernel_rfl) (by kernel_rfl) ?_
                repeat (refine wpTx_take rfl (by rfl) (v := ?_) ?_ ?_; rotate_left; · (intro w; go_simp; with_reducible rfl))
                refine wpTx_step rfl (fun K hK => ?_)
                go_simp
                refine (of_yes _ _ h0 _).mono ?_
                rintro e w1 ⟨rfl, rfl⟩
                refine hK _ _ ?_
                clear hK K
                repeat (refine wpTx_take rfl (by rfl) (v := ?_) ?_ ?_; rotate_left; · (intro w; go_simp; with_reducible rfl))
                refine wpTx_step rfl (fun K hK => ?_)
                go_simp
                refine (of_yes _ _ h1 _).mono ?_
                rintro e w1 ⟨rfl, rfl⟩
                refine hK _ _ ?_
                clear hK K
                repeat (refine wpTx_take rfl (by rfl) (v := ?_) ?_ ?_; rotate_left; · (intro w; go_simp; with_reducible rfl))
                refine wpTx_nil ?_
                go_simp
                have hown := hown.drew; have hbw := hbw.drew; have hbs : w.heap.size ≤ wr.drew.heap.size := hbs
                generalize wr.drew = wr at hown hbw hbs ⊢
                go_wp2_with (at_builtin; refine wpList_append_own _ rfl (.tmp 66) (.tmp 70) 27 rfl w.heap.size 5 i0 (.int .u8 0) 1 1 Try.underlying27 hi hz0 hz1 hz2 rfl (by decide) _ _ _ rfl (hown.alloc _) ⟨wr.heap.size, 0, none⟩ 1 1 (Lib.byteCells [x0]) rfl rfl (cells_new _ _ _) (byteCells_oneCell _) ?d5 ?e5 ?f5 ?_)
                case d5 => unfold maxLen; omega
                case e5 => omega
                case f5 => simp; omega
                intro v1 w1 hI1 hg1 _
                rw [← Lib.byteCells_append] at hI1
                have hb1 := (hbw.alloc (by omega) _).grown hg1 (by simp; omega) (fun j hj => (hown.lt j hj).1)
                have hs1 := hb1.size
                clear hg1
                go_wp2
                go_roundw
                case rel => exact ⟨i + 4, acc ++ gb [a, b], 2, _, by go_num, by have := HQ.out; omega, by have := H4.out; omega, rfl, rfl, by rw [← HG.out]; exact HA.out, by simpa [gb, HX0.out] using hI1, by simp [gb]; omega, hb1⟩
                case measure => simp [intOf]; omega
        · skip
          have c1 : (m : Int) < 4 := by omega
          have c2 : (s.size : Int) - (i : Int) = (m : Int) := by omega
          have HQ := Lib.hid hq; clear hm4 hq
          go_wp2
          go_loop [9] (fun x => ∃ (j : Nat) (vs : List Nat) (fl : Nat), x = .int .i64 ((j : Int) + 1) ∧ j ≤ m ∧ GInv ((s.data.toList.drop i).take j) vs fl) (fun x => m + 1 - (intOf x).toNat)
          case atStart => exact ⟨0, [], 0, rfl, Nat.zero_le _, .inl ⟨rfl, rfl, rfl⟩⟩
          case round =>
            obtain ⟨j, vs, fl, rfl, hj, hinv⟩ := hrel
            have hpl : ((s.data.toList.drop i).take j).length = j := by rw [List.length_take, List.length_drop, HL.out]; omega
            by_cases hjl : j < m
            · have hjs : i + j < s.size := by omega
              have hjI : (j : Int) + 1 ≤ (m : Int) := by omega
              have hst := hinv.step (by rw [hpl]; omega) (s[i + j]'hjs)
              have hdj := drop_get s (i + j) hjs
              have hsp : s.data.toList.drop i = (s.data.toList.drop i).take j ++ s.data.toList.drop (i + j) := by rw [← List.drop_drop, List.take_append_drop]
              have htk : (s.data.toList.drop i).take (j + 1) = (s.data.toList.drop i).take j ++ [s[i + j]'hjs] := by
                rw [List.take_succ_eq_append_getElem (by rw [List.length_drop, HL.out]; omega), List.getElem_drop]; rfl
              have hed : (s.extract i (i + (j + 1))).data.toList = (s.data.toList.drop i).take (j + 1) := by rw [Lib.extract_data, show i + (j + 1) - i = j + 1 from by omega]
              have hes : (s.extract i (i + (j + 1))).size ≤ 4 := by rw [ext_len s _ _ (by omega) (by omega)]; omega
              rcases hst with ⟨hn, hgn⟩ | ⟨vs', fl', hn, hinv2⟩
              · have hok : okG (s.extract i (i + (j + 1))).data.toList = false := by rw [hed, htk]; exact okG_none hgn
                have hbad : dgo acc [] 0 i (s.data.toList.drop i) = ([], i + j, 30) := by
                  have hb := dgo_bad acc ((s.data.toList.drop i).take j) (s.data.toList.drop (i + j + 1)) vs fl i _ hinv H4.out (by rw [hpl]; omega) hn
                  rw [← hdj, ← hsp, hpl] at hb; exact hb
                have HB := Lib.hid hbad; clear hbad hed htk hsp hdj hn hgn hinv hpl
                generalize hge : s.extract i (i + (j + 1)) = g at hok hes
                have x1 : (i : Int) + ((j : Int) + 1) ≤ (s.size : Int) := by omega
                have HOK := Lib.hid hok; clear hok
                go_wp2_with fail
                refine (begins_any _ _ hes).mono ?_
                rintro e w1 ⟨rfl, rfl⟩
                rw [HOK.out]
                go_wp2
                go_ret3
                rw [← HA.out, HB.out]
                exact ⟨tup3' rfl (by show _ = Value.int .i64 ((i + j : Nat) : Int); go_num) rfl, hbw⟩
              · have hok : okG (s.extract i (i + (j + 1))).data.toList = true := by rw [hed, htk]; exact okG_inv hinv2
                rw [← htk] at hinv2
                have HI2 := Lib.hid hinv2; clear hinv2 hed htk hsp hdj hn hinv hpl
                generalize hge : s.extract i (i + (j + 1)) = g at hok hes
                have x1 : (i : Int) + ((j : Int) + 1) ≤ (s.size : Int) := by omega
                have HOK := Lib.hid hok; clear hok
                go_wp2_with fail
                refine (begins_any _ _ hes).mono ?_
                rintro e w1 ⟨rfl, rfl⟩
                rw [HOK.out]
                go_wp2
                go_round
                case rel => exact ⟨j + 1, vs', fl', by go_num, by omega, HI2.out⟩
                case measure => simp [intOf]; omega
            · obtain rfl : j = m := by omega
              have hjI : ¬ (j : Int) + 1 ≤ (j : Int) := by omega
              have hjI4 : (j : Int) < 4 := by omega
              have hall : (s.data.toList.drop i).take j = s.data.toList.drop i := List.take_of_length_le (by rw [List.length_drop, HL.out]; have := HQ.out; omega)
              have hend : dgo acc [] 0 i (s.data.toList.drop i) = ([], s.size, 30) := by
                have hg := dgo_group acc ((s.data.toList.drop i).take j) [] vs fl i hinv H4.out
                rw [List.append_nil, hpl, if_neg (by omega), hall] at hg
                rw [hg, HQ.out]; simp only [dgo]; rw [if_neg (by have := H4.out; have := HQ.out; omega)]
              have HE := Lib.hid hend; clear hend hall hinv hpl
              go_wp2
              go_ret3
              rw [← HA.out, HE.out]
              exact ⟨rfl, hbw⟩
      · obtain rfl : b = true := by rw [hbf, bne_iff_ne]; exact hfl
        have hdg := drop_get s i hlt
        have hE : dgo acc [] fl i (s.data.toList.drop i) = ([], i, 30) := by
          rw [hdg]; exact dgo_none (by unfold dstep; rw [if_pos ⟨hfl, hi4⟩])
        have HE := Lib.hid hE; have H4 := Lib.hid hi4; have HF := Lib.hid hfl; clear hE hdg hi4 hfl; (try clear hbf)
        go_wp2
        go_ret3
        rw [← HA.out, HE.out]
        exact ⟨rfl, hbw⟩
    · have hd : s.data.toList.drop i = [] := list_drop_all s i (by omega)
      have hE : dgo acc [] fl i (s.data.toList.drop i) = (acc, 0, 0) := by rw [hd]; simp only [dgo, if_pos hi4]
      have hcv := run_str_own wr 27 5 Try.underlying27 Try.underlying5 hown 9 Try.underlying9
      have HE := Lib.hid hE; have H4 := Lib.hid hi4
      clear hd hE hi4 hbf
      go_wp2
      go_ret3
      rw [← HA.out, HE.out]
      exact ⟨rfl, hbw⟩
end Go.Proofs.Ytpehogkgiikjmaa
