/- Rdh, SStd: texts of the seat, one behind the other (a claim holds at most sixty). Conditions: each theorem names its own. -/
import Derived.Test.YtlfdeenekjklgaaGreatDoorPa15
import Derived.Test.YtlfdeenekjklgaaGreatDoorPk05
import Derived.BigFrameIn
import Derived.Sort.CutIn
import Derived.Test.YtlfdeenekjklgaaGreatDoorPk06
import Derived.Test.YtlfdeenekjklgaaGreatDoorPa02
namespace Go.Proofs.YtlfdeenekjklgaaGreatDoor
open Go.RowKit Go.Shelf
attribute [local go_sem] Oper.semAt_some
attribute [local go_sem] wide_fn
set_option linter.unusedSimpArgs false
set_option linter.unusedVariables false
set_option maxRecDepth 1000000
set_option maxHeartbeats 8000000 in
theorem rdhead_any (r : Nat) (s mk : List UInt8) (most : Int) (lv : Value) (a : Nat) (m : Int) (w : World) (h : RdAt w r s mk most lv) (hs : s.length ≤ 2147483648) (ha : a ≤ s.length) (hm : w.cell? ⟨2, 0, none⟩ = some (.int .i64 m)) (hg : SgAt w) :
    Calls Tryz.prog 64 #[.pointer (some ⟨r, 0, none⟩), .int .i64 (a : Int)] w (HdPost (hdF (s.length + 1) s a st00) w) := by
  have hgn : 2 < w.heap.size := by
    unfold World.cell? at hm
    cases hh : w.heap[2]? with
    | none => simp [hh] at hm
    | some o => exact (Array.getElem?_eq_some_iff.1 hh).1
  have hr := h.lt
  have hsq := hdO_seq (s.length + 1) s a st00 ha (by omega)
  obtain ⟨B, hB⟩ : ∃ B, w.heap.size = B := ⟨_, rfl⟩
  obtain ⟨b1, hb1⟩ : ∃ x, B + 1 = x := ⟨_, rfl⟩
  obtain ⟨b2, hb2⟩ : ∃ x, b1 + 1 = x := ⟨_, rfl⟩
  obtain ⟨b3, hb3⟩ : ∃ x, b2 + 1 = x := ⟨_, rfl⟩
  obtain ⟨b4, hb4⟩ : ∃ x, b3 + 1 = x := ⟨_, rfl⟩
  obtain ⟨b5, hb5⟩ : ∃ x, b4 + 1 = x := ⟨_, rfl⟩
  obtain ⟨b6, hb6⟩ : ∃ x, b5 + 1 = x := ⟨_, rfl⟩
  obtain ⟨b7, hb7⟩ : ∃ x, b6 + 1 = x := ⟨_, rfl⟩
  obtain ⟨b8, hb8⟩ : ∃ x, b7 + 1 = x := ⟨_, rfl⟩
  obtain ⟨W7, hW7⟩ : ∃ W7, ((((((w.alloc (.cells #[.pointer (some ⟨r, 0, none⟩)] 64)).alloc (.cells #[.string ⟨#[]⟩, .string ⟨#[]⟩, .string ⟨#[]⟩, .string ⟨#[]⟩, .bool false] 34)).alloc (.cells #[.int .i64 0] 3)).alloc (.cells #[.nilIface] 71)).alloc (.cells #[.string ⟨#[]⟩, .string ⟨#[]⟩, .string ⟨#[]⟩, .string ⟨#[]⟩, .bool false] 34)).alloc (.cells #[.bool false] 4)).alloc (.cells #[.bool false] 4) = W7 := ⟨_, rfl⟩
  have hsz7 : W7.heap.size = b7 := by rw [← hW7]; simp only [World.size_alloc]; omega
  have hM7 : HdM w ⟨B, b1, b2, b3, b4, b5, b6⟩ r st00 W7 := by
    obtain ⟨x0, x1, x2, x3, x4, x5, x6, xb⟩ := al7 w B hB (.cells #[.pointer (some ⟨r, 0, none⟩)] 64) (.cells #[.string ⟨#[]⟩, .string ⟨#[]⟩, .string ⟨#[]⟩, .string ⟨#[]⟩, .bool false] 34) (.cells #[.int .i64 0] 3) (.cells #[.nilIface] 71) (.cells #[.string ⟨#[]⟩, .string ⟨#[]⟩, .string ⟨#[]⟩, .string ⟨#[]⟩, .bool false] 34) (.cells #[.bool false] 4) (.cells #[.bool false] 4) b1 b2 b3 b4 b5 b6 hb1 hb2 hb3 hb4 hb5 hb6
    rw [hW7] at x0 x1 x2 x3 x4 x5 x6 xb
    exact ⟨⟨x4, x5, x6⟩, ⟨x1, x2, x3⟩, x0, xb⟩
  have HW7 := Lib.hid hW7; have HM7 := Lib.hid (And.intro hM7 hsz7)
  have H1 := Lib.hid hb1; have H2 := Lib.hid hb2; have H3 := Lib.hid hb3; have H4 := Lib.hid hb4; have H5 := Lib.hid hb5; have H6 := Lib.hid hb6; have H7 := Lib.hid hb7; have H8 := Lib.hid hb8
  have HH := Lib.hid (And.intro h (And.intro hm (And.intro hg (And.intro hs ha)))); have HSQ := Lib.hid hsq
  clear h hm hg hsq hW7 hM7 hsz7 hb1 hb2 hb3 hb4 hb5 hb6 hb7 hb8
  refine (callsIn_wide (n := 9)).1 ?_
  refine callsIn_of_wp_marks Tryz.func64 rfl trivial ?_ rfl
  simp only [Tryz.ntmps64, List.size_toArray, List.length_cons, List.length_nil, Nat.reduceAdd, Nat.reduceSub, Array.replicate_succ, Array.replicate_zero, List.push_toArray, List.append_toArray, List.nil_append, List.cons_append]
  gi_wp2_with fail
  rw [HW7.out]
  refine (callsIn_wide.2 (lines_call r a _)).mono ?_
  rintro e w8 ⟨rfl, rfl⟩
  gi_wp2
  simp only [H1.out, H2.out, H3.out, H4.out, H5.out, H6.out, HM7.out.2, H7.out, H8.out]
  obtain ⟨W9, hW9⟩ : ∃ W9, (W7.alloc (.cells #[.pointer (some ⟨r, 0, none⟩)] 64)).alloc (.cells #[.int .i64 (a : Int)] 3) = W9 := ⟨_, rfl⟩
  have hb79 : Below W7.heap.size W7 W9 := by rw [← hW9]; exact ((Below.refl _ W7).alloc (Nat.le_refl _) _).alloc (by rw [World.size_alloc]; omega) _
  have hR9 : Boxed W9 b7 64 (.pointer (some ⟨r, 0, none⟩)) := by
    have h1 := World.alloc_heap_new W7 (.cells #[.pointer (some ⟨r, 0, none⟩)] 64)
    rw [HM7.out.2] at h1
    rw [← hW9]
    exact (Below.heap_alloc _ _ _ (by rw [World.size_alloc, HM7.out.2]; omega)).trans h1
  have hA9 : Boxed W9 b8 3 (.int .i64 (a : Int)) := by
    have h1 := World.alloc_heap_new (W7.alloc (.cells #[.pointer (some ⟨r, 0, none⟩)] 64)) (.cells #[.int .i64 (a : Int)] 3)
    rw [World.size_alloc, HM7.out.2, H8.out] at h1
    rw [← hW9]
    exact h1
  have hsz9 : W9.heap.size = b8 + 1 := by rw [← hW9, World.size_alloc, World.size_alloc, HM7.out.2, H8.out]
  have hw9 : Below w.heap.size w W9 := HM7.out.1.2.2.2.trans (hb79.mono HM7.out.1.2.2.2.size)
  rw [hW9]
  clear hW9
  have hok : (⟨B, b1, b2, b3, b4, b5, b6⟩ : Bl).ok w.heap.size := ⟨hB.symm, by rw [hB]; exact H1.out, H2.out, H3.out, H4.out, H5.out, H6.out⟩
  have hord : B < b6 ∧ b6 < b7 ∧ b7 < b8 := by have := H1.out; have := H2.out; have := H3.out; have := H4.out; have := H5.out; have := H6.out; have := H7.out; have := H8.out; omega
  have hI9 : HdI w ⟨B, b1, b2, b3, b4, b5, b6⟩ r s.length [] W9 := by
    exact ⟨st00, rfl, HM7.out.1.later hb79, by have h6 := H7.out; have h8 := H8.out; show b6 + 2 < _; omega⟩
  obtain ⟨SEQ, hSEQ⟩ : ∃ SEQ, seqL (s.length + 1) s a = SEQ := ⟨_, rfl⟩
  have HSQ2 := Lib.hid (show hdO s.length SEQ (.run st00) = .done (hdF (s.length + 1) s a st00).1 (hdF (s.length + 1) s a st00).2.1 (hdF (s.length + 1) s a st00).2.2 by rw [← hSEQ]; exact HSQ.out)
  refine range_box (F := Fence.wide) b8 w.heap.size [b7, b8] rfl (by decide) (gf := 127) (lb := #[.pointer (some ⟨b7, 0, none⟩), .pointer (some ⟨b8, 0, none⟩)]) rfl trivial (enters_of Tryz.func127 (by kernel_rfl) rfl) (by omega) (by intro k hk; simp at hk; omega) hw9.size (encs := fun x : Ln => #[.int .i64 x.1, .string ⟨x.2.toArray⟩]) (S := fun xs => xs = SEQ) (Sp := fun pre => pre <+: SEQ)
    (fun l J Jx W hW hJ hJx hY h0 => lines_in 8 l r b7 b8 w.heap.size (by decide) m s mk most lv a hs ha hr hgn (by omega) (by omega) SEQ hSEQ J Jx hJ hY W ((hW.block b7 (by omega)).trans hR9) ((hW.block b8 (by omega)).trans hA9) (BlkIs.later (BlkIs.later HH.out.1 hw9) hW) (by rw [hW.cell (p := ⟨2, 0, none⟩) (Nat.lt_of_lt_of_le hgn hw9.size), hw9.cell (p := ⟨2, 0, none⟩) hgn]; exact HH.out.2.1) h0)
    (fun _ => rfl) (HdI w ⟨B, b1, b2, b3, b4, b5, b6⟩ r s.length) (HdX w ⟨B, b1, b2, b3, b4, b5, b6⟩ s.length) (hdI_own hok (by show b6 < _; omega) (by show b6 < _; omega)) (hdX_own hok (by show b6 < _; omega) (by show b6 < _; omega)) hI9 ?a1 ?assign ?body ?done ?stop
  case assign =>
    intro l x W K hK
    gi_wp2
    exact hK
  case body =>
    rintro l pre ⟨q, L⟩ W hsp ⟨st, hst, hM, hz⟩
    have hbd := seqL_bd s (s.length + 1) a ha (q, L) (by rw [hSEQ]; exact hsp.subset (by simp))
    have hq := hbd.1; have hL := hbd.2
    simp only at hq hL
    have hnx : hdO s.length (pre ++ [(q, L)]) (.run st00) = stepO s.length (.run st) (q, L) := by rw [hdO_app, hst]; rfl
    have h7 : b7 < W.heap.size ∧ b8 < W.heap.size := by have h6 := H7.out; have h8 := H8.out; simp only at hz; omega
    have hRd : RdAt W r s mk most lv := BlkIs.later HH.out.1 hM.2.2.2
    have hsg : SgAt W := HH.out.2.2.1.below hM.2.2.2
    have hn0 : w.heap.size ≤ W.heap.size := hM.2.2.2.size
    obtain ⟨p, nm, ty⟩ := st
    have HN := Lib.hid (And.intro hq (And.intro hL (And.intro h7 (And.intro hn0 (And.intro hok hord)))))
    have HR := Lib.hid (And.intro hRd hsg)
    have HNX := Lib.hid hnx
    have HMM := Lib.hid hM
    clear hbd hq hL hsp hz hst hRd hsg hn0 h7 hnx hI9 hord hok hw9 hsz9 hA9 hR9 hb79 hSEQ
    by_cases hq0 : q < 0
    · have b0 : decide (q < 0) = true := decide_eq_true hq0
      obtain ⟨⟨c1, c2, c3⟩, ⟨c4, c5, c6, c7, c8⟩, ⟨⟨f10, f11, f12, f13, f14⟩, f2, f3⟩, ⟨⟨g10, g11, g12, g13, g14⟩, g2, g3⟩, f4, f5, f6⟩ := hd_cells hM
      have HX := Lib.hid (hd_put HN.out.2.2.2.2.1 hM p s.length 154 0 (.iface 68 (.agg #[.int .i64 154, .int .i64 (s.length : Nat)])) (hz_bad _ _ (by decide)) (hy_lit _ _ _ (by decide) rfl))
      clear hM
      have hsh := fun W2 (hW2 : W2.heap = W.heap) => rdshort_any r s mk most lv W2 (by have := HR.out.1; unfold RdAt BlkIs at this ⊢; rw [hW2]; exact this)
      have HSH := Lib.hid hsh
      clear hsh
      have e12 : ¬ b1 = b2 := by have := HN.out.2.2.2.2.1; unfold Bl.ok at this; simp only at this; omega
      have e13 : ¬ b1 = b3 := by have := HN.out.2.2.2.2.1; unfold Bl.ok at this; simp only at this; omega
      have e23 : ¬ b2 = b3 := by have := HN.out.2.2.2.2.1; unfold Bl.ok at this; simp only at this; omega
      have e21 : ¬ b2 = b1 := fun e => e12 e.symm
      have e31 : ¬ b3 = b1 := fun e => e13 e.symm
      have e32 : ¬ b3 = b2 := fun e => e23 e.symm
      gi_wp2
      gi_region_with (gi_at_call 62; refine (CallsIn.inRound l (callsIn_wide.2 (HSH.out W.drew rfl))).mono ?_; rintro e w' ⟨rfl, rfl⟩)
      all_goals gi_wp2
      all_goals refine hd_leaf (P := p) (p := p) (q := s.length) (c := 154) ?_ (by rw [HNX.out, stepO_neg _ _ _ _ hq0]) (fun _ => rfl)
      all_goals exact hd_drew HX.out
    · obtain ⟨qn, rfl⟩ : ∃ qn : Nat, q = qn := ⟨q.toNat, by omega⟩
      have b0 : decide ((qn : Int) < 0) = false := decide_eq_false hq0
      have hqn : qn ≤ 2147483648 := by have := HN.out.1; omega
      clear hq0
      have e12 : ¬ b1 = b2 := by have := HN.out.2.2.2.2.1; unfold Bl.ok at this; simp only at this; omega
      have e13 : ¬ b1 = b3 := by have := HN.out.2.2.2.2.1; unfold Bl.ok at this; simp only at this; omega
      have e23 : ¬ b2 = b3 := by have := HN.out.2.2.2.2.1; unfold Bl.ok at this; simp only at this; omega
      have e21 : ¬ b2 = b1 := fun e => e12 e.symm
      have e31 : ¬ b3 = b1 := fun e => e13 e.symm
      have e32 : ¬ b3 = b2 := fun e => e23 e.symm
      by_cases hL0 : L = []
      · subst hL0
        obtain ⟨⟨c1, c2, c3⟩, ⟨c4, c5, c6, c7, c8⟩, ⟨⟨f10, f11, f12, f13, f14⟩, f2, f3⟩, ⟨⟨g10, g11, g12, g13, g14⟩, g2, g3⟩, f4, f5, f6⟩ := hd_cells hM
        obtain ⟨d, hd⟩ : ∃ d, qn + 2 = d := ⟨_, rfl⟩
        obtain ⟨v1, v2⟩ := addW qn 2 d hd (by omega)
        cases nm with
        | false =>
          have HX := Lib.hid (hd_put HN.out.2.2.2.2.1 hM p qn 152 0 (.iface 68 (.agg #[.int .i64 152, .int .i64 (qn : Nat)])) (hz_bad _ _ (by decide)) (hy_lit _ _ _ (by decide) rfl))
          clear hM hd v1 v2 hqn
          gi_wp2
          refine hd_leaf (P := p) (p := p) (q := qn) (c := 152) ?_ (by rw [HNX.out, stepO_end]; rfl) (fun _ => rfl)
          exact HX.out
        | true =>
          have HX := Lib.hid (hd_put HN.out.2.2.2.2.1 hM p d 0 (wrap64 ((qn : Int) + 2)) .nilIface v1 rfl)
          have HD := Lib.hid hd
          clear hM hd hqn v1 v2
          gi_wp2
          refine hd_leaf (P := p) (p := p) (q := d) (c := 0) ?_ (by rw [HNX.out, stepO_end, ← HD.out]; rfl) (fun _ => rfl)
          exact HX.out
      · have t1 : (L == []) = false := beq_false_of_ne hL0
        have t2 : L.isEmpty = false := by cases L with | nil => exact absurd rfl hL0 | cons => rfl
        have t3 : decide (L = []) = false := decide_eq_false hL0
        have hlen := plR_len L
        have hpl := pl_any ⟨L.toArray⟩ W (by rw [size_mk]; have := HN.out.2.1; omega) HR.out.2
        unfold PlPost plV at hpl
        rw [show (⟨L.toArray⟩ : ByteArray).data.toList = L from rfl] at hpl
        obtain ⟨⟨N, V, e0⟩, hNV⟩ : ∃ r, plR L = r := ⟨_, rfl⟩
        rw [hNV] at hpl hlen
        have HLN := Lib.hid hlen
        have HPL := Lib.hid hpl
        have HNV := Lib.hid hNV
        have HNX2 := Lib.hid (HNX.out.trans (stepO_line s.length ⟨p, nm, ty⟩ qn L hL0))
        clear hlen hpl hNV hM HNX
        gi_wp2_with fail
        refine (CallsIn.inRound l (callsIn_wide.2 HPL.out)).mono ?_
        rintro e w1 ⟨x0, rfl, hb1⟩
        obtain ⟨fb, hfb⟩ : ∃ fb, w1.heap.size = fb := ⟨_, rfl⟩
        obtain ⟨W3, hW3⟩ : ∃ W3, w1.alloc (.cells #[.string ⟨N.toArray⟩, .string ⟨V.toArray⟩] 103) = W3 := ⟨_, rfl⟩
        have hb13 : Below w1.heap.size w1 W3 := by rw [← hW3]; exact (Below.refl _ _).alloc (Nat.le_refl _) _
        have hb3 : Below W.heap.size W W3 := hb1.trans (hb13.mono hb1.size)
        have hF3 : BlkIs W3 fb #[.string ⟨N.toArray⟩, .string ⟨V.toArray⟩] 103 := by rw [← hW3, ← hfb]; exact blkIs_new _ _ _
        have hM3 := HMM.out.later hb3
        have hK3 : Kp w.heap.size b7 b8 W W3 := Kp.later hb3 HN.out.2.2.1.1 HN.out.2.2.1.2 HN.out.2.2.2.1
        have hsg3 : SgAt W3 := HR.out.2.below hb3
        obtain ⟨⟨c1, c2, c3⟩, ⟨c4, c5, c6, c7, c8⟩, ⟨⟨f10, f11, f12, f13, f14⟩, f2, f3⟩, ⟨⟨g10, g11, g12, g13, g14⟩, g2, g3⟩, f4, f5, f6⟩ := hd_cells hM3
        have a1 := hF3.cell 0 _ rfl
        have a2 := hF3.cell 1 _ rfl
        have HB3 := Lib.hid (And.intro hb3 (And.intro hF3 (And.intro hM3 (And.intro hK3 hsg3))))
        have HW3 := Lib.hid hW3; have HFB := Lib.hid hfb
        clear hb1 hb13 hb3 hF3 hM3 hK3 hsg3 hW3 hfb
        gi_upto_region 13 with fail
        simp only [HW3.out, HFB.out]
        by_cases he0 : e0 = 0
        · subst he0
          obtain ⟨k, hk⟩ : ∃ k, lowL N = k := ⟨_, rfl⟩
          have hlow := olower_any ⟨N.toArray⟩ W3 (by rw [size_mk]; have := HN.out.2.1; have := HLN.out.1; omega)
          rw [show (⟨N.toArray⟩ : ByteArray).data.toList = N from rfl, hk] at hlow
          have HLOW := Lib.hid hlow
          have HK := Lib.hid hk
          clear hlow hk
          gi_wp2_with fail
          refine (CallsIn.inRound l (callsIn_wide.2 HLOW.out)).mono ?_
          rintro e w4 ⟨rfl, hb4⟩
          have hF4 : BlkIs w4 fb #[.string ⟨N.toArray⟩, .string ⟨V.toArray⟩] 103 := HB3.out.2.1.later hb4
          have hM4 := HB3.out.2.2.1.later hb4
          have hK4 : Kp w.heap.size b7 b8 W w4 := HB3.out.2.2.2.1.trans (Kp.later hb4 (Nat.lt_of_lt_of_le HN.out.2.2.1.1 HB3.out.1.size) (Nat.lt_of_lt_of_le HN.out.2.2.1.2 HB3.out.1.size) (Nat.le_trans HN.out.2.2.2.1 HB3.out.1.size))
          have hsg4 : SgAt w4 := HB3.out.2.2.2.2.below hb4
          have hz4 : b7 < w4.heap.size ∧ b8 < w4.heap.size := ⟨Nat.lt_of_lt_of_le HN.out.2.2.1.1 hK4.ko.size, Nat.lt_of_lt_of_le HN.out.2.2.1.2 hK4.ko.size⟩
          clear c1 c2 c3 c4 c5 c6 c7 c8 f10 f11 f12 f13 f14 f2 f3 g10 g11 g12 g13 g14 g2 g3 f4 f5 f6 a1 a2
          obtain ⟨⟨c1, c2, c3⟩, ⟨c4, c5, c6, c7, c8⟩, ⟨⟨f10, f11, f12, f13, f14⟩, f2, f3⟩, ⟨⟨g10, g11, g12, g13, g14⟩, g2, g3⟩, f4, f5, f6⟩ := hd_cells hM4
          have a1 := hF4.cell 0 _ rfl
          have a2 := hF4.cell 1 _ rfl
          have HB4 := Lib.hid (And.intro hF4 (And.intro hM4 (And.intro hK4 (And.intro hsg4 hz4))))
          clear hb4 hF4 hM4 hK4 hsg4 hz4
          have hok := HN.out.2.2.2.2.1
          have hpV : V.length ≤ 1099511627776 := by have := HLN.out.2; have := HN.out.2.1; omega
          have HOK := Lib.hid (And.intro hok hpV)
          clear hok hpV
          by_cases hcd : k = cdN
          · subst hcd
            have HST := Lib.hid (hdStep_cd ⟨p, nm, ty⟩ L N V HNV.out HK.out)
            cases nm with
            | true =>
              have HS2 := Lib.hid (HST.out.trans (if_pos rfl))
              have HX := Lib.hid (hd_put HOK.out.1 HB4.out.2.1 p qn 152 0 (.iface 68 (.agg #[.int .i64 152, .int .i64 (qn : Nat)])) (hz_bad _ _ (by decide)) (hy_lit _ _ _ (by decide) rfl))
              gi_wp2
              refine hd_leaf (P := p) (p := p) (q := qn) (c := 152) ?_ (by rw [HNX2.out, HS2.out]; rfl) (fun _ => rfl)
              exact ⟨HB4.out.2.2.1.ko.trans HX.out.1, HX.out.2⟩
            | false =>
              have HS2 := Lib.hid (HST.out.trans (if_neg (by simp)))
              have hdsp := dispose_any b4 p V w4 HB4.out.2.1.1.1 HOK.out.2 HB4.out.2.2.2.1
              unfold DspPost at hdsp
              obtain ⟨od, hod⟩ : ∃ od, dsp p V = od := ⟨_, rfl⟩
              rw [hod] at hdsp
              have HDS := Lib.hid hdsp
              have HOD := Lib.hid hod
              clear hdsp hod
              gi_wp2_with fail
              refine (CallsIn.inRound l (callsIn_wide.2 HDS.out)).mono ?_
              rintro e w5 ⟨q5, rfl, hq5, hr5, hg5⟩
              have hM5 := HdM.turn HOK.out.1 HB4.out.2.1 hg5 hq5
              have hb47 : w.heap.size ≤ b4 ∧ b4 ≠ b7 ∧ b4 ≠ b8 := by have h1 := HOK.out.1; have h2 := HN.out.2.2.2.2.2; unfold Bl.ok at h1; simp only at h1; omega
              have hK5 : Kp w.heap.size b7 b8 W w5 := HB4.out.2.2.1.trans (Kp.gb hg5 (fun j o e ho => by injection e with e; subst e; have h1 := HB4.out.2.1.1.1; unfold PrtIs BlkIs at h1; rw [h1] at ho; injection ho with ho; subst ho; rfl) HB4.out.2.2.2.2.1 HB4.out.2.2.2.2.2 (Nat.le_trans HN.out.2.2.2.1 HB4.out.2.2.1.ko.size) (fun j e => by injection e with e; subst e; exact hb47))
              have hz5 := Nat.lt_of_lt_of_le HB4.out.2.2.2.2.2 hg5.size
              clear c1 c2 c3 c4 c5 c6 c7 c8 f10 f11 f12 f13 f14 f2 f3 g10 g11 g12 g13 g14 g2 g3 f4 f5 f6 a1 a2 hb47
              obtain ⟨⟨c1, c2, c3⟩, ⟨c4, c5, c6, c7, c8⟩, ⟨⟨f10, f11, f12, f13, f14⟩, f2, f3⟩, ⟨⟨g10, g11, g12, g13, g14⟩, g2, g3⟩, f4, f5, f6⟩ := hd_cells hM5
              cases od with
              | none =>
                have HX := Lib.hid (hd_put HOK.out.1 hM5 q5 qn 152 0 (.iface 68 (.agg #[.int .i64 152, .int .i64 (qn : Nat)])) (hz_bad _ _ (by decide)) (hy_lit _ _ _ (by decide) rfl))
                have HK5 := Lib.hid hK5
                clear hM5 hK5 hz5 hq5 hr5 hg5
                gi_wp2
                refine hd_leaf (P := q5) (p := p) (q := qn) (c := 152) ?_ (by rw [HNX2.out, HS2.out, HOD.out]; rfl) (fun e => by cases e)
                exact ⟨HK5.out.ko.trans HX.out.1, HX.out.2⟩
              | some rr =>
                obtain rfl := hr5 rr rfl
                have hM6 := HdM.mark5 HOK.out.1 hM5 true
                have hb57 : w.heap.size ≤ b5 ∧ b5 ≠ b7 ∧ b5 ≠ b8 := by have h1 := HOK.out.1; have h2 := HN.out.2.2.2.2.2; unfold Bl.ok at h1; simp only at h1; omega
                have hK6 := hK5.trans (Kp.set hM5.1.2.1 0 (.bool true) (Nat.lt_of_lt_of_le HN.out.2.2.1.1 hK5.ko.size) (Nat.lt_of_lt_of_le HN.out.2.2.1.2 hK5.ko.size) (Nat.le_trans HN.out.2.2.2.1 hK5.ko.size) hb57.1 hb57.2.1 hb57.2.2)
                clear hb57
                have HF := Lib.hid (And.intro hM6 (And.intro hK6 hz5))
                clear hM5 hK5 hM6 hK6 hz5 hq5 hr5 hg5
                gi_wp2
                refine box_norm HF.out.2.1 ⟨_, ?_, HF.out.1, ?_⟩
                · rw [HNX2.out, HS2.out, HOD.out]; rfl
                · have h1 := HF.out.2.2; have h6 := H7.out; have h8 := H8.out; show b6 + 2 < _; rw [World.size_setCell]; omega
          · have k1 : (k == cdN) = false := beq_false_of_ne hcd
            have k2 : decide (k = cdN) = false := decide_eq_false hcd
            unfold cdN at k1 k2
            by_cases hct : k = ctN
            · subst hct
              have HST := Lib.hid (hdStep_ct ⟨p, nm, ty⟩ L N V HNV.out (by rw [HK.out]; exact hcd) HK.out)
              cases ty with
              | true =>
                have HS2 := Lib.hid (HST.out.trans (if_pos rfl))
                have HX := Lib.hid (hd_put HOK.out.1 HB4.out.2.1 p qn 152 0 (.iface 68 (.agg #[.int .i64 152, .int .i64 (qn : Nat)])) (hz_bad _ _ (by decide)) (hy_lit _ _ _ (by decide) rfl))
                gi_wp2
                refine hd_leaf (P := p) (p := p) (q := qn) (c := 152) ?_ (by rw [HNX2.out, HS2.out]; rfl) (fun _ => rfl)
                exact ⟨HB4.out.2.2.1.ko.trans HX.out.1, HX.out.2⟩
              | false =>
                have HS2 := Lib.hid (HST.out.trans (if_neg (by simp)))
                have hM5 := HdM.turn HOK.out.1 HB4.out.2.1 (gb_set w4 b4 2 (.string ⟨V.toArray⟩)) (q := ⟨p.name, p.file, V, p.body, p.has⟩) (BlkIs.set HB4.out.2.1.1.1 2 (.string ⟨V.toArray⟩))
                have hM6 := HdM.mark6 HOK.out.1 hM5 true
                have hb47 : (w.heap.size ≤ b4 ∧ b4 ≠ b7 ∧ b4 ≠ b8) ∧ (w.heap.size ≤ b6 ∧ b6 ≠ b7 ∧ b6 ≠ b8) ∧ ¬ b4 = b6 ∧ ¬ b6 = b4 := by have h1 := HOK.out.1; have h2 := HN.out.2.2.2.2.2; unfold Bl.ok at h1; simp only at h1; omega
                have hK5 := HB4.out.2.2.1.trans (Kp.set HB4.out.2.1.1.1 2 (.string ⟨V.toArray⟩) HB4.out.2.2.2.2.1 HB4.out.2.2.2.2.2 (Nat.le_trans HN.out.2.2.2.1 HB4.out.2.2.1.ko.size) hb47.1.1 hb47.1.2.1 hb47.1.2.2)
                have hK6 := hK5.trans (Kp.set hM5.1.2.2 0 (.bool true) (Nat.lt_of_lt_of_le HN.out.2.2.1.1 hK5.ko.size) (Nat.lt_of_lt_of_le HN.out.2.2.1.2 hK5.ko.size) (Nat.le_trans HN.out.2.2.2.1 hK5.ko.size) hb47.2.1.1 hb47.2.1.2.1 hb47.2.1.2.2)
                have HF := Lib.hid (And.intro hM6 (And.intro hK6 HB4.out.2.2.2.2.2))
                obtain ⟨y1, y2⟩ := hb47.2.2
                clear hM5 hK5 hM6 hK6 hb47
                gi_wp2
                refine box_norm HF.out.2.1 ⟨_, ?_, HF.out.1, ?_⟩
                · rw [HNX2.out, HS2.out]; rfl
                · have h1 := HF.out.2.2; have h6 := H7.out; have h8 := H8.out; show b6 + 2 < _; rw [World.size_setCell, World.size_setCell]; omega
            · have k3 : (k == ctN) = false := beq_false_of_ne hct
              have k4 : decide (k = ctN) = false := decide_eq_false hct
              unfold ctN at k3 k4
              have HS2 := Lib.hid (hdStep_no ⟨p, nm, ty⟩ L N V HNV.out (by rw [HK.out]; exact hcd) (by rw [HK.out]; exact hct))
              gi_wp2
              refine box_norm HB4.out.2.2.1 ⟨_, ?_, HB4.out.2.1, ?_⟩
              · rw [HNX2.out, HS2.out]; rfl
              · have h1 := HB4.out.2.2.2.2.2; have h6 := H7.out; have h8 := H8.out; show b6 + 2 < _; omega
        · have n1 : ((e0 : Nat) : Int) ≠ 0 := by omega
          have n2 : (((e0 : Nat) : Int) == 0) = false := beq_false_of_ne n1
          have n3 : (((e0 : Nat) : Int) != 0) = true := by simpa using he0
          have hx := hd_put HN.out.2.2.2.2.1 HB3.out.2.2.1 p qn e0 0 (.iface 68 (.agg #[.int .i64 (e0 : Nat), .int .i64 (qn : Nat)])) (hz_bad _ _ he0) (hy_bad _ _ he0)
          have HX := Lib.hid hx
          clear hx
          gi_wp2
          refine hd_leaf (P := p) (p := p) (q := qn) (c := e0) ?_ (by rw [HNX2.out, hdStep_bad _ _ _ _ _ HNV.out he0, if_pos he0]) (fun _ => rfl)
          exact ⟨HB3.out.2.2.2.1.ko.trans HX.out.1, HX.out.2⟩
  case done =>
    rintro D xs W hD rfl ⟨st, hst, hM⟩ hK
    rw [HSQ2.out] at hst
    cases hst
  case stop =>
    rintro D pre W hD hpre ⟨P, p, q, c, hd, hP, hE⟩ hK
    have hfin := hdO_pre _ _ _ _ _ _ _ hpre hd
    rw [HSQ2.out] at hfin
    injection hfin with f1 f2 f3
    have hDlt : D < W.heap.size := (Array.getElem?_eq_some_iff.1 hK).1
    have hne : ∀ k, k ≤ b8 → (W.putObj D (.deferred none)).heap[k]? = W.heap[k]? := fun k hk => World.putObj_heap_other (by omega)
    have g1 := hok.2.1; have g2 := hok.2.2.1; have g3 := hok.2.2.2.1
    have k1 : PrtIs (W.putObj D (.deferred none)) b1 P := (hne b1 (by simp only at g1 g2 g3; omega)).trans hE.1
    have k2 : Boxed (W.putObj D (.deferred none)) b2 3 (.int .i64 (hdPl q c : Nat)) := (hne b2 (by simp only at g1 g2 g3; omega)).trans hE.2.1
    have k3 : Boxed (W.putObj D (.deferred none)) b3 71 (hdErr q c) := (hne b3 (by simp only at g1 g2 g3; omega)).trans hE.2.2.1
    have hbl := hE.2.2.2.trans ((Below.refl w.heap.size W).grown (grownBy_putObj' W D (.deferred none)) hE.2.2.2.size (fun k e => by injection e; omega))
    clear g1 g2 g3 hne
    have cc0 : (W.putObj D (.deferred none)).cell? ⟨b1, 0, none⟩ = some (.string ⟨P.name.toArray⟩) := BlkIs.cell k1 0 _ rfl
    have cc1 : (W.putObj D (.deferred none)).cell? ⟨b1, 1, none⟩ = some (.string ⟨P.file.toArray⟩) := BlkIs.cell k1 1 _ rfl
    have cc2 : (W.putObj D (.deferred none)).cell? ⟨b1, 2, none⟩ = some (.string ⟨P.media.toArray⟩) := BlkIs.cell k1 2 _ rfl
    have cc3 : (W.putObj D (.deferred none)).cell? ⟨b1, 3, none⟩ = some (.string ⟨P.body.toArray⟩) := BlkIs.cell k1 3 _ rfl
    have cc4 : (W.putObj D (.deferred none)).cell? ⟨b1, 4, none⟩ = some (.bool P.has) := BlkIs.cell k1 4 _ rfl
    have cc5 := k2.cell
    have cc6 := k3.cell
    obtain ⟨qq, hqq⟩ : ∃ qq, hdPl q c = qq := ⟨_, rfl⟩
    obtain ⟨ev, hev⟩ : ∃ ev, hdErr q c = ev := ⟨_, rfl⟩
    have hpost : HdPost (hdF (s.length + 1) s a st00) w (.returned (.tuple #[.agg (prtC P), .int .i64 (qq : Nat), ev])) (W.putObj D (.deferred none)) := ⟨P, by rw [f2, f3, hqq, hev], by rw [f1, f3]; exact hP, hbl⟩
    rw [hqq] at cc5; rw [hev] at cc6
    clear f1 f2 f3 hE k1 k2 k3 hbl hqq hev hP hd hpre HSQ HSQ2 hSEQ
    obtain ⟨W', hW'⟩ : ∃ W', W.putObj D (.deferred none) = W' := ⟨_, rfl⟩
    gi_wp2
    refine ⟨by simp, .inl ⟨_, _, rfl, run_takeDeferred hK, ?_⟩⟩
    rw [hW'] at cc0 cc1 cc2 cc3 cc4 cc5 cc6 hpost ⊢
    clear hW' hK
    refine ⟨_, ?res, hpost⟩
    rw [results_cell3 rfl]
    go_simp
end Go.Proofs.YtlfdeenekjklgaaGreatDoor
namespace Go.Proofs.YtlfdeenekjklgaaGreatDoor
open Go.RowKit
set_option linter.unusedSimpArgs false
set_option linter.unusedVariables false
set_option maxRecDepth 1000000
theorem w64p (i : Nat) (h : i ≤ 2199023255552) : wrap64 ((i : Int) + 1) = (i : Int) + 1 := by unfold wrap64; omega
theorem size_q (l : List UInt8) : (⟨l.toArray⟩ : ByteArray).size = l.length := by rw [← size_list]
theorem cont_l (a t : List UInt8) (m : Int) (w : World) (hs : a.length ≤ 1073741824) (hm : w.cell? ⟨2, 0, none⟩ = some (.int .i64 m)) :
    Calls Tryz.prog 89 #[.string ⟨a.toArray⟩, .string ⟨t.toArray⟩] w fun e w' => e = .returned (.bool (Lib.contains a t)) ∧ w' = w :=
  Tryz.strings_Contains ⟨a.toArray⟩ ⟨t.toArray⟩ m w (by rw [size_q]; exact Nat.lt_of_le_of_lt hs (by decide)) hm
theorem prt_bd (p : Prt) (t : Nat) (h : prtLen p ≤ t) (ht : t ≤ 1073741824) : p.body.length ≤ 1073741824 ∧ p.name.length ≤ 1073741824 ∧ p.file.length ≤ 1073741824 ∧ p.media.length ≤ 1073741824 := by unfold prtLen at h; omega
set_option maxHeartbeats 2000000 in
theorem sstood_any (v : Value) (l : List Prt) (t : List UInt8) (m : Int) (w : World) (hT : totQ l ≤ 1073741824) (hN : l.length ≤ 4294967296) (h : PrtsIn w v l) (hm : w.cell? ⟨2, 0, none⟩ = some (.int .i64 m)) :
    Calls Tryz.prog 47 #[v, .string ⟨t.toArray⟩] w fun e w' => e = .returned (.bool (stood l t)) ∧ Below w.heap.size w w' := by
  obtain ⟨ao, cap, rfl, hat⟩ := h
  obtain ⟨L, hL⟩ : ∃ L, w.heap.size = L := ⟨_, rfl⟩
  have hbb : Below L w w := by rw [← hL]; exact Below.refl _ w
  have HL := Lib.hid hL; clear hL
  have HATW := Lib.hid hat; clear hat
  have HM := Lib.hid hm; clear hm
  go_enter Tryz.func47, Tryz.ntmps47
  go_wp2
  go_loopw [11] (fun iv wr => ∃ i : Nat, iv = .int .i64 i ∧ i ≤ l.length ∧ (∀ j p, j < i → l[j]? = some p → std t p = false) ∧ Below L w wr) (fun iv _ => l.length - (intOf iv).toNat)
  case atStart => exact ⟨0, rfl, Nat.zero_le _, fun j p hj => by omega, hbb⟩
  case round =>
    clear hbb
    obtain ⟨i, rfl, hi, hno, hb⟩ := hrel
    by_cases hlt : i < l.length
    · obtain ⟨p, hp⟩ : ∃ p, l[i]? = some p := ⟨_, List.getElem?_eq_getElem hlt⟩
      have hb' : Below w.heap.size w wr := by rw [HL.out]; exact hb
      obtain ⟨g, o, rfl, c0, c1, c2, c3, c4, hg⟩ := HATW.out.below hb' i p hp
      have hbd := prt_bd p _ (totQ_get l i p hp) hT
      have k0 : (0 : Int) ≤ (i : Int) := Int.natCast_nonneg _
      have k1 : (i : Int) < (l.length : Int) := by omega
      have hwi := w64p i (Nat.le_trans hi (Nat.le_trans hN (by decide)))
      have hb2 : Below L w (wr.alloc (.cells #[.string ⟨p.name.toArray⟩, .string ⟨p.file.toArray⟩, .string ⟨p.media.toArray⟩, .string ⟨p.body.toArray⟩, .bool p.has] 34)) := hb.alloc (bsz hb HL) _
      have hmx : (wr.alloc (.cells #[.string ⟨p.name.toArray⟩, .string ⟨p.file.toArray⟩, .string ⟨p.media.toArray⟩, .string ⟨p.body.toArray⟩, .bool p.has] 34)).cell? ⟨2, 0, none⟩ = some (.int .i64 m) := mx_later (B := 0) HM.out (by rw [HL.out]; exact hb2)
      have i0 : ∀ (a b c d : Value) (W : World), (Instr.index 143 (.agg #[a, b, c, d]) (.int .i64 0)).run Tryz.prog W = .ok a W := fun a b c d W => by kernel_rfl
      have i1 : ∀ (a b c d : Value) (W : World), (Instr.index 143 (.agg #[a, b, c, d]) (.int .i64 1)).run Tryz.prog W = .ok b W := fun a b c d W => by kernel_rfl
      have i2 : ∀ (a b c d : Value) (W : World), (Instr.index 143 (.agg #[a, b, c, d]) (.int .i64 2)).run Tryz.prog W = .ok c W := fun a b c d W => by kernel_rfl
      have i3 : ∀ (a b c d : Value) (W : World), (Instr.index 143 (.agg #[a, b, c, d]) (.int .i64 3)).run Tryz.prog W = .ok d W := fun a b c d W => by kernel_rfl
      have r0 := cont_l p.body t m _ hbd.1 hmx
      have r1 := cont_l p.name t m _ hbd.2.1 hmx
      have r2 := cont_l p.file t m _ hbd.2.2.1 hmx
      have r3 := cont_l p.media t m _ hbd.2.2.2 hmx
      obtain ⟨b0, hb0⟩ : ∃ b, Lib.contains p.body t = b := ⟨_, rfl⟩
      obtain ⟨b1, hb1⟩ : ∃ b, Lib.contains p.name t = b := ⟨_, rfl⟩
      obtain ⟨b2, hb2'⟩ : ∃ b, Lib.contains p.file t = b := ⟨_, rfl⟩
      obtain ⟨b3, hb3⟩ : ∃ b, Lib.contains p.media t = b := ⟨_, rfl⟩
      have hstd : std t p = (b0 || (b1 || (b2 || b3))) := by unfold std; rw [hb0, hb1, hb2', hb3]
      rw [hb0] at r0
      rw [hb1] at r1
      rw [hb2'] at r2
      rw [hb3] at r3
      have HS := Lib.hid (And.intro hstd (And.intro hp (And.intro hno hb2))); have HW := Lib.hid hwi
      have R0 := Lib.hid r0; have R1 := Lib.hid r1; have R2 := Lib.hid r2; have R3 := Lib.hid r3
      clear hstd hp hno hb2 hb hb' hwi r0 r1 r2 r3 hb0 hb1 hb2' hb3 hmx
      go_wp2
      refine wp_loop_rounds 5 ?_
      rw [rounds_succ]
      go_wp2_with fail
      refine (R0.out).mono ?_
      rintro e W ⟨rfl, hW⟩
      rw [hW]
      clear hW W
      cases b0 with
      | true =>
        have hy := stood_yes l t i p HS.out.2.1 (by rw [HS.out.1]; simp)
        have HY := Lib.hid hy
        clear hy
        go_wp2
        go_ret
        rw [HY.out, HL.out]
        exact ⟨rfl, HS.out.2.2.2⟩
      | false =>
        go_wp2
        rw [rounds_succ]
        go_wp2_with fail
        refine (R1.out).mono ?_
        rintro e W ⟨rfl, hW⟩
        rw [hW]
        clear hW W
        cases b1 with
        | true =>
          have hy := stood_yes l t i p HS.out.2.1 (by rw [HS.out.1]; simp)
          have HY := Lib.hid hy
          clear hy
          go_wp2
          go_ret
          rw [HY.out, HL.out]
          exact ⟨rfl, HS.out.2.2.2⟩
        | false =>
          go_wp2
          rw [rounds_succ]
          go_wp2_with fail
          refine (R2.out).mono ?_
          rintro e W ⟨rfl, hW⟩
          rw [hW]
          clear hW W
          cases b2 with
          | true =>
            have hy := stood_yes l t i p HS.out.2.1 (by rw [HS.out.1]; simp)
            have HY := Lib.hid hy
            clear hy
            go_wp2
            go_ret
            rw [HY.out, HL.out]
            exact ⟨rfl, HS.out.2.2.2⟩
          | false =>
            go_wp2
            rw [rounds_succ]
            go_wp2_with fail
            refine (R3.out).mono ?_
            rintro e W ⟨rfl, hW⟩
            rw [hW]
            clear hW W
            cases b3 with
            | true =>
              have hy := stood_yes l t i p HS.out.2.1 (by rw [HS.out.1]; simp)
              have HY := Lib.hid hy
              clear hy
              go_wp2
              go_ret
              rw [HY.out, HL.out]
              exact ⟨rfl, HS.out.2.2.2⟩
            | false =>
              go_wp2
              rw [rounds_succ]
              have hn2 : ∀ j p, j < i + 1 → l[j]? = some p → std t p = false := fun j q hj hq => by
                by_cases hji : j < i
                · exact HS.out.2.2.1 j q hji hq
                · obtain rfl : j = i := by omega
                  rw [HS.out.2.1] at hq; injection hq with hq; subst hq
                  rw [HS.out.1]; rfl
              have HN2 := Lib.hid hn2
              clear hn2
              go_wp2
              have hwi := HW.out
              go_roundw
              case rel => (try rw [hwi]); clear hwi; exact ⟨i + 1, by go_num, hlt, HN2.out, HS.out.2.2.2⟩
              case measure => (try rw [hwi]); clear hwi; simp [intOf]; omega
    · have hd : decide (i < l.length) = false := decide_eq_false hlt
      have hf := stood_no l t (fun j p hj hp => hno j p (by omega) hp)
      have HF := Lib.hid (And.intro hf hb)
      clear hf hno hb
      go_wp2
      go_ret
      rw [HF.out.1, HL.out]
      exact ⟨rfl, HF.out.2⟩
end Go.Proofs.YtlfdeenekjklgaaGreatDoor
