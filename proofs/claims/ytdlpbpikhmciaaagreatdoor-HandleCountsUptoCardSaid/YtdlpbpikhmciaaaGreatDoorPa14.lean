/- The walk of a visit's count at a cookie that is counted. Conditions: texts are small; the tables hold what their texts lay. -/
import Derived.Test.YtdlpbpikhmciaaaGreatDoorPk11
import Derived.Test.YtdlpbpikhmciaaaGreatDoorPk12
import Derived.Test.YtdlpbpikhmciaaaGreatDoorPk09
import Derived.Test.YtdlpbpikhmciaaaGreatDoorPa13
import Derived.StillTailTactics
import Derived.WalkMore
namespace Go.Proofs.YtdlpbpikhmciaaaGreatDoor
open Go.RowKit
set_option linter.unusedSimpArgs false
set_option linter.unusedVariables false
set_option maxRecDepth 1000000
def ckN : List UInt8 := [67, 111, 111, 107, 105, 101]
def scN : List UInt8 := [83, 101, 116, 45, 67, 111, 111, 107, 105, 101]
theorem all_ck (x : List UInt8) : allF ckN [(ckN, x)] = [x] := by kernel_rfl
theorem ownsRow_two (w : World) (B : Nat) (e : TypeId) (x y : Value) (hB : B ≤ w.heap.size) : (w.alloc (.cells #[x, y] e)).ownsRow B e 2 (.slice (some ⟨w.heap.size, 0, none⟩) 1 1) 1 [x, y] :=
  ⟨by simp, .inr ⟨w.heap.size, 1, #[x, y], rfl, hB, heap_alloc_new w _, Nat.le_refl _, by unfold maxLen; omega, rfl, rfl⟩⟩
set_option maxHeartbeats 4000000 in
theorem said2_any (t : ByteArray) (w : World) : Calls Tryz.prog 79 #[.string t] w fun e w' => ∃ g, e = .returned (.agg (rC 200 ⟨#[]⟩ (.slice (some ⟨g, 0, none⟩) 1 1) t)) ∧ w'.ownsRow w.heap.size 43 2 (.slice (some ⟨g, 0, none⟩) 1 1) 1 [.string ⟨ctL.toArray⟩, .string ⟨tpL.toArray⟩] ∧ Below w.heap.size w w' := by
  obtain ⟨p, hp⟩ : ∃ p, w.heap.size = p := ⟨_, rfl⟩
  go_enter Tryz.func79, Tryz.ntmps79
  go_wp2
  refine bodyPost_ret (v := .agg (rC 200 ⟨#[]⟩ (.slice (some ⟨p + 1, 0, none⟩) 1 1) t)) ?r rfl ⟨_, rfl, ?f, ?b⟩
  case r => exact results_respC rfl _ _ p _ (0, 0) rfl (by rw [← hp]; exact (blkIs_new w _ _).alloc _) rfl
  case f =>
    have := ownsRow_two (w.alloc (.cells (rC 200 ⟨#[]⟩ (.slice (some ⟨p + 1, 0, none⟩) 1 1) t) 46)) p 43 (.string ⟨ctL.toArray⟩) (.string ⟨tpL.toArray⟩) (by rw [World.size_alloc, hp]; omega)
    rw [World.size_alloc, hp] at this
    rw [hp]
    exact this
  case b => exact (below1 w _).alloc (by simp) _
theorem ck_row {W : World} {b : Nat} {v : Value} {L : List Fld} {n : Nat} (hn : n = L.length) (h : W.ownsRow b 43 2 v n (fldsV L)) : FldRow W v L := by
  subst hn
  rcases h.2 with ⟨hv, h0⟩ | ⟨g, cap, cur, hv, _, hg, _, _, _, ht⟩
  · exact .inl ⟨List.eq_nil_of_length_eq_zero h0, hv⟩
  · refine .inr ⟨g, cur, cap, (0, 0), hv, hg, fun i p hp => ?_⟩
    have hi : i < L.length := (List.getElem?_eq_some_iff.1 hp).1
    obtain ⟨g0, g1⟩ := fldsV_get L i p hp
    rw [← ht] at g0 g1
    rw [List.getElem?_take, if_pos (by omega)] at g0 g1
    exact ⟨by simpa using g0, by simpa using g1⟩
theorem ck_fin {W : World} {g n : Nat} {cs : Array Value} {L : List Fld} (hn : n = L.length) (h : BlkIs W g cs 43) (hc : cs.toList = fldsV L) : FldsIn W (.slice (some ⟨g, 0, none⟩) n n) L := by
  subst hn
  refine ⟨_, _, rfl, fun i p hp => ?_⟩
  obtain ⟨g0, g1⟩ := fldsV_get L i p hp
  rw [← hc] at g0 g1
  exact ⟨g, 0, rfl, h.lt, by rw [Nat.zero_add]; exact h.cell _ _ (by simpa using g0), by rw [Nat.zero_add]; exact h.cell _ _ (by simpa using g1)⟩
theorem ckInfo : (Tryz.prog.info? 43).map (fun i => (i.zero, i.size, i.bytes)) = some (some (.agg #[.string ByteArray.empty, .string ByteArray.empty]), 2, 32) := by kernel_rfl
theorem ckInfo_parts : ∃ i, Tryz.prog.info? 43 = some i ∧ i.zero = some (.agg #[.string ByteArray.empty, .string ByteArray.empty]) ∧ i.size = 2 ∧ i.bytes = 32 := by
  obtain ⟨i, hi, he⟩ := Option.map_eq_some_iff.1 ckInfo
  injection he with h1 h2
  injection h2 with h2 h3
  exact ⟨i, hi, h1, h2, h3⟩
/-- What is counted. -/
def ckNext (ds : List UInt8) : Nat := (ckV ds).1 + 1
theorem ckV_le (ds : List UInt8) : (ckV ds).1 ≤ 999999999 := by unfold ckV; split <;> simp <;> omega
theorem ckV_or (ds : List UInt8) : (ckV ds).2 = 0 ∨ ((ckV ds).2 = 12 ∧ (ckV ds).1 = 0) := by
  unfold ckV; split
  · exact .inl rfl
  · exact .inr ⟨rfl, rfl⟩
/-- What the rest of the count asks for. -/
theorem ck_itoa (K : Nat) : Lib.itoa (K : Int) = Lib.decDigits K := by unfold Lib.itoa; rw [if_neg (by omega)]; rfl
set_option maxHeartbeats 16000000 in
theorem vcount_any (p : Nat) (n ds : List UInt8) (me ta : ByteArray) (ma mi m : Int) (fa : Option Addr) (fl fc : Nat) (sv : Value) (w : World)
    (h : BlkIs w p (vC 8 0 0 ⟨n.toArray⟩ ⟨#[]⟩ ⟨#[]⟩ me ta ma mi (.slice fa fl fc) sv) 100) (hf : FldsIn w (.slice fa fl fc) [(ckN, hdL n ds)])
    (hn : isTok n = true) (hd : ds.all qdg = true) (hd0 : ds ≠ []) (hl : n.length ≤ 4000) (hl2 : ds.length ≤ 10) (hm : w.cell? ⟨4, 0, none⟩ = some (.int .i64 m)) (hg : SgAt w) (hP : PowAt w) (hD : DaysAt w) :
    Calls Tryz.prog 60 #[.pointer (some ⟨p, 0, none⟩)] w (RespIs 200 [] [(ctL, tpL), (scN, ckSet n (Lib.decDigits (ckNext ds)))] (Lib.decDigits (ckNext ds) ++ [10]) w) := by
  obtain ⟨i0, hi0, hz0, hz1, hz2⟩ := ckInfo_parts
  obtain ⟨R, hR⟩ : ∃ R, w.heap.size = R := ⟨_, rfl⟩
  obtain ⟨W0, hW0⟩ : ∃ W, w.alloc (.cells zR 46) = W := ⟨_, rfl⟩
  have hb0 : Below w.heap.size w W0 := by rw [← hW0]; exact below1 _ _
  have hR0 : BlkIs W0 R zR 46 := by rw [← hW0, ← hR]; exact blkIs_new _ _ _
  have hv0 := h.later hb0
  have hpl : p < R := by rw [← hR]; exact h.lt
  have hdl : 1 ≤ ds.length := by cases ds with
    | nil => exact absurd rfl hd0
    | cons => simp
  have hall := oall_any (.slice fa fl fc) [(ckN, hdL n ds)] ckN W0 (show 1 ≤ 4194304 by decide) (by simp [totF, hdL, ckL, otL, ckN]; omega) (by decide) (hf.below hb0)
  rw [all_ck] at hall
  have hdec := fun W => ckdecimal_any ⟨ds.toArray⟩ W (by rw [size_mk]; exact hdl) (by rw [size_mk]; omega) hd
  rw [show (⟨ds.toArray⟩ : ByteArray).data.toList = ds from rfl] at hdec
  have hkl := ckV_le ds
  have hor := ckV_or ds
  obtain ⟨⟨K, x⟩, hKx⟩ : ∃ r, ckV ds = r := ⟨_, rfl⟩
  have hnx : ckNext ds = K + 1 := by unfold ckNext; rw [hKx]
  rw [hKx] at hdec hkl hor
  rw [hnx]
  simp only at hdec hkl hor
  obtain ⟨K1, hK1⟩ : ∃ K1, K + 1 = K1 := ⟨_, rfl⟩
  rw [hK1]
  have hGl := dec_len10 K1 (by omega)
  have hGd := dec_all K1
  have hit := fun (W : World) (hb : Below w.heap.size w W) => oitoa_any (K1 : Int) W (by omega) (by omega) (hP.below hb)
  rw [ck_itoa] at hit
  obtain ⟨G, hG⟩ : ∃ G, Lib.decDigits K1 = G := ⟨_, rfl⟩
  rw [hG] at hGl hGd hit
  rw [hG]
  have hpa := fun (W : World) (hb : Below w.heap.size w W) => ckparse_any n ds hn hd (by omega) m W (ck_cell hm hb) (hg.below hb)
  have hps := fun (W : World) (hb : Below w.heap.size w W) => ckprintset_any n G hn hGd (by omega) W (hg.below hb) (hP.below hb) (hD.below hb)
  obtain ⟨G1, hG1⟩ : ∃ G1, G ++ [10] = G1 := ⟨_, rfl⟩
  rw [hG1]
  have e1 : (⟨G.toArray⟩ : ByteArray) ++ ⟨#[10]⟩ = ⟨G1.toArray⟩ := ck_ba G [10] G1 hG1
  have n1 : ¬ 9223372036854775807 < G.length + 1 := by omega
  obtain ⟨S, hS⟩ : ∃ S, ckSet n G = S := ⟨_, rfl⟩
  rw [hS] at hps ⊢
  obtain ⟨Hd, hHd⟩ : ∃ H, hdL n ds = H := ⟨_, rfl⟩
  rw [hHd] at hall hpa
  have f1 : (K : Int) + 1 = (K1 : Int) := by omega
  have HU := Lib.hid (show wrap64 (K1 : Int) = (K1 : Int) ∧ IntKind.i64.wrap (K1 : Int) = (K1 : Int) from ⟨by unfold wrap64; omega, by rw [IntKind.wrap_i64]; omega⟩)
  have HALL := Lib.hid hall; have HDEC := Lib.hid hdec; have HIT := Lib.hid hit; have HPA := Lib.hid hpa; have HPS := Lib.hid hps; have HOR := Lib.hid hor
  have HI := Lib.hid (And.intro hb0 (And.intro hR0 hv0)); have HPL := Lib.hid hpl; have HW0 := Lib.hid hW0; have HSR := Lib.hid hR
  clear hall hdec hit hpa hps hor hb0 hR0 hv0 hpl hW0 hkl hK1 hGl hGd hG hG1 hS hHd hnx hKx h hf hn hd hd0 hl hl2 hm hg hP hD hdl
  go_enter Tryz.func60, Tryz.ntmps60
  go_upto_region 1 with fail
  rw [HW0.out]
  have v10 := HI.out.2.2.cell 10 _ rfl
  go_step3
  go_wp2
  go_step3
  go_wp2_with fail
  refine (HALL.out).mono ?_
  rintro e w1 ⟨vs, rfl, hvs, hb1⟩
  have hvs' : w1.ownsRow W0.heap.size 9 1 vs 1 [.string ⟨Hd.toArray⟩] := hvs
  obtain ⟨g1, q1, rfl, hg1b, hg1l⟩ := own1 hvs' (by decide)
  have vs0 : w1.cell? ⟨g1, 0, none⟩ = some (.string ⟨Hd.toArray⟩) := own_at hvs' 0 _ rfl
  have HI1 := Lib.hid (And.intro (HI.out.1.trans (hb1.mono HI.out.1.size)) (And.intro (HI.out.2.1.later hb1) (HI.out.2.2.later hb1)))
  clear hvs hvs' hb1 HI HALL v10 hg1b
  go_wp2
  go_loopw [24, 3] (fun iv nv wr => iv = .int .i64 0 ∧ nv = .int .i64 0 ∧ wr = w1) (fun _ _ _ => 0)
  case atStart => exact ⟨rfl, rfl, rfl⟩
  case round =>
    obtain ⟨rfl, rfl, rfl⟩ := hrel
    go_wp2_with fail
    refine (HPA.out _ HI1.out.1).mono ?_
    rintro e w2 ⟨cv, rfl, ⟨g2, q2, rfl, k0, k1⟩, hb2⟩
    have HI2 := Lib.hid (And.intro (HI1.out.1.trans (hb2.mono HI1.out.1.size)) (And.intro (HI1.out.2.1.later hb2) (HI1.out.2.2.later hb2)))
    have lt2 := World.block_lt_of_cell? _ _ k0
    clear hb2 HI1 vs0 hg1l
    go_wp2
    go_loopw [35, 3] (fun iv nv wr => iv = .int .i64 0 ∧ nv = .int .i64 0 ∧ wr = w2) (fun _ _ _ => 0)
    case atStart => exact ⟨rfl, rfl, rfl⟩
    case round =>
      obtain ⟨rfl, rfl, rfl⟩ := hrel
      obtain ⟨C, hC⟩ : ∃ C, wr.heap.size = C := ⟨_, rfl⟩
      obtain ⟨W3, hW3⟩ : ∃ W, wr.alloc (.cells #[.string ⟨n.toArray⟩, .string ⟨ds.toArray⟩] 128) = W := ⟨_, rfl⟩
      have hb3 : Below wr.heap.size wr W3 := by rw [← hW3]; exact below1 _ _
      have hC3 : BlkIs W3 C #[.string ⟨n.toArray⟩, .string ⟨ds.toArray⟩] 128 := by rw [← hW3, ← hC]; exact blkIs_new _ _ _
      have HI3 := Lib.hid (And.intro (HI2.out.1.trans (hb3.mono HI2.out.1.size)) (And.intro (HI2.out.2.1.later hb3) (And.intro (HI2.out.2.2.later hb3) hC3)))
      clear hb3 hC3 HI2
      go_upto_region 9 with fail
      clear k0 k1 lt2 hW3 hC
      have d0 := HI3.out.2.2.2.cell 0 _ rfl
      have d1 := HI3.out.2.2.2.cell 1 _ rfl
      have v1 := HI3.out.2.2.1.cell 1 _ rfl
      go_still (by kernel_rfl)
      have HI3d := Lib.hid (show Below w.heap.size w W3.drew ∧ BlkIs W3.drew R zR 46 ∧ BlkIs W3.drew p (vC 8 0 0 ⟨n.toArray⟩ ⟨#[]⟩ ⟨#[]⟩ me ta ma mi (.slice fa fl fc) sv) 100 from And.intro HI3.out.1.drew (And.intro HI3.out.2.1 HI3.out.2.2.1))
      clear HI3
      go_wp2_with fail
      refine (HDEC.out _).mono ?_
      rintro e w4 ⟨rfl, hb4⟩
      have HI4 := Lib.hid (And.intro (HI3d.out.1.trans (hb4.mono HI3d.out.1.size)) (And.intro (BlkIs.later HI3d.out.2.1 hb4) (BlkIs.later HI3d.out.2.2 hb4)))
      clear hb4 HI3d d0 d1 v1
      rcases HOR.out with rfl | ⟨rfl, rfl⟩
      · obtain ⟨u1, u2⟩ := HU.out
        go_wp2_with fail
        clear u1 u2
        refine (HIT.out _ HI4.out.1).mono ?_
        rintro e w5 ⟨rfl, hb5⟩
        have HI5 := Lib.hid (And.intro (HI4.out.1.trans (hb5.mono HI4.out.1.size)) (And.intro (BlkIs.later HI4.out.2.1 hb5) (BlkIs.later HI4.out.2.2 hb5)))
        clear hb5 HI4
        go_wp2_with fail
        refine (said2_any _ _).mono ?_
        rintro e w6 ⟨g6, rfl, ho6, hb6⟩
        have HI6 := Lib.hid (And.intro (HI5.out.1.trans (hb6.mono HI5.out.1.size)) (And.intro (BlkIs.later HI5.out.2.1 hb6) (BlkIs.later HI5.out.2.2 hb6)))
        have h56 : w.heap.size ≤ w5.heap.size := HI5.out.1.size
        obtain ⟨Q, hQ⟩ : ∃ Q, w6.heap.size = Q := ⟨_, rfl⟩
        obtain ⟨W7, hW7⟩ : ∃ W, w6.alloc (.cells (rC 200 ⟨#[]⟩ (.slice (some ⟨g6, 0, none⟩) 1 1) ⟨G1.toArray⟩) 46) = W := ⟨_, rfl⟩
        have hb7 : Below w6.heap.size w6 W7 := by rw [← hW7]; exact below1 _ _
        have hQ7 : BlkIs W7 Q (rC 200 ⟨#[]⟩ (.slice (some ⟨g6, 0, none⟩) 1 1) ⟨G1.toArray⟩) 46 := by rw [← hW7, ← hQ]; exact blkIs_new _ _ _
        have ho7 : W7.ownsRow w5.heap.size 43 2 (.slice (some ⟨g6, 0, none⟩) 1 1) 1 [.string ⟨ctL.toArray⟩, .string ⟨tpL.toArray⟩] := by rw [← hW7]; exact ho6.alloc _
        have hRQ : R ≠ Q := by have := HI6.out.2.1.lt; omega
        have hwQ : w.heap.size ≤ Q := by have := HI6.out.1.size; omega
        have HI7 := Lib.hid (And.intro (HI6.out.1.trans (hb7.mono HI6.out.1.size)) (And.intro (BlkIs.later HI6.out.2.1 hb7) (And.intro (BlkIs.later HI6.out.2.2 hb7) (And.intro hQ7 (And.intro ho7 (And.intro hRQ (And.intro hwQ h56)))))))
        have HW7 := Lib.hid hW7
        clear ho6 hb6 hb7 hQ7 ho7 hRQ hwQ h56 hW7 HI5 HI6
        go_upto_region 17 with fail
        rw [HW7.out]
        have v1 := HI7.out.2.2.1.cell 1 _ rfl
        go_wp2_with fail
        refine (HPS.out _ HI7.out.1).mono ?_
        rintro e w8 ⟨rfl, hb8⟩
        have HI8 := Lib.hid (And.intro (HI7.out.1.trans (hb8.mono HI7.out.1.size)) (And.intro (BlkIs.later HI7.out.2.1 hb8) (And.intro (BlkIs.later HI7.out.2.2.2.1 hb8) (And.intro (own_later HI7.out.2.2.2.2.1 hb8) HI7.out.2.2.2.2.2))))
        clear hb8 v1 HI7 HW7
        have q2 := HI8.out.2.2.1.cell 2 _ rfl
        have hO8 := HI8.out.2.2.2.1
        have h8 := HI8.out.1.size
        have h58 : w5.heap.size ≤ w8.heap.size := by
          have := (hO8.lt g6 rfl)
          omega
        go_wp2_with (at_builtin; refine wpList_append_own_at _ rfl (.tmp 76) (.tmp 79) 41 rfl w5.heap.size 43 i0 (.agg #[.string ByteArray.empty, .string ByteArray.empty]) 2 32 Tryz.underlying41 hi0 hz0 hz1 hz2 rfl (by decide) _ 1 _ rfl (hO8.alloc _) ⟨w8.heap.size, 0, none⟩ 1 1 [.string ⟨scN.toArray⟩, .string ⟨S.toArray⟩] rfl rfl (cells_new _ _ _) (by simp [Value.oneCell']) (by unfold maxLen; decide) (by decide) ?d0 ?_)
        case d0 => (try simp); omega
        intro v9 w9 hI9 hg9 _ hloc
        obtain ⟨g9, c9, rfl, hg9b, _⟩ := own1 hI9 (by decide)
        have hR9 := (HI8.out.2.1.alloc (.cells #[.string ⟨scN.toArray⟩, .string ⟨S.toArray⟩] 43)).grown hg9 (own_blk hO8 HI8.out.2.1 (by decide))
        have hQ9 := (HI8.out.2.2.1.alloc (.cells #[.string ⟨scN.toArray⟩, .string ⟨S.toArray⟩] 43)).grown hg9 (own_blk hO8 HI8.out.2.2.1 (by decide))
        have hb9 := (HI8.out.1.alloc HI8.out.1.size (.cells #[.string ⟨scN.toArray⟩, .string ⟨S.toArray⟩] 43)).grown hg9 (by simp; omega) (fun j hj => Nat.le_trans HI8.out.2.2.2.2.2.2 (hO8.lt j hj).1)
        have hI9' : w9.ownsRow w5.heap.size 43 2 (.slice (some ⟨g9, 0, none⟩) 2 c9) 2 (fldsV [(ctL, tpL), (scN, S)]) := hI9
        have hF9 := ck_row (L := [(ctL, tpL), (scN, S)]) rfl hI9'
        obtain ⟨W10, hW10⟩ : ∃ W, w9.setCell ⟨Q, 2, none⟩ (.slice (some ⟨g9, 0, none⟩) 2 c9) = W := ⟨_, rfl⟩
        have hQ10 : BlkIs W10 Q (rC 200 ⟨#[]⟩ (.slice (some ⟨g9, 0, none⟩) 2 c9) ⟨G1.toArray⟩) 46 := by rw [← hW10]; exact hQ9.set 2 _
        have hR10 : BlkIs W10 R zR 46 := by rw [← hW10]; exact hR9.setOther _ _ HI8.out.2.2.2.2.1
        have hF10 : FldRow W10 (.slice (some ⟨g9, 0, none⟩) 2 c9) [(ctL, tpL), (scN, S)] := by rw [← hW10]; exact hF9.set hQ9 (by decide) _
        have hb10 : Below w.heap.size w W10 := by rw [← hW10]; exact hb9.setCell (p := ⟨Q, 2, none⟩) HI8.out.2.2.2.2.2.1 _
        have z2 := hQ9.cell 2 _ rfl
        have y2 := hQ9.free 2
        have HW10 := Lib.hid hW10; have HI10 := Lib.hid (And.intro hQ10 (And.intro hR10 (And.intro hF10 hb10)))
        clear hI9 hI9' hg9 hloc hR9 hQ9 hb9 hF9 hW10 hQ10 hR10 hF10 hb10 hO8 h8 h58 q2 HI8
        go_upto_region 19 with fail
        rw [HW10.out]
        clear z2 y2
        have q0 := HI10.out.1.cell 0 _ rfl
        have q1 := HI10.out.1.cell 1 _ rfl
        have q2 := HI10.out.1.cell 2 _ rfl
        have q3 := HI10.out.1.cell 3 _ rfl
        have r0 := HI10.out.2.1.free 0
        have r1 := HI10.out.2.1.free 1
        have r2 := HI10.out.2.1.free 2
        have r3 := HI10.out.2.1.free 3
        have x0 := HI10.out.2.1.cell 0 _ rfl
        have x1 := HI10.out.2.1.cell 1 _ rfl
        have x2 := HI10.out.2.1.cell 2 _ rfl
        have x3 := HI10.out.2.1.cell 3 _ rfl
        go_wp2
        (try simp only [Exit.inBlock, Exit.then])
        refine bodyPost_ret (v := .agg (rC 200 ⟨#[]⟩ (.slice (some ⟨g9, 0, none⟩) 2 c9) ⟨G1.toArray⟩)) ?r rfl ⟨_, rfl, ?f, ?b⟩
        case r => exact results_respC rfl _ _ R _ (0, 0) rfl (fourSet HI10.out.2.1 rfl _ _ _ _) rfl
        case f => exact fourFld HI10.out.2.2.1 HI10.out.2.1 _ _ _ _
        case b => exact fourBelow HI10.out.2.2.2 (by rw [HSR.out]; exact Nat.le_refl _) _ _ _ _
      · obtain rfl : K1 = 1 := by omega
        obtain ⟨u1, u2⟩ := HU.out
        go_wp2_with fail
        clear u1 u2
        refine (HIT.out _ HI4.out.1).mono ?_
        rintro e w5 ⟨rfl, hb5⟩
        have HI5 := Lib.hid (And.intro (HI4.out.1.trans (hb5.mono HI4.out.1.size)) (And.intro (BlkIs.later HI4.out.2.1 hb5) (BlkIs.later HI4.out.2.2 hb5)))
        clear hb5 HI4
        go_wp2_with fail
        refine (said2_any _ _).mono ?_
        rintro e w6 ⟨g6, rfl, ho6, hb6⟩
        have HI6 := Lib.hid (And.intro (HI5.out.1.trans (hb6.mono HI5.out.1.size)) (And.intro (BlkIs.later HI5.out.2.1 hb6) (BlkIs.later HI5.out.2.2 hb6)))
        have h56 : w.heap.size ≤ w5.heap.size := HI5.out.1.size
        obtain ⟨Q, hQ⟩ : ∃ Q, w6.heap.size = Q := ⟨_, rfl⟩
        obtain ⟨W7, hW7⟩ : ∃ W, w6.alloc (.cells (rC 200 ⟨#[]⟩ (.slice (some ⟨g6, 0, none⟩) 1 1) ⟨G1.toArray⟩) 46) = W := ⟨_, rfl⟩
        have hb7 : Below w6.heap.size w6 W7 := by rw [← hW7]; exact below1 _ _
        have hQ7 : BlkIs W7 Q (rC 200 ⟨#[]⟩ (.slice (some ⟨g6, 0, none⟩) 1 1) ⟨G1.toArray⟩) 46 := by rw [← hW7, ← hQ]; exact blkIs_new _ _ _
        have ho7 : W7.ownsRow w5.heap.size 43 2 (.slice (some ⟨g6, 0, none⟩) 1 1) 1 [.string ⟨ctL.toArray⟩, .string ⟨tpL.toArray⟩] := by rw [← hW7]; exact ho6.alloc _
        have hRQ : R ≠ Q := by have := HI6.out.2.1.lt; omega
        have hwQ : w.heap.size ≤ Q := by have := HI6.out.1.size; omega
        have HI7 := Lib.hid (And.intro (HI6.out.1.trans (hb7.mono HI6.out.1.size)) (And.intro (BlkIs.later HI6.out.2.1 hb7) (And.intro (BlkIs.later HI6.out.2.2 hb7) (And.intro hQ7 (And.intro ho7 (And.intro hRQ (And.intro hwQ h56)))))))
        have HW7 := Lib.hid hW7
        clear ho6 hb6 hb7 hQ7 ho7 hRQ hwQ h56 hW7 HI5 HI6
        go_upto_region 17 with fail
        rw [HW7.out]
        have v1 := HI7.out.2.2.1.cell 1 _ rfl
        go_wp2_with fail
        refine (HPS.out _ HI7.out.1).mono ?_
        rintro e w8 ⟨rfl, hb8⟩
        have HI8 := Lib.hid (And.intro (HI7.out.1.trans (hb8.mono HI7.out.1.size)) (And.intro (BlkIs.later HI7.out.2.1 hb8) (And.intro (BlkIs.later HI7.out.2.2.2.1 hb8) (And.intro (own_later HI7.out.2.2.2.2.1 hb8) HI7.out.2.2.2.2.2))))
        clear hb8 v1 HI7 HW7
        have q2 := HI8.out.2.2.1.cell 2 _ rfl
        have hO8 := HI8.out.2.2.2.1
        have h8 := HI8.out.1.size
        have h58 : w5.heap.size ≤ w8.heap.size := by
          have := (hO8.lt g6 rfl)
          omega
        go_wp2_with (at_builtin; refine wpList_append_own_at _ rfl (.tmp 76) (.tmp 79) 41 rfl w5.heap.size 43 i0 (.agg #[.string ByteArray.empty, .string ByteArray.empty]) 2 32 Tryz.underlying41 hi0 hz0 hz1 hz2 rfl (by decide) _ 1 _ rfl (hO8.alloc _) ⟨w8.heap.size, 0, none⟩ 1 1 [.string ⟨scN.toArray⟩, .string ⟨S.toArray⟩] rfl rfl (cells_new _ _ _) (by simp [Value.oneCell']) (by unfold maxLen; decide) (by decide) ?d0 ?_)
        case d0 => (try simp); omega
        intro v9 w9 hI9 hg9 _ hloc
        obtain ⟨g9, c9, rfl, hg9b, _⟩ := own1 hI9 (by decide)
        have hR9 := (HI8.out.2.1.alloc (.cells #[.string ⟨scN.toArray⟩, .string ⟨S.toArray⟩] 43)).grown hg9 (own_blk hO8 HI8.out.2.1 (by decide))
        have hQ9 := (HI8.out.2.2.1.alloc (.cells #[.string ⟨scN.toArray⟩, .string ⟨S.toArray⟩] 43)).grown hg9 (own_blk hO8 HI8.out.2.2.1 (by decide))
        have hb9 := (HI8.out.1.alloc HI8.out.1.size (.cells #[.string ⟨scN.toArray⟩, .string ⟨S.toArray⟩] 43)).grown hg9 (by simp; omega) (fun j hj => Nat.le_trans HI8.out.2.2.2.2.2.2 (hO8.lt j hj).1)
        have hI9' : w9.ownsRow w5.heap.size 43 2 (.slice (some ⟨g9, 0, none⟩) 2 c9) 2 (fldsV [(ctL, tpL), (scN, S)]) := hI9
        have hF9 := ck_row (L := [(ctL, tpL), (scN, S)]) rfl hI9'
        obtain ⟨W10, hW10⟩ : ∃ W, w9.setCell ⟨Q, 2, none⟩ (.slice (some ⟨g9, 0, none⟩) 2 c9) = W := ⟨_, rfl⟩
        have hQ10 : BlkIs W10 Q (rC 200 ⟨#[]⟩ (.slice (some ⟨g9, 0, none⟩) 2 c9) ⟨G1.toArray⟩) 46 := by rw [← hW10]; exact hQ9.set 2 _
        have hR10 : BlkIs W10 R zR 46 := by rw [← hW10]; exact hR9.setOther _ _ HI8.out.2.2.2.2.1
        have hF10 : FldRow W10 (.slice (some ⟨g9, 0, none⟩) 2 c9) [(ctL, tpL), (scN, S)] := by rw [← hW10]; exact hF9.set hQ9 (by decide) _
        have hb10 : Below w.heap.size w W10 := by rw [← hW10]; exact hb9.setCell (p := ⟨Q, 2, none⟩) HI8.out.2.2.2.2.2.1 _
        have z2 := hQ9.cell 2 _ rfl
        have y2 := hQ9.free 2
        have HW10 := Lib.hid hW10; have HI10 := Lib.hid (And.intro hQ10 (And.intro hR10 (And.intro hF10 hb10)))
        clear hI9 hI9' hg9 hloc hR9 hQ9 hb9 hF9 hW10 hQ10 hR10 hF10 hb10 hO8 h8 h58 q2 HI8
        go_upto_region 19 with fail
        rw [HW10.out]
        clear z2 y2
        have q0 := HI10.out.1.cell 0 _ rfl
        have q1 := HI10.out.1.cell 1 _ rfl
        have q2 := HI10.out.1.cell 2 _ rfl
        have q3 := HI10.out.1.cell 3 _ rfl
        have r0 := HI10.out.2.1.free 0
        have r1 := HI10.out.2.1.free 1
        have r2 := HI10.out.2.1.free 2
        have r3 := HI10.out.2.1.free 3
        have x0 := HI10.out.2.1.cell 0 _ rfl
        have x1 := HI10.out.2.1.cell 1 _ rfl
        have x2 := HI10.out.2.1.cell 2 _ rfl
        have x3 := HI10.out.2.1.cell 3 _ rfl
        go_wp2
        (try simp only [Exit.inBlock, Exit.then])
        refine bodyPost_ret (v := .agg (rC 200 ⟨#[]⟩ (.slice (some ⟨g9, 0, none⟩) 2 c9) ⟨G1.toArray⟩)) ?r rfl ⟨_, rfl, ?f, ?b⟩
        case r => exact results_respC rfl _ _ R _ (0, 0) rfl (fourSet HI10.out.2.1 rfl _ _ _ _) rfl
        case f => exact fourFld HI10.out.2.2.1 HI10.out.2.1 _ _ _ _
        case b => exact fourBelow HI10.out.2.2.2 (by rw [HSR.out]; exact Nat.le_refl _) _ _ _ _
end Go.Proofs.YtdlpbpikhmciaaaGreatDoor
