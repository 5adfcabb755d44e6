/- The walk of turnpikelaw07.AcceptTold: true. Conditions: at most 1048576 letters; bytealg's MaxLen holds an int; octet.signs holds what the text lays. -/
import Derived.Test.YthnniiakmjonjaaDoorRngAll
import Derived.Test.YthnniiakmjonjaaDoorLikAll
import Derived.Test.YthnniiakmjonjaaDoorRPar7
import Derived.Test.YthnniiakmjonjaaDoorOpenMed
import Derived.Test.YthnniiakmjonjaaDoorAwake07
import Derived.Test.YthnniiakmjonjaaDoorLaidSg
namespace Go.Proofs.YthnniiakmjonjaaDoor
open Go.RowKit
set_option linter.unusedSimpArgs false
set_option linter.unusedVariables false
set_option maxRecDepth 1000000
def mdOf (r : Med) : Mdm := ⟨r.1, r.2.1, r.2.2.1⟩
def mdF (t : List UInt8) : Option Mdm := if (mdP t).2 = 0 then some (mdOf (mdP t).1) else none
def mdList (xs : List (List UInt8)) : List Mdm := xs.filterMap mdF
theorem take_one (xs : List (List UInt8)) (i : Nat) (x : List UInt8) (h : xs[i]? = some x) : mdList (xs.take (i + 1)) = mdList (xs.take i) ++ (mdF x).toList := by
  unfold mdList
  rw [List.take_add_one, h, Option.toList_some, List.filterMap_append, List.filterMap_cons]
  cases mdF x <;> rfl
theorem mdList_ok (xs : List (List UInt8)) (i : Nat) (x : List UInt8) (h : xs[i]? = some x) (r : Med) (e : Nat) (hr : mdP x = (r, e)) (he : e = 0) : mdList (xs.take (i + 1)) = mdList (xs.take i) ++ [mdOf r] := by
  rw [take_one xs i x h]
  unfold mdF
  rw [hr, if_pos he]
  rfl
theorem mdList_no (xs : List (List UInt8)) (i : Nat) (x : List UInt8) (h : xs[i]? = some x) (r : Med) (e : Nat) (hr : mdP x = (r, e)) (he : e ≠ 0) : mdList (xs.take (i + 1)) = mdList (xs.take i) := by
  rw [take_one xs i x h]
  unfold mdF
  rw [hr, if_neg he]
  exact List.append_nil _
theorem mdP_tot (s : List UInt8) : mdmLen (mdOf (mdP s).1) ≤ s.length := by
  unfold mdP
  split
  · have h1 := mdR_tot (trimL s)
    have h2 := trimL_len s
    show (mdR (trimL s)).1.length + (mdR (trimL s)).2.1.length + totP (mdR (trimL s)).2.2.1 + (mdR (trimL s)).2.2.1.length ≤ _
    omega
  · exact Nat.zero_le _
theorem mdList_tot (xs : List (List UInt8)) : totF mdmLen (mdList xs) + (mdList xs).length ≤ totF List.length xs + xs.length := by
  induction xs with
  | nil => exact Nat.le_refl _
  | cons x r ih =>
    unfold mdList at ih ⊢
    rw [List.filterMap_cons]
    have h := mdP_tot x
    cases hf : mdF x with
    | none => simp only [totF, List.length_cons]; omega
    | some m =>
      have hm : m = mdOf (mdP x).1 := by
        unfold mdF at hf
        split at hf
        · injection hf with hf; exact hf.symm
        · cases hf
      subst hm
      simp only [totF, List.length_cons]
      omega
theorem mdList_len (xs : List (List UInt8)) (i : Nat) : (mdList (xs.take i)).length ≤ i := by
  unfold mdList
  refine Nat.le_trans (List.length_filterMap_le _ _) ?_
  rw [List.length_take]
  exact Nat.min_le_left _ _
theorem told_bd (n i N : Nat) (h : n ≤ i) (hi : i < N) (hN : N ≤ 1048576) : n + 1 ≤ maxLen ∧ (n + 1) * 56 ≤ 140737488355328 ∧ i ≤ 2199023255552 := by unfold maxLen; omega
theorem txt_le (xs : List (List UInt8)) (x : List UInt8) (h : x ∈ xs) : x.length ≤ totF List.length xs := by
  induction xs with
  | nil => cases h
  | cons y r ih =>
    simp only [totF]
    rcases List.mem_cons.1 h with h | h
    · subst h; omega
    · have := ih h; omega
/-- A list of media types stays while a row of another type grows. -/
theorem OwnMeds.grown {w w' : World} {L L' s n : Nat} {T P e : TypeId} {v v2 : Value} {l : List Mdm} {xs : List Value} (h : OwnMeds w L T P v l) (h2 : w.ownsRow L' e s v2 n xs) (hT : T ≠ e) (hP : P ≠ e) (hg : w.grownBy w' v2.ownBlock) : OwnMeds w' L T P v l := by
  obtain ⟨X, hX, hown, hall⟩ := h
  exact ⟨X, hX, hown.kept hg (own_apart hown h2 hT), fun p hp => (hall p hp).kept hg (own_apart (hall p hp) h2 hP)⟩
theorem infoOMed : (Tryd.prog.info? 24).map (fun i => (i.zero, i.size, i.bytes)) = some (some (.agg #[.string ByteArray.empty, .string ByteArray.empty, .slice none 0 0]), 3, 56) := by kernel_rfl
theorem info_partsOM (h : (Tryd.prog.info? 24).map (fun i => (i.zero, i.size, i.bytes)) = some (some (.agg #[.string ByteArray.empty, .string ByteArray.empty, .slice none 0 0]), 3, 56)) : ∃ i, Tryd.prog.info? 24 = some i ∧ i.zero = some (.agg #[.string ByteArray.empty, .string ByteArray.empty, .slice none 0 0]) ∧ i.size = 3 ∧ i.bytes = 56 := by
  obtain ⟨i, hi, he⟩ := Option.map_eq_some_iff.1 h
  simp only [Prod.mk.injEq] at he
  exact ⟨i, hi, he.1, he.2.1, he.2.2⟩
theorem own_sliceM {w : World} {L : Nat} {T P : TypeId} {v : Value} {l : List Mdm} (h : OwnMeds w L T P v l) : ∃ ao cap, v = .slice ao l.length cap := by
  obtain ⟨X, hX, hown, hall⟩ := h
  exact own_slice hown
set_option maxHeartbeats 8000000 in
theorem acceptTold_any (s : ByteArray) (tv : Value) (xs : List (List UInt8)) (mm : Int) (w : World) (hs : s.size ≤ 1048576) (hN : totF List.length xs + xs.length ≤ 1048576) (ht : TxtsIn w tv xs) (hx : w.cell? ⟨1, 0, none⟩ = some (.int .i64 mm)) (hg : SgAt w) :
    Calls Tryd.prog 14 #[.string s, tv] w fun e w' => e = .returned (.bool true) ∧ Below w.heap.size w w' := by
  obtain ⟨i0, hi0, hz0, hz1, hz2⟩ := info_partsOM infoOMed
  obtain ⟨j0, hj0, hy0, hy1, hy2⟩ := info_partsM infoRMed
  obtain ⟨ao, cap, rfl, hat⟩ := ht
  have h1 := oranges_any s mm w hs hx hg
  have h2 := fun w => rranges_any s w hs
  have hpl := rgR_tot s.data.toList (by rw [size_list]; exact hs)
  unfold RgPost at h1 h2
  obtain ⟨⟨ws, er⟩, hr⟩ : ∃ r, rgR s.data.toList = r := ⟨_, rfl⟩
  rw [hr] at h1 hpl
  simp only [hr] at h2
  have hml := mdList_tot xs
  have hml2 : totF mdmLen (mdList xs) + (mdList xs).length ≤ 1073741824 := by omega
  have hxn : xs.length ≤ 1048576 := by omega
  have hxl : ∀ x ∈ xs, x.length ≤ 1048576 := fun x hx => by have := txt_le xs x hx; omega
  have H1 := Lib.hid h1; have H2 := Lib.hid h2; have HX := Lib.hid (And.intro hx hg); have HPL := Lib.hid (And.intro hpl hml2); have HAT := Lib.hid hat; have HXL := Lib.hid hxl
  clear h1 h2 hr hpl hx hg hml hml2 hat hxl hN
  go_enter Tryd.func14, Tryd.ntmps14
  go_wp2_with fail
  refine (H1.out).mono ?_
  rintro e w1 ⟨v1, rfl, ho1, hb1⟩
  have HW1 := Lib.hid ho1.isIn; have HB1 := Lib.hid hb1
  clear ho1 hb1
  go_wp2_with fail
  refine (H2.out _).mono ?_
  rintro e w2 ⟨v2, rfl, ho2, hb2⟩
  have HW2 := Lib.hid (And.intro (HW1.out.below hb2) ho2.isIn); have HB2 := Lib.hid (HB1.out.trans (hb2.mono HB1.out.size))
  clear ho2 hb2
  go_wp2_with fail
  refine (awake07_any mm w2 (mx_later (B := 0) HX.out.1 HB2.out) (HX.out.2.below HB2.out)).mono ?_
  rintro e w3 ⟨rfl, hb3⟩
  have HW3 := Lib.hid (And.intro (HW2.out.1.below hb3) (HW2.out.2.below hb3))
  have HB3 := Lib.hid (HB2.out.trans (hb3.mono HB2.out.size))
  clear hb3
  obtain ⟨L, hL⟩ : ∃ L, w3.heap.size = L := ⟨_, rfl⟩
  have hwL : w.heap.size ≤ L := by rw [← hL]; exact HB3.out.size
  have hbb : Below L w3 ((w3.alloc (.cells #[] 24)).alloc (.cells #[] 30)) := by rw [← hL]; exact (((Below.refl _ w3).alloc (Nat.le_refl _) _).alloc (alloc_le (Nat.le_refl _) _) _)
  have hm1 : (w3.alloc (.cells #[] 24)).ownsRow L 24 3 (.slice (some ⟨w3.heap.size, 0, none⟩) 0 0) 0 [] := by rw [← hL]; exact World.ownsRow_made w3 #[] 0 (Nat.le_refl _) (by simp) rfl
  have hm2 : OwnMeds ((w3.alloc (.cells #[] 24)).alloc (.cells #[] 30)) L 24 80 (.slice (some ⟨w3.heap.size, 0, none⟩) 0 0) (mdList (xs.take 0)) := ⟨[], rfl, hm1.alloc _, fun p hp => absurd hp (by simp)⟩
  have hk1 : ((w3.alloc (.cells #[] 24)).alloc (.cells #[] 30)).ownsRow L 30 3 (.slice (some ⟨w3.heap.size + 1, 0, none⟩) 0 0) 0 [] := by
    have := World.ownsRow_made (e := 30) (base := L) (size := 3) (w3.alloc (.cells #[] 24)) #[] 0 (by rw [← hL]; exact alloc_le (Nat.le_refl _) _) (by simp) rfl
    simpa using this
  have hk2 : OwnMeds ((w3.alloc (.cells #[] 24)).alloc (.cells #[] 30)) L 30 109 (.slice (some ⟨w3.heap.size + 1, 0, none⟩) 0 0) (mdList (xs.take 0)) := ⟨[], rfl, hk1, fun p hp => absurd hp (by simp)⟩
  have HST := Lib.hid (And.intro hm2 (And.intro hk2 hbb)); have HL := Lib.hid (And.intro hL hwL)
  clear hm1 hm2 hk1 hk2 hbb hL hwL
  go_wp2
  go_loopw [11, 9, 10] (fun iv lv kv wr => ∃ i : Nat, iv = .int .i64 i ∧ i ≤ xs.length ∧ OwnMeds wr L 24 80 lv (mdList (xs.take i)) ∧ OwnMeds wr L 30 109 kv (mdList (xs.take i)) ∧ Below L w3 wr)
    (fun iv _ _ _ => xs.length - (intOf iv).toNat)
  case atStart => exact ⟨0, rfl, Nat.zero_le _, HST.out.1, HST.out.2.1, HST.out.2.2⟩
  case round =>
    clear HST
    obtain ⟨i, rfl, hi, hlv, hkv, hb⟩ := hrel
    have hwb : Below w.heap.size w wr := HB3.out.trans (hb.mono HL.out.2)
    by_cases hil : i < xs.length
    · obtain ⟨x, hxi⟩ : ∃ x, xs[i]? = some x := ⟨_, List.getElem?_eq_getElem hil⟩
      obtain ⟨g, o, rfl, glt, c0⟩ := HAT.out.below hwb i x hxi
      have hxsz := HXL.out x (List.mem_of_getElem? hxi)
      obtain ⟨t, ht⟩ : ∃ t : ByteArray, (⟨x.toArray⟩ : ByteArray) = t := ⟨_, rfl⟩
      have htx : t.data.toList = x := by rw [← ht]
      rw [ht] at c0
      have hts : t.size ≤ 1099511627776 := by rw [← size_list, htx]; exact Nat.le_trans hxsz (by decide)
      have hbd := told_bd _ i xs.length (mdList_len xs i) hil hxn
      have k0 : (0 : Int) ≤ (i : Int) := Int.natCast_nonneg _
      have k1 : (i : Int) < (xs.length : Int) := by omega
      have hwi := wrap64_small i hbd.2.2
      have hp1 := oparse_any t wr hts (HX.out.2.below hwb)
      have hp2 := fun w => rparse_any t w hts
      unfold MpPost at hp1 hp2
      obtain ⟨⟨⟨a, b, ps, gd⟩, ep⟩, hmd⟩ : ∃ r, mdP t.data.toList = r := ⟨_, rfl⟩
      rw [hmd] at hp1
      simp only [hmd] at hp2
      rw [htx] at hmd
      have hLr : L ≤ wr.heap.size := by rw [← HL.out.1]; exact hb.size
      have HP1 := Lib.hid hp1; have HP2 := Lib.hid hp2; have HMD := Lib.hid hmd; have HXI := Lib.hid hxi; have HW := Lib.hid hwi; have HLV := Lib.hid hlv; have HKV := Lib.hid hkv; have HB := Lib.hid hb; have HLR := Lib.hid hLr; have HWB := Lib.hid hwb; have HC := Lib.hid (And.intro glt c0); have HBD := Lib.hid hbd
      clear hp1 hp2 hmd hxi hwi hlv hkv hb hLr hwb hxsz ht htx hts glt hbd
      go_wp2_with fail
      refine (HP1.out).mono ?_
      rintro e w6 ⟨p1, rfl, ho6, hb6⟩
      obtain ⟨ao1, cap1, rfl⟩ := own_slice ho6
      rw [show mpV ((a, b, ps, gd), ep) (.slice ao1 ps.length cap1) = .tuple #[.agg #[.string ⟨a.toArray⟩, .string ⟨b.toArray⟩, .slice ao1 ps.length cap1], .int .i64 (ep : Nat)] from rfl]
      obtain ⟨W7, hW7⟩ : ∃ W7, w6.alloc (.cells (mC ⟨a, b, ps⟩ (.slice ao1 ps.length cap1)) 24) = W7 := ⟨_, rfl⟩
      have hb67 : Below w6.heap.size w6 W7 := by rw [← hW7]; exact (Below.refl _ w6).alloc (Nat.le_refl _) _
      have hbr7 : Below wr.heap.size wr W7 := hb6.trans (hb67.mono hb6.size)
      have hB7 : BlkIs W7 w6.heap.size (mC ⟨a, b, ps⟩ (.slice ao1 ps.length cap1)) 24 := by rw [← hW7]; exact blkIs_new _ _ _
      have ho7 : W7.ownsRow L 80 3 (.slice ao1 ps.length cap1) ps.length (parsV ps) := own_base (own_later ho6 hb67) HLR.out
      have c7 : W7.cell? ⟨g, o + i, none⟩ = some (.string t) := by rw [hbr7.cell (p := ⟨g, o + i, none⟩) HC.out.1]; exact HC.out.2
      have HW7 := Lib.hid hW7; have HB7 := Lib.hid (And.intro hbr7 hB7); have HO7 := Lib.hid ho7
      clear hW7 hb6 ho6 hb67 hbr7 hB7 ho7 c0
      go_upto_region 11 with fail
      rw [HW7.out]
      go_wp2_with fail
      refine (HP2.out _).mono ?_
      rintro e w8 ⟨p2, rfl, ho8, hb8⟩
      obtain ⟨ao2, cap2, rfl⟩ := own_slice ho8
      rw [show mpV ((a, b, ps, gd), ep) (.slice ao2 ps.length cap2) = .tuple #[.agg #[.string ⟨a.toArray⟩, .string ⟨b.toArray⟩, .slice ao2 ps.length cap2], .int .i64 (ep : Nat)] from rfl]
      obtain ⟨W9, hW9⟩ : ∃ W9, w8.alloc (.cells (mC ⟨a, b, ps⟩ (.slice ao2 ps.length cap2)) 30) = W9 := ⟨_, rfl⟩
      have hb89 : Below w8.heap.size w8 W9 := by rw [← hW9]; exact (Below.refl _ w8).alloc (Nat.le_refl _) _
      have hb79 : Below W7.heap.size W7 W9 := hb8.trans (hb89.mono hb8.size)
      have hbr9 : Below wr.heap.size wr W9 := HB7.out.1.trans (hb79.mono HB7.out.1.size)
      have hA9 := HB7.out.2.later hb79
      have hB9 : BlkIs W9 w8.heap.size (mC ⟨a, b, ps⟩ (.slice ao2 ps.length cap2)) 30 := by rw [← hW9]; exact blkIs_new _ _ _
      have ho9 := own_later HO7.out hb79
      have hL7 : L ≤ W7.heap.size := Nat.le_trans HLR.out HB7.out.1.size
      have hr9 : W9.ownsRow L 109 3 (.slice ao2 ps.length cap2) ps.length (parsV ps) := own_base (own_later ho8 hb89) hL7
      have HW9 := Lib.hid hW9; have HLV9 := Lib.hid (HLV.out.later hbr9); have HKV9 := Lib.hid (HKV.out.later hbr9); have HB9 := Lib.hid (HB.out.trans (hbr9.mono HLR.out))
      have HBK := Lib.hid (And.intro hA9 hB9); have HO9 := Lib.hid (And.intro ho9 hr9); have HL9 := Lib.hid (show L ≤ W9.heap.size from Nat.le_trans HLR.out hbr9.size)
      clear hW9 hb8 ho8 hb89 hb79 hbr9 hA9 hB9 ho9 hr9 hL7 c7
      go_upto_region 12 with fail
      rw [HW9.out]
      by_cases hep : ep = 0
      · subst hep
        have HSN := Lib.hid (mdList_ok xs i x HXI.out _ 0 HMD.out rfl)
        obtain ⟨X, hX, hown, hall⟩ := HLV9.out
        obtain ⟨Y, hY, kown, kall⟩ := HKV9.out
        have HOW := Lib.hid hown; have HKW := Lib.hid kown; have HXA := Lib.hid (And.intro hX hall); have HYA := Lib.hid (And.intro hY kall)
        have e0 : W9.cell? ⟨w6.heap.size, 0, none⟩ = some (.string ⟨a.toArray⟩) := HBK.out.1.cell 0 _ rfl
        have e1 : W9.cell? ⟨w6.heap.size, 1, none⟩ = some (.string ⟨b.toArray⟩) := HBK.out.1.cell 1 _ rfl
        have e2 : W9.cell? ⟨w6.heap.size, 2, none⟩ = some (.slice ao1 ps.length cap1) := HBK.out.1.cell 2 _ rfl
        clear hown kown hX hall hY kall
        go_wp2_with (at_builtin; refine wpList_append_own _ rfl (.tmp 62) (.tmp 64) 71 rfl L 24 i0 (.agg #[.string ByteArray.empty, .string ByteArray.empty, .slice none 0 0]) 3 56 Tryd.underlying71 hi0 hz0 hz1 hz2 rfl (by decide) _ _ _ rfl (HOW.out.alloc _) ⟨W9.heap.size, 0, none⟩ 1 1 [.string ⟨a.toArray⟩, .string ⟨b.toArray⟩, .slice ao1 ps.length cap1] rfl rfl (cells_new W9 24 _) (by simp [Value.oneCell']) HBD.out.1 HBD.out.2.1 ?dd ?_)
        case dd => simp; have := HL9.out; omega
        intro v5 w10 hI1 hg1 _
        have hL10 : L ≤ (W9.alloc (.cells [.string ⟨a.toArray⟩, .string ⟨b.toArray⟩, .slice ao1 ps.length cap1].toArray 24)).heap.size := alloc_le HL9.out _
        have hoa := HOW.out.alloc (.cells [.string ⟨a.toArray⟩, .string ⟨b.toArray⟩, .slice ao1 ps.length cap1].toArray 24)
        have hb10 : Below L w3 w10 := (HB9.out.alloc HL9.out _).grown hg1 hL10 (fun k hk => (HOW.out.lt k hk).1)
        have hfin : OwnMeds w10 L 24 80 v5 (mdList (xs.take i) ++ [mdOf (a, b, ps, gd)]) := ownMeds_snoc HXA.out.1 hoa (fun p hp => (HXA.out.2 p hp).alloc _) (by decide) (HO9.out.1.alloc _) hg1 hI1
        have hk10 : OwnMeds w10 L 30 109 _ (mdList (xs.take i)) := OwnMeds.grown ⟨Y, HYA.out.1, HKW.out.alloc _, fun p hp => (HYA.out.2 p hp).alloc _⟩ hoa (by decide) (by decide) hg1
        have hbk := HBK.out.2.alloc (.cells [.string ⟨a.toArray⟩, .string ⟨b.toArray⟩, .slice ao1 ps.length cap1].toArray 24)
        have hbk10 := hbk.grown hg1 (own_blk hoa hbk (by decide))
        have hrp := HO9.out.2.alloc (.cells [.string ⟨a.toArray⟩, .string ⟨b.toArray⟩, .slice ao1 ps.length cap1].toArray 24)
        have hr10 : w10.ownsRow L 109 3 (.slice ao2 ps.length cap2) ps.length (parsV ps) := hrp.kept hg1 (own_apart hrp hoa (by decide))
        have hL10b : L ≤ w10.heap.size := Nat.le_trans hL10 hg1.size
        obtain ⟨ao5, cap5, rfl⟩ := own_slice hI1
        have HFIN := Lib.hid hfin; have HB10 := Lib.hid hb10; have HR10 := Lib.hid hr10; have HL10 := Lib.hid hL10b; have HBK10 := Lib.hid hbk10
        obtain ⟨Y2, hY2, k2own, k2all⟩ := hk10
        have HK2 := Lib.hid k2own; have HY2 := Lib.hid (And.intro hY2 k2all)
        have f0 : w10.cell? ⟨w8.heap.size, 0, none⟩ = some (.string ⟨a.toArray⟩) := hbk10.cell 0 _ rfl
        have f1 : w10.cell? ⟨w8.heap.size, 1, none⟩ = some (.string ⟨b.toArray⟩) := hbk10.cell 1 _ rfl
        have f2 : w10.cell? ⟨w8.heap.size, 2, none⟩ = some (.slice ao2 ps.length cap2) := hbk10.cell 2 _ rfl
        clear hL10 hoa hb10 hfin hbk hbk10 hrp hr10 hL10b hI1 hg1 k2own hY2 k2all e0 e1 e2
        go_wp2_with (at_builtin; refine wpList_append_own _ rfl (.tmp 66) (.tmp 68) 74 rfl L 30 j0 (.agg #[.string ByteArray.empty, .string ByteArray.empty, .slice none 0 0]) 3 56 Tryd.underlying74 hj0 hy0 hy1 hy2 rfl (by decide) _ _ _ rfl (HK2.out.alloc _) ⟨w10.heap.size, 0, none⟩ 1 1 [.string ⟨a.toArray⟩, .string ⟨b.toArray⟩, .slice ao2 ps.length cap2] rfl rfl (cells_new w10 30 _) (by simp [Value.oneCell']) HBD.out.1 HBD.out.2.1 ?de ?_)
        case de => simp; have := HL10.out; omega
        intro v6 w11 hI2 hg2 _
        have hL11 : L ≤ (w10.alloc (.cells [.string ⟨a.toArray⟩, .string ⟨b.toArray⟩, .slice ao2 ps.length cap2].toArray 30)).heap.size := alloc_le HL10.out _
        have hob := HK2.out.alloc (.cells [.string ⟨a.toArray⟩, .string ⟨b.toArray⟩, .slice ao2 ps.length cap2].toArray 30)
        have hb11 : Below L w3 w11 := (HB10.out.alloc HL10.out _).grown hg2 hL11 (fun k hk => (HK2.out.lt k hk).1)
        have hkfin : OwnMeds w11 L 30 109 v6 (mdList (xs.take i) ++ [mdOf (a, b, ps, gd)]) := ownMeds_snoc HY2.out.1 hob (fun p hp => (HY2.out.2 p hp).alloc _) (by decide) (HR10.out.alloc _) hg2 hI2
        have hlfin : OwnMeds w11 L 24 80 (.slice ao5 ((mdList (xs.take i)).length + 1) cap5) (mdList (xs.take i) ++ [mdOf (a, b, ps, gd)]) := OwnMeds.grown (HFIN.out.later ((Below.refl _ w10).alloc (Nat.le_refl _) _)) hob (by decide) (by decide) hg2
        obtain ⟨ao6, cap6, rfl⟩ := own_slice hI2
        have HF := Lib.hid (And.intro hlfin (And.intro hkfin hb11))
        clear hL11 hob hb11 hkfin hlfin hI2 hg2 f0 f1 f2
        go_wp2
        have hwi := HW.out
        go_roundw
        case rel =>
          (try rw [hwi]); clear hwi
          refine ⟨i + 1, by go_num, hil, ?_, ?_, HF.out.2.2⟩
          · rw [HSN.out]; exact HF.out.1
          · rw [HSN.out]; exact HF.out.2.1
        case measure => (try rw [hwi]); clear hwi; simp [intOf]; omega
      · have HSN := Lib.hid (mdList_no xs i x HXI.out _ ep HMD.out hep)
        have fe : ((ep : Int) == 0) = false := by simp; omega
        clear hep
        go_wp2
        have hwi := HW.out
        go_roundw
        case rel =>
          (try rw [hwi]); clear hwi
          refine ⟨i + 1, by go_num, hil, ?_, ?_, HB9.out⟩
          · rw [HSN.out]; exact HLV9.out
          · rw [HSN.out]; exact HKV9.out
        case measure => (try rw [hwi]); clear hwi; simp [intOf]; omega
    · obtain rfl : i = xs.length := by omega
      have hd : decide (xs.length < xs.length) = false := decide_eq_false (Nat.lt_irrefl _)
      rw [List.take_length] at hlv hkv
      have hLr : L ≤ wr.heap.size := by rw [← HL.out.1]; exact hb.size
      have hbL : Below w3.heap.size w3 wr := by rw [HL.out.1]; exact hb
      have HC1 := Lib.hid (choose_any v1 _ ws (mdList xs) wr HPL.out.1 HPL.out.2 (HW3.out.1.below hbL) hlv.isIn)
      have HC2 := Lib.hid (fun W (h : Below wr.heap.size wr W) => rchoose_any v2 _ ws (mdList xs) W HPL.out.1 HPL.out.2 ((HW3.out.2.below hbL).below h) (hkv.isIn.below h))
      have HWB := Lib.hid hwb
      clear hlv hkv hb hLr hbL hwb
      go_wp2_with fail
      refine (HC1.out).mono ?_
      rintro e w6 ⟨rfl, hb6⟩
      have HB6 := Lib.hid hb6
      clear hb6
      go_wp2_with fail
      refine (HC2.out _ HB6.out).mono ?_
      rintro e w7 ⟨rfl, hb7⟩
      have HB7 := Lib.hid (HWB.out.trans ((HB6.out.trans (hb7.mono HB6.out.size)).mono HWB.out.size))
      clear hb7
      obtain ⟨q, hq⟩ : ∃ q, chooseP ws (mdList xs) = q := ⟨_, rfl⟩
      rw [hq]
      clear hq
      go_wp2
      go_ret
      exact ⟨by simp, HB7.out⟩
theorem acceptTold_row (s : ByteArray) (v1 : Value) (xs : List (List UInt8)) (W : World) (hL : laidMetH Tryd.prog Rows.acceptToldUptoRow.laid W) (hsh : W.ShapedOpen Tryd.prog) (hs : s.size + (totF List.length xs + xs.length) ≤ 1048576) (h1 : TxtsIn W v1 xs) :
    Calls Tryd.prog 14 #[.string s, v1] W fun e W' => e = .returned (.bool true) ∧ Below W.heap.size W W' := by
  obtain ⟨m, hm⟩ := Tryd.laysM145.s1_3 W hsh
  exact acceptTold_any s v1 xs m W (by omega) (by omega) h1 hm (sg_of_laid (l := Rows.acceptToldUptoRow.laid) (by simp [Rows.acceptToldUptoRow]) hL)
end Go.Proofs.YthnniiakmjonjaaDoor
