/- The walk of sheet.Pairs. Conditions: fewer than 2^31 bytes; bytealg's MaxLen holds an int. -/
import Derived.Test.YtgkpiakapdgglaaDoorPairsT
namespace Go.Proofs.YtgkpiakapdgglaaDoor
open Go.RowKit
set_option linter.unusedSimpArgs false
set_option linter.unusedVariables false
set_option maxRecDepth 1000000
theorem infoAPar : (Tryd.prog.info? 60).map (fun i => (i.zero, i.size, i.bytes)) = some (some (.agg #[.string ByteArray.empty, .string ByteArray.empty, .bool false]), 3, 40) := by kernel_rfl
theorem info_partsA (h : (Tryd.prog.info? 60).map (fun i => (i.zero, i.size, i.bytes)) = some (some (.agg #[.string ByteArray.empty, .string ByteArray.empty, .bool false]), 3, 40)) : ∃ i, Tryd.prog.info? 60 = some i ∧ i.zero = some (.agg #[.string ByteArray.empty, .string ByteArray.empty, .bool false]) ∧ i.size = 3 ∧ i.bytes = 40 := by
  obtain ⟨i, hi, he⟩ := Option.map_eq_some_iff.1 h
  simp only [Prod.mk.injEq] at he
  exact ⟨i, hi, he.1, he.2.1, he.2.2⟩

theorem le_3140 (n : Nat) (h : n ≤ 2147483648) : n ≤ 1099511627776 := by omega
theorem pd_err (n : Nat) : ∀ (l : List UInt8), l.length ≤ n → ∀ (acc : List UInt8) (i : Nat), (pd acc l i).2.2 = 0 ∨ (pd acc l i).2.2 = 51 := by
  induction n with
  | zero =>
    intro l hl acc i
    obtain rfl : l = [] := List.eq_nil_of_length_eq_zero (by omega)
    left; rw [pd.eq_def]
  | succ n ih =>
    intro l hl acc i
    match l, hl with
    | [], _ => left; rw [pd.eq_def]
    | c :: r, hl =>
      simp only [List.length_cons] at hl
      by_cases hc : c = 37
      · subst hc
        cases ht : trip (37 :: r) with
        | none => right; rw [pd_bad acc r i ht]
        | some k =>
          rw [(pd_good acc (37 :: r) i k ht).1]
          exact ih _ (by simp; omega) _ _
      · rw [pd_plain acc c r i hc]
        exact ih r (by omega) _ _
/-- strings.Split at one byte: the pieces stand in a new block. -/
theorem split_lib (s : ByteArray) (c : UInt8) (m : Int) (w : World) (hs : s.size < 4294967281) (hm : w.cell? ⟨1, 0, none⟩ = some (.int .i64 m)) :
    Calls Tryd.prog 28 #[.string s, .string ⟨#[c]⟩] w fun e w' => ∃ cap, e = .returned (.slice (some ⟨w.heap.size, 0, none⟩) (Lib.split s.data.toList [c]).length cap) ∧ StrsAt w' w.heap.size (Lib.split s.data.toList [c]) ∧ Below w.heap.size w w' := by
  refine (Tryd.strings_Split s ⟨#[c]⟩ m w hs hm (show 1 ≤ 1 from Nat.le_refl 1)).mono fun e w' ⟨he, hw⟩ => ?_
  have hlen := Lib.splitB_all ⟨#[c]⟩ (show 1 ≤ 1 from Nat.le_refl 1) 0 _ s rfl
  have hdat := Lib.splitB_data ⟨#[c]⟩ 0 (Lib.countB s ⟨#[c]⟩) s
  have hpc : Lib.split s.data.toList [c] = (Lib.splitB ⟨#[c]⟩ 0 (Lib.countB s ⟨#[c]⟩) s).map (·.data.toList) := hdat.symm
  have hl2 : (Lib.split s.data.toList [c]).length = Lib.countB s ⟨#[c]⟩ + 1 := by rw [hpc, List.length_map, hlen]
  refine ⟨Lib.countB s ⟨#[c]⟩ + 1, by rw [he, hl2], ⟨by rw [hw]; simp, fun j p hj => ?_⟩, by rw [hw]; exact (Below.refl _ w).alloc (Nat.le_refl _) _⟩
  rw [hpc, List.getElem?_map, Option.map_eq_some_iff] at hj
  obtain ⟨q, hq, rfl⟩ := hj
  rw [hw, Lib.cell_of_heap (heap_alloc_new w _)]
  simp [hq]
set_option maxHeartbeats 4000000 in
theorem spairs_any (s : ByteArray) (m : Int) (w : World) (hs : s.size ≤ 2147483648) (hm : w.cell? ⟨1, 0, none⟩ = some (.int .i64 m)) : Calls Tryd.prog 8 #[.string s] w (PairsPost s 60 w) := by
  have hs40 := le_3140 _ hs
  have hs47 := le_31_47 _ hs
  have hs32 := le_3132 _ hs
  obtain ⟨i0, hi, hz0, hz1, hz2⟩ := info_partsA infoAPar
  obtain ⟨L, hL⟩ : ∃ L, w.heap.size = L := ⟨_, rfl⟩
  have hmk : ∀ {w' : World}, Below L w w' → w'.cell? ⟨1, 0, none⟩ = some (.int .i64 m) := fun hb => by rw [hb.cell (p := ⟨1, 0, none⟩) (by rw [← hL]; exact World.block_lt_of_cell? _ _ hm)]; exact hm
  obtain ⟨⟨x, at_, no⟩, hd⟩ : ∃ q, pdec s.data.toList = q := ⟨_, rfl⟩
  by_cases h0 : no = 0
  · have hp : prsP s.data.toList = (parsOf (Lib.split s.data.toList [38]), 0, 0) := by unfold prsP; rw [hd]; rw [if_neg (by simp [h0])]
    have hz : ((no : Int) != 0) = false := by simp [h0]
    have HP := Lib.hid (And.intro hp hd); clear hp hd h0
    obtain ⟨pc, hpc⟩ : ∃ pc, Lib.split s.data.toList [38] = pc := ⟨_, rfl⟩
    have hsl := split_len 38 s.data.toList.length s.data.toList (Nat.le_refl _)
    rw [hpc, size_list] at hsl
    go_enter Tryd.func8, Tryd.ntmps8
    go_wp2_with fail
    refine (tdecode_any s _ hs47).mono ?_
    rintro e w1 ⟨rfl, hb1⟩
    rw [HP.out.2]
    rw [hL] at hb1
    obtain ⟨g, hgw⟩ : ∃ g, w1.heap.size = g := ⟨_, rfl⟩
    have hgL : L ≤ g := by have := hb1.size; omega
    go_wp2_with fail
    refine (split_lib s 38 m _ hs32 (hmk hb1)).mono ?_
    rintro e w2 ⟨cap, rfl, hat, hb2⟩
    rw [hpc, hgw] at hat
    rw [hgw, hpc]
    rw [hgw] at hb2
    have hout : w2.ownsRow L 60 3 (.slice none 0 0) 0 [] := World.ownsRow_nil _ _ _ _
    have hb1' : Below L w w2 := hb1.trans (hb2.mono hgL)
    have hg : g = g := rfl
    clear hgw hb2
    have HOUT := Lib.hid hout; have HAT := Lib.hid hat; have HB1 := Lib.hid hb1'; have HSL := Lib.hid (And.intro hsl hpc); have HG := Lib.hid hg
    clear hout hat hb1' hsl hpc hb1 hg
    go_wp2
    go_loopw [28, 9] (fun iv v wr => ∃ i : Nat, iv = .int .i64 i ∧ i ≤ pc.length ∧ v.ownBlock ≠ some g ∧ wr.ownsRow L 60 3 v (parsOf (pc.take i)).length (parsV (parsOf (pc.take i))) ∧ StrsAt wr g pc ∧ Below L w wr)
      (fun i _ _ => pc.length - (intOf i).toNat)
    case atStart => exact ⟨0, rfl, Nat.zero_le _, by simp [Value.ownBlock], HOUT.out, HAT.out, HB1.out⟩
    case round =>
      clear HOUT HAT HB1
      obtain ⟨i, rfl, hi1, hne, hown, hat, hb⟩ := hrel
      by_cases hlt : i < pc.length
      · obtain ⟨p, hp⟩ : ∃ p, pc[i]? = some p := ⟨_, List.getElem?_eq_getElem hlt⟩
        have hcell := hat.2 i p hp
        obtain ⟨P, hP⟩ : ∃ P, (⟨p.toArray⟩ : ByteArray) = P := ⟨_, rfl⟩
        have hPl : P.data.toList = p := by rw [← hP]
        rw [hP] at hcell
        clear hP
        have htk : pc.take (i + 1) = pc.take i ++ [p] := by rw [List.take_add_one, hp]; rfl
        have hpl : p.length ≤ s.size := by rw [← size_list]; have := HSL.out.1.2.2 p (List.mem_of_getElem? hp); rw [size_list]; exact this
        have hlen := parsOf_len (pc.take i)
        rw [List.length_take, Nat.min_eq_left hi1] at hlen
        have hsmall := small40 (parsOf (pc.take i)).length i s.size hlen (le_i1 i pc.length s.size hlt HSL.out.1.1) hs40
        have k0 : (0 : Int) ≤ (i : Int) := by omega
        have k1 : (i : Int) < (pc.length : Int) := by omega
        have hwi := wrap64_small i (le_i i pc.length s.size hlt HSL.out.1.1 hs40)
        have hLw : L ≤ wr.heap.size := by have h5 : g < wr.heap.size := hat.1; omega
        by_cases hpe : p = []
        · have hemp2 : P.toList.isEmpty = true := by rw [ByteArray.toList_eq, hPl, hpe]; rfl
          have hst : parsOf (pc.take (i + 1)) = parsOf (pc.take i) := by rw [htk, parsOf_append, hpe]; simp [parsOf]
          have HX := Lib.hid (And.intro hst (And.intro hne (And.intro hown (And.intro hat hb))))
          clear hst htk hne hown hat hb hpl hlen hsmall hp hpe hPl
          go_wp2
          go_roundw
          case rel => (try rw [hwi]); clear hwi; exact ⟨i + 1, by go_num, by omega, HX.out.2.1, by rw [HX.out.1]; exact HX.out.2.2.1, HX.out.2.2.2.1, HX.out.2.2.2.2⟩
          case measure => (try rw [hwi]); clear hwi; simp [intOf]; omega
        · have hemp2 : P.toList.isEmpty = false := by
            rw [ByteArray.toList_eq, hPl]
            cases p with
            | nil => exact absurd rfl hpe
            | cons => rfl
          have hst : parsOf (pc.take (i + 1)) = parsOf (pc.take i) ++ [parOf p] := by rw [htk, parsOf_append]; simp [parsOf, hpe]
          have HX := Lib.hid (And.intro hst (And.intro hp hpl))
          clear hst htk hlen hp hpl
          obtain ⟨⟨ca, cb, cm⟩, hct⟩ : ∃ q, Lib.cut p [61] = q := ⟨_, rfl⟩
          have hcl := cut_len 61 p
          rw [hct] at hcl
          have hpo : parOf p = (spc ca, spc cb, cm) := by unfold parOf; rw [hct]
          have hsp : p.length ≤ s.size := HX.out.2.2
          have zp : P.size < 4294967281 := by rw [← size_list, hPl]; exact le_3132 _ (Nat.le_trans hsp hs)
          have za : (⟨ca.toArray⟩ : ByteArray).size ≤ 2147483648 := by rw [← size_list]; exact Nat.le_trans hcl.1 (Nat.le_trans hsp hs)
          have zb : (⟨cb.toArray⟩ : ByteArray).size ≤ 2147483648 := by rw [← size_list]; exact Nat.le_trans hcl.2 (Nat.le_trans hsp hs)
          have HCT := Lib.hid (And.intro hct hpo); have HPL := Lib.hid hPl
          clear hct hcl hpo hsp hPl hpe
          go_wp2_with fail
          refine (Tryd.strings_Cut P ⟨#[61]⟩ m _ zp (hmk hb)).mono ?_
          rintro e w2 ⟨rfl, n2, rfl⟩
          rw [HPL.out, show (⟨#[61]⟩ : ByteArray).data.toList = [61] from rfl, HCT.out.1]
          go_wp2_with fail
          refine (text_any ⟨ca.toArray⟩ m _ za (hmk (below_drewN hb n2))).mono ?_
          rintro e w3 ⟨rfl, hb3⟩
          go_wp2_with fail
          refine (text_any ⟨cb.toArray⟩ m _ zb (hmk ((below_drewN hb n2).trans (hb3.mono hLw)))).mono ?_
          rintro e w4 ⟨rfl, hb4⟩
          have hb5 : Below wr.heap.size wr w4 := (below_drewN (Below.refl wr.heap.size wr) n2).trans (hb3.trans (hb4.mono hb3.size))
          have hown4 := hown.kept (grown_of_below hb5) (Classical.em _)
          have hat4 := strsAt_grown hat (grown_of_below hb5) (by simp)
          have hb6 : Below L w w4 := hb.trans (hb5.mono hLw)
          have hs5 := hb5.size
          have hbs4 : L ≤ w4.heap.size := Nat.le_trans hLw hs5
          have HAT := Lib.hid hat4; have HNE := Lib.hid hne
          clear hat hown hb hb3 hb4 hb5 hat4 hne
          go_wp2_with (at_builtin; refine wpList_append_own_at _ rfl (.tmp 40) (.tmp 49) 22 rfl L 60 i0 (.agg #[.string ByteArray.empty, .string ByteArray.empty, .bool false]) 3 40 Tryd.underlying22 hi hz0 hz1 hz2 rfl (by decide) _ _ _ rfl (hown4.alloc _) ⟨w4.heap.size, 0, none⟩ 1 1 [.string ⟨(spc ca).toArray⟩, .string ⟨(spc cb).toArray⟩, .bool cm] rfl rfl (cells_new _ _ _) (by simp [Value.oneCell']) hsmall.1 hsmall.2.1 ?d0 ?_)
          case d0 => clear hwi; simp; omega
          intro v1 w7 hI1 hg7 _ hloc
          have hb8 := (hb6.alloc hbs4 _).grown hg7 (by clear hwi; simp; omega) (fun j hj => (hown4.lt j hj).1)
          have hat8 : StrsAt w7 g pc := strsAt_grown (row := _) (strsAt_below HAT.out ((Below.refl w4.heap.size w4).alloc (Nat.le_refl _) _) HAT.out.1) hg7 (fun e => HNE.out e.symm)
          have hne8 : v1.ownBlock ≠ some g := by
            rcases hloc with h | h
            · rw [h]; exact HNE.out
            · rw [h]; intro e; injection e with e; have h5 : g < w4.heap.size := HAT.out.1; clear hwi; first | omega | (rw [World.size_alloc] at e; omega)
          rw [show [Value.string ⟨(spc ca).toArray⟩, .string ⟨(spc cb).toArray⟩, .bool cm] = parV (parOf p) from by rw [HCT.out.2]; rfl, ← parsV_snoc] at hI1
          have HI1 := Lib.hid hI1; have HB8 := Lib.hid (And.intro hb8 (And.intro hat8 hne8))
          clear hI1 hb8 hg7 hown4 hb6 hat8 hne8 hloc
          go_wp2
          go_roundw
          case rel =>
            try rw [hwi]
            clear hwi
            refine ⟨i + 1, by go_num, by omega, HB8.out.2.2, ?_, HB8.out.2.1, HB8.out.1⟩
            rw [HX.out.1, List.length_append]
            exact HI1.out
          case measure => (try rw [hwi]); clear hwi; simp [intOf]; omega
      · obtain rfl : i = pc.length := by omega
        rw [List.take_length] at hown
        have HX := Lib.hid (And.intro hown hb)
        clear hown hb hat hne
        go_wp2
        go_ret3
        unfold PairsPost
        rw [HP.out.1, hL, HSL.out.2]
        exact ⟨_, rfl, HX.out.1, HX.out.2⟩
  · have hp : prsP s.data.toList = ([], at_, 51) := by unfold prsP; rw [hd]; rw [if_pos (by simpa using h0)]
    have hno : no = 51 := by have := pd_err _ s.data.toList (Nat.le_refl _) [] 0; rw [show pd [] s.data.toList 0 = pdec s.data.toList from rfl, hd] at this; exact this.resolve_left h0
    subst hno
    have HP := Lib.hid (And.intro hp hd); clear hp hd h0
    go_enter Tryd.func8, Tryd.ntmps8
    go_wp2_with fail
    refine (tdecode_any s _ hs47).mono ?_
    rintro e w1 ⟨rfl, hb1⟩
    rw [HP.out.2]
    go_wp2
    go_ret3
    unfold PairsPost
    rw [HP.out.1]
    exact ⟨_, rfl, World.ownsRow_nil _ _ _ _, hb1⟩
end Go.Proofs.YtgkpiakapdgglaaDoor
