/- Pairs, LawPairs, Awake15, OpenPrts: texts of the seat, one behind the other (a claim holds at most sixty). Conditions: each theorem names its own. -/
import Derived.Test.YtlfdeenekjklgaaGreatDoorPk26
import Derived.BigQuiet
import Derived.Deep.QuietTactic
import Derived.Test.YtlfdeenekjklgaaGreatDoorRows
import Derived.Test.YtlfdeenekjklgaaGreatDoorPk06
import Derived.Deep.Slices
import Derived.ChangeArms
import Derived.OpenShut
namespace Go.Proofs.YtlfdeenekjklgaaGreatDoor
open Go.RowKit
set_option linter.unusedSimpArgs false
set_option linter.unusedVariables false
set_option maxRecDepth 1000000
theorem infoAPar : (Tryz.prog.info? 52).map (fun i => (i.zero, i.size, i.bytes)) = some (some (.agg #[.string ByteArray.empty, .string ByteArray.empty, .bool false]), 3, 40) := by kernel_rfl
theorem info_partsA (h : (Tryz.prog.info? 52).map (fun i => (i.zero, i.size, i.bytes)) = some (some (.agg #[.string ByteArray.empty, .string ByteArray.empty, .bool false]), 3, 40)) : ∃ i, Tryz.prog.info? 52 = some i ∧ i.zero = some (.agg #[.string ByteArray.empty, .string ByteArray.empty, .bool false]) ∧ i.size = 3 ∧ i.bytes = 40 := by
  obtain ⟨i, hi, he⟩ := Option.map_eq_some_iff.1 h
  simp only [Prod.mk.injEq] at he
  exact ⟨i, hi, he.1, he.2.1, he.2.2⟩

theorem le_3140 (n : Nat) (h : n ≤ 2147483648) : n ≤ 1099511627776 := by omega
theorem pd_err (n : Nat) : ∀ (l : List UInt8), l.length ≤ n → ∀ (acc : List UInt8) (i : Nat), (pd acc l i).2.2 = 0 ∨ (pd acc l i).2.2 = 51 := by
  induction n with
  | zero =>
    intro l hl acc i
    obtain rfl : l = [] := List.eq_nil_of_length_eq_zero (by omega)
    left; rw [pd.eq_def]
  | succ n ih =>
    intro l hl acc i
    match l, hl with
    | [], _ => left; rw [pd.eq_def]
    | c :: r, hl =>
      simp only [List.length_cons] at hl
      by_cases hc : c = 37
      · subst hc
        cases ht : trip (37 :: r) with
        | none => right; rw [pd_bad acc r i ht]
        | some k =>
          rw [(pd_good acc (37 :: r) i k ht).1]
          exact ih _ (by simp; omega) _ _
      · rw [pd_plain acc c r i hc]
        exact ih r (by omega) _ _
/-- strings.Split at one byte: the pieces stand in a new block. -/
theorem split_lib (s : ByteArray) (c : UInt8) (m : Int) (w : World) (hs : s.size < 4294967281) (hm : w.cell? ⟨2, 0, none⟩ = some (.int .i64 m)) :
    Calls Tryz.prog 40 #[.string s, .string ⟨#[c]⟩] w fun e w' => ∃ cap, e = .returned (.slice (some ⟨w.heap.size, 0, none⟩) (Lib.split s.data.toList [c]).length cap) ∧ StrsAt w' w.heap.size (Lib.split s.data.toList [c]) ∧ Below w.heap.size w w' := by
  refine (Tryz.strings_Split s ⟨#[c]⟩ m w hs hm (show 1 ≤ 1 from Nat.le_refl 1)).mono fun e w' ⟨he, hw⟩ => ?_
  have hlen := Lib.splitB_all ⟨#[c]⟩ (show 1 ≤ 1 from Nat.le_refl 1) 0 _ s rfl
  have hdat := Lib.splitB_data ⟨#[c]⟩ 0 (Lib.countB s ⟨#[c]⟩) s
  have hpc : Lib.split s.data.toList [c] = (Lib.splitB ⟨#[c]⟩ 0 (Lib.countB s ⟨#[c]⟩) s).map (·.data.toList) := hdat.symm
  have hl2 : (Lib.split s.data.toList [c]).length = Lib.countB s ⟨#[c]⟩ + 1 := by rw [hpc, List.length_map, hlen]
  refine ⟨Lib.countB s ⟨#[c]⟩ + 1, by rw [he, hl2], ⟨by rw [hw]; simp, fun j p hj => ?_⟩, by rw [hw]; exact (Below.refl _ w).alloc (Nat.le_refl _) _⟩
  rw [hpc, List.getElem?_map, Option.map_eq_some_iff] at hj
  obtain ⟨q, hq, rfl⟩ := hj
  rw [hw, Lib.cell_of_heap (heap_alloc_new w _)]
  simp [hq]
set_option maxHeartbeats 4000000 in
theorem spairs_any (s : ByteArray) (m : Int) (w : World) (hs : s.size ≤ 2147483648) (hm : w.cell? ⟨2, 0, none⟩ = some (.int .i64 m)) : Calls Tryz.prog 15 #[.string s] w (PairsPost s 52 w) := by
  have hs40 := le_3140 _ hs
  have hs47 := le_31_47 _ hs
  have hs32 := le_3132 _ hs
  obtain ⟨i0, hi, hz0, hz1, hz2⟩ := info_partsA infoAPar
  obtain ⟨L, hL⟩ : ∃ L, w.heap.size = L := ⟨_, rfl⟩
  have hmk : ∀ {w' : World}, Below L w w' → w'.cell? ⟨2, 0, none⟩ = some (.int .i64 m) := fun hb => by rw [hb.cell (p := ⟨2, 0, none⟩) (by rw [← hL]; exact World.block_lt_of_cell? _ _ hm)]; exact hm
  obtain ⟨⟨x, at_, no⟩, hd⟩ : ∃ q, pdec s.data.toList = q := ⟨_, rfl⟩
  by_cases h0 : no = 0
  · have hp : prsP s.data.toList = (parsOf (Lib.split s.data.toList [38]), 0, 0) := by unfold prsP; rw [hd]; rw [if_neg (by simp [h0])]
    have hz : ((no : Int) != 0) = false := by simp [h0]
    have HP := Lib.hid (And.intro hp hd); clear hp hd h0
    obtain ⟨pc, hpc⟩ : ∃ pc, Lib.split s.data.toList [38] = pc := ⟨_, rfl⟩
    have hsl := split_len 38 s.data.toList.length s.data.toList (Nat.le_refl _)
    rw [hpc, size_list] at hsl
    go_enter Tryz.func15, Tryz.ntmps15
    go_wp2_with fail
    refine (tdecode_any s _ hs47).mono ?_
    rintro e w1 ⟨rfl, hb1⟩
    rw [HP.out.2]
    rw [hL] at hb1
    obtain ⟨g, hgw⟩ : ∃ g, w1.heap.size = g := ⟨_, rfl⟩
    have hgL : L ≤ g := by have := hb1.size; omega
    go_wp2_with fail
    refine (split_lib s 38 m _ hs32 (hmk hb1)).mono ?_
    rintro e w2 ⟨cap, rfl, hat, hb2⟩
    rw [hpc, hgw] at hat
    rw [hgw, hpc]
    rw [hgw] at hb2
    have hout : w2.ownsRow L 52 3 (.slice none 0 0) 0 [] := World.ownsRow_nil _ _ _ _
    have hb1' : Below L w w2 := hb1.trans (hb2.mono hgL)
    have hg : g = g := rfl
    clear hgw hb2
    have HOUT := Lib.hid hout; have HAT := Lib.hid hat; have HB1 := Lib.hid hb1'; have HSL := Lib.hid (And.intro hsl hpc); have HG := Lib.hid hg
    clear hout hat hb1' hsl hpc hb1 hg
    go_wp2
    go_loopw [28, 9] (fun iv v wr => ∃ i : Nat, iv = .int .i64 i ∧ i ≤ pc.length ∧ v.ownBlock ≠ some g ∧ wr.ownsRow L 52 3 v (parsOf (pc.take i)).length (parsV (parsOf (pc.take i))) ∧ StrsAt wr g pc ∧ Below L w wr)
      (fun i _ _ => pc.length - (intOf i).toNat)
    case atStart => exact ⟨0, rfl, Nat.zero_le _, by simp [Value.ownBlock], HOUT.out, HAT.out, HB1.out⟩
    case round =>
      clear HOUT HAT HB1
      obtain ⟨i, rfl, hi1, hne, hown, hat, hb⟩ := hrel
      by_cases hlt : i < pc.length
      · obtain ⟨p, hp⟩ : ∃ p, pc[i]? = some p := ⟨_, List.getElem?_eq_getElem hlt⟩
        have hcell := hat.2 i p hp
        obtain ⟨P, hP⟩ : ∃ P, (⟨p.toArray⟩ : ByteArray) = P := ⟨_, rfl⟩
        have hPl : P.data.toList = p := by rw [← hP]
        rw [hP] at hcell
        clear hP
        have htk : pc.take (i + 1) = pc.take i ++ [p] := by rw [List.take_add_one, hp]; rfl
        have hpl : p.length ≤ s.size := by rw [← size_list]; have := HSL.out.1.2.2 p (List.mem_of_getElem? hp); rw [size_list]; exact this
        have hlen := parsOf_len (pc.take i)
        rw [List.length_take, Nat.min_eq_left hi1] at hlen
        have hsmall := small40 (parsOf (pc.take i)).length i s.size hlen (le_i1 i pc.length s.size hlt HSL.out.1.1) hs40
        have k0 : (0 : Int) ≤ (i : Int) := by omega
        have k1 : (i : Int) < (pc.length : Int) := by omega
        have hwi := wrap64_small i (le_i i pc.length s.size hlt HSL.out.1.1 hs40)
        have hLw : L ≤ wr.heap.size := by have h5 : g < wr.heap.size := hat.1; omega
        by_cases hpe : p = []
        · have hemp2 : P.toList.isEmpty = true := by rw [ByteArray.toList_eq, hPl, hpe]; rfl
          have hst : parsOf (pc.take (i + 1)) = parsOf (pc.take i) := by rw [htk, parsOf_append, hpe]; simp [parsOf]
          have HX := Lib.hid (And.intro hst (And.intro hne (And.intro hown (And.intro hat hb))))
          clear hst htk hne hown hat hb hpl hlen hsmall hp hpe hPl
          go_wp2
          go_roundw
          case rel => (try rw [hwi]); clear hwi; exact ⟨i + 1, by go_num, by omega, HX.out.2.1, by rw [HX.out.1]; exact HX.out.2.2.1, HX.out.2.2.2.1, HX.out.2.2.2.2⟩
          case measure => (try rw [hwi]); clear hwi; simp [intOf]; omega
        · have hemp2 : P.toList.isEmpty = false := by
            rw [ByteArray.toList_eq, hPl]
            cases p with
            | nil => exact absurd rfl hpe
            | cons => rfl
          have hst : parsOf (pc.take (i + 1)) = parsOf (pc.take i) ++ [parOf p] := by rw [htk, parsOf_append]; simp [parsOf, hpe]
          have HX := Lib.hid (And.intro hst (And.intro hp hpl))
          clear hst htk hlen hp hpl
          obtain ⟨⟨ca, cb, cm⟩, hct⟩ : ∃ q, Lib.cut p [61] = q := ⟨_, rfl⟩
          have hcl := cut_len 61 p
          rw [hct] at hcl
          have hpo : parOf p = (spc ca, spc cb, cm) := by unfold parOf; rw [hct]
          have hsp : p.length ≤ s.size := HX.out.2.2
          have zp : P.size < 4294967281 := by rw [← size_list, hPl]; exact le_3132 _ (Nat.le_trans hsp hs)
          have za : (⟨ca.toArray⟩ : ByteArray).size ≤ 2147483648 := by rw [← size_list]; exact Nat.le_trans hcl.1 (Nat.le_trans hsp hs)
          have zb : (⟨cb.toArray⟩ : ByteArray).size ≤ 2147483648 := by rw [← size_list]; exact Nat.le_trans hcl.2 (Nat.le_trans hsp hs)
          have HCT := Lib.hid (And.intro hct hpo); have HPL := Lib.hid hPl
          clear hct hcl hpo hsp hPl hpe
          go_wp2_with fail
          refine (Tryz.strings_Cut P ⟨#[61]⟩ m _ zp (hmk hb)).mono ?_
          rintro e w2 ⟨rfl, n2, rfl⟩
          rw [HPL.out, show (⟨#[61]⟩ : ByteArray).data.toList = [61] from rfl, HCT.out.1]
          go_wp2_with fail
          refine (text_any ⟨ca.toArray⟩ m _ za (hmk (below_drewN hb n2))).mono ?_
          rintro e w3 ⟨rfl, hb3⟩
          go_wp2_with fail
          refine (text_any ⟨cb.toArray⟩ m _ zb (hmk ((below_drewN hb n2).trans (hb3.mono hLw)))).mono ?_
          rintro e w4 ⟨rfl, hb4⟩
          have hb5 : Below wr.heap.size wr w4 := (below_drewN (Below.refl wr.heap.size wr) n2).trans (hb3.trans (hb4.mono hb3.size))
          have hown4 := hown.kept (grown_of_below hb5) (Classical.em _)
          have hat4 := strsAt_grown hat (grown_of_below hb5) (by simp)
          have hb6 : Below L w w4 := hb.trans (hb5.mono hLw)
          have hs5 := hb5.size
          have hbs4 : L ≤ w4.heap.size := Nat.le_trans hLw hs5
          have HAT := Lib.hid hat4; have HNE := Lib.hid hne
          clear hat hown hb hb3 hb4 hb5 hat4 hne
          go_wp2_with (at_builtin; refine wpList_append_own_at _ rfl (.tmp 40) (.tmp 49) 44 rfl L 52 i0 (.agg #[.string ByteArray.empty, .string ByteArray.empty, .bool false]) 3 40 Tryz.underlying44 hi hz0 hz1 hz2 rfl (by decide) _ _ _ rfl (hown4.alloc _) ⟨w4.heap.size, 0, none⟩ 1 1 [.string ⟨(spc ca).toArray⟩, .string ⟨(spc cb).toArray⟩, .bool cm] rfl rfl (cells_new _ _ _) (by simp [Value.oneCell']) hsmall.1 hsmall.2.1 ?d0 ?_)
          case d0 => clear hwi; simp; omega
          intro v1 w7 hI1 hg7 _ hloc
          have hb8 := (hb6.alloc hbs4 _).grown hg7 (by clear hwi; simp; omega) (fun j hj => (hown4.lt j hj).1)
          have hat8 : StrsAt w7 g pc := strsAt_grown (row := _) (strsAt_below HAT.out ((Below.refl w4.heap.size w4).alloc (Nat.le_refl _) _) HAT.out.1) hg7 (fun e => HNE.out e.symm)
          have hne8 : v1.ownBlock ≠ some g := by
            rcases hloc with h | h
            · rw [h]; exact HNE.out
            · rw [h]; intro e; injection e with e; have h5 : g < w4.heap.size := HAT.out.1; clear hwi; first | omega | (rw [World.size_alloc] at e; omega)
          rw [show [Value.string ⟨(spc ca).toArray⟩, .string ⟨(spc cb).toArray⟩, .bool cm] = parV (parOf p) from by rw [HCT.out.2]; rfl, ← parsV_snoc] at hI1
          have HI1 := Lib.hid hI1; have HB8 := Lib.hid (And.intro hb8 (And.intro hat8 hne8))
          clear hI1 hb8 hg7 hown4 hb6 hat8 hne8 hloc
          go_wp2
          go_roundw
          case rel =>
            try rw [hwi]
            clear hwi
            refine ⟨i + 1, by go_num, by omega, HB8.out.2.2, ?_, HB8.out.2.1, HB8.out.1⟩
            rw [HX.out.1, List.length_append]
            exact HI1.out
          case measure => (try rw [hwi]); clear hwi; simp [intOf]; omega
      · obtain rfl : i = pc.length := by omega
        rw [List.take_length] at hown
        have HX := Lib.hid (And.intro hown hb)
        clear hown hb hat hne
        go_wp2
        go_ret3
        unfold PairsPost
        rw [HP.out.1, hL, HSL.out.2]
        exact ⟨_, rfl, HX.out.1, HX.out.2⟩
  · have hp : prsP s.data.toList = ([], at_, 51) := by unfold prsP; rw [hd]; rw [if_pos (by simpa using h0)]
    have hno : no = 51 := by have := pd_err _ s.data.toList (Nat.le_refl _) [] 0; rw [show pd [] s.data.toList 0 = pdec s.data.toList from rfl, hd] at this; exact this.resolve_left h0
    subst hno
    have HP := Lib.hid (And.intro hp hd); clear hp hd h0
    go_enter Tryz.func15, Tryz.ntmps15
    go_wp2_with fail
    refine (tdecode_any s _ hs47).mono ?_
    rintro e w1 ⟨rfl, hb1⟩
    rw [HP.out.2]
    go_wp2
    go_ret3
    unfold PairsPost
    rw [HP.out.1]
    exact ⟨_, rfl, World.ownsRow_nil _ _ _ _, hb1⟩
end Go.Proofs.YtlfdeenekjklgaaGreatDoor
namespace Go.Proofs.YtlfdeenekjklgaaGreatDoor
open Go.RowKit
set_option linter.unusedSimpArgs false
set_option linter.unusedVariables false
set_option maxRecDepth 1000000
/-- A row of pairs in memory. -/
def ParsAt (w : World) (v : Value) (l : List Par) : Prop := (v = .slice none 0 0 ∧ l = []) ∨ ∃ g cap, v = .slice (some ⟨g, 0, none⟩) l.length cap ∧ ∀ i p, l[i]? = some p →
  w.cell? ⟨g, i * 3, none⟩ = some (.string ⟨p.1.toArray⟩) ∧ w.cell? ⟨g, i * 3 + 1, none⟩ = some (.string ⟨p.2.1.toArray⟩) ∧ w.cell? ⟨g, i * 3 + 2, none⟩ = some (.bool p.2.2)
theorem parsAt_own {w : World} {base : Nat} {T : TypeId} {v : Value} {l : List Par} (h : w.ownsRow base T 3 v l.length (parsV l)) : ParsAt w v l := by
  rcases h.2 with ⟨rfl, h0⟩ | ⟨g, cap, cur, rfl, _⟩
  · exact Or.inl ⟨rfl, List.eq_nil_of_length_eq_zero h0⟩
  · have hc := h.cells (g := g) rfl
    refine Or.inr ⟨g, cap, rfl, fun i p hp => ?_⟩
    have hg := parsV_get l i p hp
    have e : ∀ j, (⟨g, 0, none⟩ : Addr).add j = ⟨g, j, none⟩ := fun j => by unfold Addr.add; split <;> simp_all
    refine ⟨?_, ?_, ?_⟩
    · have := hc _ _ hg.1; rwa [e] at this
    · have := hc _ _ hg.2.1; rwa [e] at this
    · have := hc _ _ hg.2.2; rwa [e] at this
set_option maxHeartbeats 4000000 in
theorem lawpairs_any (v1 v2 : Value) (l : List Par) (w : World) (hl : l.length ≤ 2199023255552) (h1 : ParsAt w v1 l) (h2 : ParsAt w v2 l) :
    Calls Tryz.prog 17 #[v1, v2] w fun e w' => e = .returned (.bool true) ∧ Below w.heap.size w w' := by
  rcases h1 with ⟨rfl, rfl⟩ | ⟨g1, cap1, rfl, c1⟩
  · rcases h2 with ⟨rfl, _⟩ | ⟨g2, cap2, rfl, _⟩
    · go_enter Tryz.func17, Tryz.ntmps17
      go_wp2
      go_loopw [5] (fun iv wr => iv = .int .i64 0 ∧ wr = w) (fun _ _ => 0)
      case atStart => exact ⟨rfl, rfl⟩
      case round =>
        obtain ⟨rfl, rfl⟩ := hrel
        go_wp2
        go_ret
        exact ⟨rfl, Below.refl _ _⟩
    · go_enter Tryz.func17, Tryz.ntmps17
      go_wp2
      go_loopw [5] (fun iv wr => iv = .int .i64 0 ∧ wr = w) (fun _ _ => 0)
      case atStart => exact ⟨rfl, rfl⟩
      case round =>
        obtain ⟨rfl, rfl⟩ := hrel
        go_wp2
        go_ret
        exact ⟨rfl, Below.refl _ _⟩
  · rcases h2 with ⟨rfl, rfl⟩ | ⟨g2, cap2, rfl, c2⟩
    · go_enter Tryz.func17, Tryz.ntmps17
      go_wp2
      go_loopw [5] (fun iv wr => iv = .int .i64 0 ∧ wr = w) (fun _ _ => 0)
      case atStart => exact ⟨rfl, rfl⟩
      case round =>
        obtain ⟨rfl, rfl⟩ := hrel
        go_wp2
        go_ret
        exact ⟨rfl, Below.refl _ _⟩
    · go_enter Tryz.func17, Tryz.ntmps17
      go_wp2
      go_loopw [5] (fun iv wr => ∃ i k : Nat, iv = .int .i64 i ∧ i ≤ l.length ∧ wr = w.drewN k) (fun i _ => l.length - (intOf i).toNat)
      case atStart => exact ⟨0, 0, rfl, Nat.zero_le _, rfl⟩
      case round =>
        obtain ⟨i, k, rfl, hi, rfl⟩ := hrel
        by_cases hlt : i < l.length
        · obtain ⟨p, hp⟩ : ∃ p, l[i]? = some p := ⟨_, List.getElem?_eq_getElem hlt⟩
          obtain ⟨a0, a1, a2⟩ := c1 i p hp
          obtain ⟨b0, b1, b2⟩ := c2 i p hp
          have bel := below_drewN (Below.refl w.heap.size w) k
          obtain ⟨W2, hW2⟩ : ∃ W2, w.drewN k = W2 := ⟨_, rfl⟩
          have a0' : W2.cell? ⟨g1, i * 3, none⟩ = some (.string ⟨p.1.toArray⟩) := by rw [← hW2]; exact a0
          have a1' : W2.cell? ⟨g1, i * 3 + 1, none⟩ = some (.string ⟨p.2.1.toArray⟩) := by rw [← hW2]; exact a1
          have a2' : W2.cell? ⟨g1, i * 3 + 2, none⟩ = some (.bool p.2.2) := by rw [← hW2]; exact a2
          have b0' : W2.cell? ⟨g2, i * 3, none⟩ = some (.string ⟨p.1.toArray⟩) := by rw [← hW2]; exact b0
          have b1' : W2.cell? ⟨g2, i * 3 + 1, none⟩ = some (.string ⟨p.2.1.toArray⟩) := by rw [← hW2]; exact b1
          have b2' : W2.cell? ⟨g2, i * 3 + 2, none⟩ = some (.bool p.2.2) := by rw [← hW2]; exact b2
          rw [hW2]
          have HW := Lib.hid hW2
          clear hW2 a0 a1 a2 b0 b1 b2
          have k0 : (0 : Int) ≤ (i : Int) := by omega
          have k1 : (i : Int) < (l.length : Int) := by omega
          have hwi := wrap64_small i (Nat.le_trans hi hl)
          go_wp2_with fail
          refine wp_region_still_lit (by kernel_rfl) (by kernel_rfl) ?_
          repeat still_step
          refine wpStill_nil ?_
          go_wp2
          go_roundw
          case rel =>
            try rw [hwi]
            clear hwi
            exact ⟨i + 1, k + 1, by go_num, by omega, by rw [← HW.out]; rfl⟩
          case measure => (try rw [hwi]); clear hwi; simp [intOf]; omega
        · have hd : decide (i < l.length) = false := decide_eq_false hlt
          have bel := below_drewN (Below.refl w.heap.size w) k
          go_wp2
          go_ret
          exact ⟨rfl, bel⟩
end Go.Proofs.YtlfdeenekjklgaaGreatDoor
namespace Go.Proofs.YtlfdeenekjklgaaGreatDoor
open Go.RowKit
set_option linter.unusedSimpArgs false
set_option linter.unusedVariables false
set_option maxRecDepth 1000000
theorem isB_any (w : World) : Calls Tryz.prog 24 #[.string ⟨#[66]⟩] w fun e w' => e = .returned (.bool true) ∧ w' = w := by
  go_enter Tryz.func24, Tryz.ntmps24
  go_wp2
  go_loopw [8] (fun iv wr => ∃ i : Nat, iv = .int .i64 i ∧ i ≤ 1 ∧ wr = w) (fun i _ => 1 - (intOf i).toNat)
  case atStart => exact ⟨0, rfl, by omega, rfl⟩
  case round =>
    obtain ⟨i, rfl, hi, rfl⟩ := hrel
    have h2 : i = 0 ∨ i = 1 := by omega
    rcases h2 with rfl | rfl
    · rw [show ((0 : Nat) : Int) = 0 from rfl]
      go_wp2
      go_roundw
      case rel => exact ⟨1, rfl, by omega, by first | rfl | trivial⟩
      case measure => decide
    · rw [show ((1 : Nat) : Int) = 1 from rfl]
      go_wp2
      go_ret
      exact ⟨rfl, rfl⟩
theorem prs_ab : prsP [97, 61, 98, 43, 99] = ([([97], [98, 32, 99], true)], 0, 0) := by decide +kernel
set_option maxHeartbeats 1000000 in
theorem awake15_any (m : Int) (w : World) (hm : w.cell? ⟨2, 0, none⟩ = some (.int .i64 m)) : Calls Tryz.prog 10 #[] w fun e w' => e = .returned (.bool true) ∧ Below w.heap.size w w' := by
  go_enter Tryz.func10, Tryz.ntmps10
  go_wp2_with fail
  refine (spairs_any ⟨#[97, 61, 98, 43, 99]⟩ m _ (by decide) hm).mono ?_
  rintro e w1 ⟨v, rfl, hown, hb⟩
  rw [show (⟨#[97, 61, 98, 43, 99]⟩ : ByteArray).data.toList = [97, 61, 98, 43, 99] from rfl, prs_ab] at hown
  rw [show (⟨#[97, 61, 98, 43, 99]⟩ : ByteArray).data.toList = [97, 61, 98, 43, 99] from rfl, prs_ab]
  obtain ⟨g, cap, rfl⟩ : ∃ g cap, v = .slice (some ⟨g, 0, none⟩) 1 cap := by
    rcases hown.2 with ⟨rfl, h0⟩ | ⟨g, cap, cur, rfl, _⟩
    · simp at h0
    · exact ⟨g, cap, rfl⟩
  have hc := parsAt_own hown
  have c0 : w1.cell? ⟨g, 0, none⟩ = some (.string ⟨#[97]⟩) := by
    rcases hc with ⟨h, _⟩ | ⟨g', cap', h, hc⟩
    · cases h
    · injection h with h; injection h with h; injection h with h; subst h
      exact (hc 0 _ rfl).1
  have c1 : w1.cell? ⟨g, 1, none⟩ = some (.string ⟨#[98, 32, 99]⟩) := by
    rcases hc with ⟨h, _⟩ | ⟨g', cap', h, hc⟩
    · cases h
    · injection h with h; injection h with h; injection h with h; subst h
      exact (hc 0 _ rfl).2.1
  have c2 : w1.cell? ⟨g, 2, none⟩ = some (.bool true) := by
    rcases hc with ⟨h, _⟩ | ⟨g', cap', h, hc⟩
    · cases h
    · injection h with h; injection h with h; injection h with h; subst h
      exact (hc 0 _ rfl).2.2
  clear hc hown hm
  go_wp2_with fail
  refine (isB_any _).mono ?_
  rintro e w2 ⟨rfl, rfl⟩
  go_wp2
  go_ret
  exact ⟨rfl, hb⟩
end Go.Proofs.YtlfdeenekjklgaaGreatDoor
namespace Go.Proofs.YtlfdeenekjklgaaGreatDoor
open Go.ChangeShapes Go.WideShapes Go.ChangeAt Go.RowKit
set_option linter.unusedSimpArgs false
set_option linter.unusedVariables false
set_option maxRecDepth 100000
theorem bulkAll_app {H : Type} (a b : List (DataW H)) : Rows.uptoBulkAll (a ++ b) = Rows.uptoBulkAll a + Rows.uptoBulkAll b := by
  induction a with
  | nil => simp [Rows.uptoBulkAll]
  | cons d r ih => simp only [List.cons_append, Rows.uptoBulkAll, ih]; omega
theorem bulk_prt {H : Type} (D : Nat → DataW H) (n : Nat) (f : Nat → Prt) (h : ∀ i, i < n → D i = .agg [.lit (.string (f i).name), .lit (.string (f i).file), .lit (.string (f i).media), .lit (.string (f i).body), .lit (.bool (f i).has)]) :
    totQ ((List.range n).map f) + n ≤ Rows.uptoBulkAll ((List.range n).map D) := by
  induction n with
  | zero => simp [totQ]
  | succ n ih =>
    have := ih (fun i hi => h i (by omega))
    rw [List.range_succ, List.map_append, List.map_append, totQ_append, bulkAll_app]
    have hn := h n (by omega)
    simp only [List.map_cons, List.map_nil, totQ, prtLen, hn, Rows.uptoBulkAll, Rows.uptoBulk]
    omega
theorem addq (b o j : Nat) : (⟨b, o, none⟩ : Addr).add j = ⟨b, o + j, none⟩ := by unfold Addr.add; split <;> simp_all
theorem addqq (b o j k : Nat) : ((⟨b, o, none⟩ : Addr).add j).add k = ⟨b, o + j + k, none⟩ := by rw [addq, addq]
theorem cell_ltq {w : World} {a : Addr} {v : Value} (h : w.cell? a = some v) : a.block < w.heap.size := World.block_lt_of_cell? _ _ h
theorem str_eqq (s : ByteArray) : (⟨s.data.toList.toArray⟩ : ByteArray) = s := by simp
instance : Inhabited Prt := ⟨⟨[], [], [], [], false⟩⟩
theorem open_parts {base : Nat} {H : Type} {enc : TypeId × Value → H} {W : World} {v : Value} {d : DataW H} {p : List MemPlace} (hval : Value.okWide Tryz.prog W .any base 22 v) (h : DataW.Trod enc Tryz.prog W 0 (fun _ => true) true 22 v d p) :
    ∃ L, PrtsIn W v L ∧ totQ L + L.length ≤ Rows.uptoBulk d := by
  obtain ⟨so, sl, sc, rfl⟩ := okWide_slice Tryz.underlying22 hval
  obtain ⟨n, h⟩ := h
  rcases Go.Deep.open_slice Tryz.underlying22 h with ⟨hc, hx⟩ | ⟨a, len, cap, m, k, D, Pl, hc, _, hl, hm, hmm, hx, hall⟩
  · have hc' : Value.slice so sl sc = .slice none 0 0 := by simpa [Value.cells] using hc
    exact ⟨[], ⟨none, 0, hc', fun i p hp => by simp at hp⟩, Nat.zero_le _⟩
  · have hc' : Value.slice so sl sc = .slice (some a) len cap := by simpa [Value.cells] using hc
    simp only [if_true] at hmm
    subst hmm
    simp only [Prod.mk.injEq] at hx
    have hce : Tryz.prog.cellsOf 34 = 5 := by kernel_rfl
    have each : ∀ i, i < m → ∃ q : Prt, W.cell? (a.add (i * 5)) = some (.string ⟨q.name.toArray⟩) ∧ W.cell? ((a.add (i * 5)).add 1) = some (.string ⟨q.file.toArray⟩) ∧ W.cell? ((a.add (i * 5)).add 2) = some (.string ⟨q.media.toArray⟩) ∧ W.cell? ((a.add (i * 5)).add 3) = some (.string ⟨q.body.toArray⟩) ∧ W.cell? ((a.add (i * 5)).add 4) = some (.bool q.has) ∧ D i = .agg [.lit (.string q.name), .lit (.string q.file), .lit (.string q.media), .lit (.string q.body), .lit (.bool q.has)] := by
      intro i hi
      obtain ⟨cs', h1, h2⟩ := hall i hi
      rw [hce] at h1
      obtain ⟨_, hlen, hcell⟩ := World.cells?_some h1
      obtain ⟨xs, k', hk, hxy, _, hxl, hf⟩ := DataW.trod_struct Tryz.underlying34 h2
      match xs, hxl, cs', hlen with
      | [y0, y1, y2, y3, y4], _, [v0, v1, v2, v3, v4], _ =>
        have g0 := hf 0 _ rfl
        have g1 := hf 1 _ rfl
        have g2 := hf 2 _ rfl
        have g3 := hf 3 _ rfl
        have g4 := hf 4 _ rfl
        have cb : Tryz.prog.cellsOf 4 = 1 := by kernel_rfl
        have cs : Tryz.prog.cellsOf 9 = 1 := by kernel_rfl
        simp [cb, cs] at g0 g1 g2 g3 g4
        obtain ⟨s0, e0, f0, _⟩ := DataW.trod_string Tryz.underlying9 g0
        obtain ⟨s1, e1, f1, _⟩ := DataW.trod_string Tryz.underlying9 g1
        obtain ⟨s2, e2, f2, _⟩ := DataW.trod_string Tryz.underlying9 g2
        obtain ⟨s3, e3, f3, _⟩ := DataW.trod_string Tryz.underlying9 g3
        obtain ⟨b4, e4, f4⟩ := DataW.trod_bool Tryz.underlying4 g4
        simp only [List.cons.injEq, and_true] at e0 e1 e2 e3 e4
        subst e0 e1 e2 e3 e4 f0 f1 f2 f3 f4
        have c0 := hcell 0 (by omega)
        have c1 := hcell 1 (by omega)
        have c2 := hcell 2 (by omega)
        have c3 := hcell 3 (by omega)
        have c4 := hcell 4 (by omega)
        simp only [Prod.mk.injEq] at hxy
        refine ⟨⟨s0.data.toList, s1.data.toList, s2.data.toList, s3.data.toList, b4⟩, ?_, by rw [str_eqq]; simpa using c1, by rw [str_eqq]; simpa using c2, by rw [str_eqq]; simpa using c3, by simpa using c4, by simpa using hxy.1⟩
        have : (a.add (i * 5)).add 0 = a.add (i * 5) := by simp [Addr.add]
        rw [this] at c0
        rw [str_eqq]
        simpa using c0
    obtain ⟨q, hq⟩ := Go.Deep.choose_lt each
    refine ⟨(List.range len).map q, ⟨some a, _, by simpa using hc', fun i p hp => ?_⟩, ?_⟩
    · have hi : i < len := by
        have := (List.getElem?_eq_some_iff.1 hp).1
        simpa using this
      have hpi : q i = p := by simpa [hi] using hp
      obtain ⟨c0, c1, c2, c3, c4, _⟩ := hq i (by omega)
      obtain ⟨b, o, spot⟩ := a
      have hspot : spot = none := by simpa [Addr.add] using World.cell?_spot (hq 0 (by omega)).1
      subst hspot
      rw [addqq] at c1 c2 c3 c4
      rw [addq] at c0
      refine ⟨b, o, rfl, ?_, ?_, ?_, ?_, ?_, ?_⟩
      · rw [← hpi]; exact c0
      · rw [← hpi]; exact c1
      · rw [← hpi]; exact c2
      · rw [← hpi]; exact c3
      · rw [← hpi]; exact c4
      · have := cell_ltq c0
        exact this
    · rw [hx.1]
      simp only [Rows.uptoBulk, List.length_map, List.length_range]
      have := bulk_prt D len q (fun i hi => (hq i (by omega)).2.2.2.2.2)
      omega
end Go.Proofs.YtlfdeenekjklgaaGreatDoor
