/- The walk of the reference's Pairs: the pairs of the pieces. Conditions: fewer than 2^40 bytes. -/
import Derived.Test.YtgkpiakapdgglaaDoorSplW
import Derived.Maps.AppendAt
namespace Go.Proofs.YtgkpiakapdgglaaDoor
open Go.RowKit
set_option linter.unusedSimpArgs false
set_option linter.unusedVariables false
set_option maxRecDepth 1000000
theorem infoRPar : (Tryd.prog.info? 64).map (fun i => (i.zero, i.size, i.bytes)) = some (some (.agg #[.string ByteArray.empty, .string ByteArray.empty, .bool false]), 3, 40) := by kernel_rfl
theorem info_partsP (h : (Tryd.prog.info? 64).map (fun i => (i.zero, i.size, i.bytes)) = some (some (.agg #[.string ByteArray.empty, .string ByteArray.empty, .bool false]), 3, 40)) : ∃ i, Tryd.prog.info? 64 = some i ∧ i.zero = some (.agg #[.string ByteArray.empty, .string ByteArray.empty, .bool false]) ∧ i.size = 3 ∧ i.bytes = 40 := by
  obtain ⟨i, hi, he⟩ := Option.map_eq_some_iff.1 h
  simp only [Prod.mk.injEq] at he
  exact ⟨i, hi, he.1, he.2.1, he.2.2⟩
theorem parsOf_append (a b : List (List UInt8)) : parsOf (a ++ b) = parsOf a ++ parsOf b := by
  induction a with
  | nil => rfl
  | cons p r ih =>
    simp only [List.cons_append, parsOf, ih]
    by_cases h : p = []
    · rw [if_pos h, if_pos h]
    · rw [if_neg h, if_neg h]; rfl
theorem parsOf_len (a : List (List UInt8)) : (parsOf a).length ≤ a.length := by
  induction a with
  | nil => exact Nat.le_refl _
  | cons p r ih =>
    simp only [parsOf]
    by_cases h : p = []
    · rw [if_pos h]; simp; omega
    · rw [if_neg h]; simp; omega
theorem split_len (c : UInt8) (n : Nat) : ∀ (l : List UInt8), l.length ≤ n → (Lib.split l [c]).length ≤ l.length + 1 ∧ Lib.split l [c] ≠ [] ∧ ∀ p ∈ Lib.split l [c], p.length ≤ l.length := by
  induction n with
  | zero =>
    intro l hl
    obtain rfl : l = [] := List.eq_nil_of_length_eq_zero (by omega)
    rw [split_step, cut_none c [] (fun j hj => by simp at hj)]
    simp
  | succ n ih =>
    intro l hl
    rw [split_step]
    by_cases h : (Lib.cut l [c]).2.2 = true
    · rw [if_pos h]
      have hc := cut_rest c l h
      obtain ⟨h1, h2, h3⟩ := ih (Lib.cut l [c]).2.1 (by omega)
      refine ⟨by simp only [List.length_cons]; omega, by simp, fun p hp => ?_⟩
      rcases List.mem_cons.1 hp with rfl | hp
      · omega
      · have := h3 p hp; omega
    · rw [if_neg h]
      exact ⟨by simp, by simp, fun p hp => by obtain rfl : p = l := by simpa using hp
                                              exact Nat.le_refl _⟩
theorem cut_len (c : UInt8) (l : List UInt8) : (Lib.cut l [c]).1.length ≤ l.length ∧ (Lib.cut l [c]).2.1.length ≤ l.length := by
  by_cases h : (Lib.cut l [c]).2.2 = true
  · have := cut_rest c l h; omega
  · unfold Lib.cut at h ⊢
    split
    · rename_i hi; rw [if_pos hi] at h; exact absurd rfl h
    · exact ⟨Nat.le_refl _, Nat.zero_le _⟩
theorem le_i (i n s : Nat) (h : i < n) (hn : n ≤ s + 1) (hs : s ≤ 1099511627776) : i ≤ 2199023255552 := by omega
theorem le_i1 (i n s : Nat) (h : i < n) (hn : n ≤ s + 1) : i ≤ s + 1 := by omega
theorem small40 (a n s : Nat) (ha : a ≤ n) (hn : n ≤ s + 1) (hs : s ≤ 1099511627776) : a + 1 ≤ maxLen ∧ (a + 1) * 40 ≤ 140737488355328 ∧ s ≤ 140737488351232 := by unfold maxLen; omega
theorem le_mem (p s : Nat) (h : p ≤ s) (hs : s ≤ 1099511627776) : p ≤ 140737488351232 := by omega
set_option maxHeartbeats 4000000 in
theorem rpairs5_any (s : ByteArray) (w : World) (hs : s.size ≤ 1099511627776) :
    Calls Tryd.prog 31 #[.string s] w fun e w' => ∃ v, e = .returned v ∧ w'.ownsRow w.heap.size 64 3 v (parsOf (Lib.split s.data.toList [38])).length (parsV (parsOf (Lib.split s.data.toList [38]))) ∧ Below w.heap.size w w' := by
  obtain ⟨i0, hi, hz0, hz1, hz2⟩ := info_partsP infoRPar
  obtain ⟨L, hL⟩ : ∃ L, w.heap.size = L := ⟨_, rfl⟩
  obtain ⟨pc, hpc⟩ : ∃ pc, Lib.split s.data.toList [38] = pc := ⟨_, rfl⟩
  have hsl := split_len 38 s.data.toList.length s.data.toList (Nat.le_refl _)
  rw [hpc, size_list] at hsl
  go_enter Tryd.func31, Tryd.ntmps31
  go_wp2_with fail
  refine (rsplit_any s 38 _ hs).mono ?_
  rintro e w1 ⟨v1, rfl, hown1, hb1⟩
  rw [hpc] at hown1
  obtain ⟨g, cap, rfl, hg, hat⟩ := strs_of_own hown1 hsl.2.1
  have hgL : L < g := by simp at hg; omega
  have hmade := World.ownsRow_made (e := 64) (size := 3) w #[] 0 (Nat.le_refl _) (by simp) rfl
  have hout := hmade.kept (grown_of_below hb1) (Or.inr (by simp [Value.ownBlock]))
  rw [hL] at hout
  have hb1' : Below L w w1 := by rw [← hL]; exact ((Below.refl _ w).alloc (Nat.le_refl _) _).trans (hb1.mono (by simp))
  have HOUT := Lib.hid hout; have HAT := Lib.hid hat; have HB1 := Lib.hid hb1'; have HSL := Lib.hid (And.intro hsl hpc); have HG := Lib.hid hg
  clear hout hat hb1' hsl hpc hmade hown1 hb1 hg
  go_wp2
  go_loopw [5, 3] (fun iv v wr => ∃ i : Nat, iv = .int .i64 i ∧ i ≤ pc.length ∧ v.ownBlock ≠ some g ∧ wr.ownsRow L 64 3 v (parsOf (pc.take i)).length (parsV (parsOf (pc.take i))) ∧ StrsAt wr g pc ∧ Below L w wr)
    (fun i _ _ => pc.length - (intOf i).toNat)
  case atStart => exact ⟨0, rfl, Nat.zero_le _, by simp [Value.ownBlock]; omega, HOUT.out, HAT.out, HB1.out⟩
  case round =>
    clear HOUT HAT HB1
    obtain ⟨i, rfl, hi1, hne, hown, hat, hb⟩ := hrel
    by_cases hlt : i < pc.length
    · obtain ⟨p, hp⟩ : ∃ p, pc[i]? = some p := ⟨_, List.getElem?_eq_getElem hlt⟩
      have hcell := hat.2 i p hp
      obtain ⟨P, hP⟩ : ∃ P, (⟨p.toArray⟩ : ByteArray) = P := ⟨_, rfl⟩
      have hPl : P.data.toList = p := by rw [← hP]
      rw [hP] at hcell
      clear hP
      have htk : pc.take (i + 1) = pc.take i ++ [p] := by rw [List.take_add_one, hp]; rfl
      have hpl : p.length ≤ s.size := by rw [← size_list]; have := HSL.out.1.2.2 p (List.mem_of_getElem? hp); rw [size_list]; exact this
      have hlen := parsOf_len (pc.take i)
      rw [List.length_take, Nat.min_eq_left hi1] at hlen
      have hsmall := small40 (parsOf (pc.take i)).length i s.size hlen (le_i1 i pc.length s.size hlt HSL.out.1.1) hs
      have k0 : (0 : Int) ≤ (i : Int) := by omega
      have k1 : (i : Int) < (pc.length : Int) := by omega
      have hwi := wrap64_small i (le_i i pc.length s.size hlt HSL.out.1.1 hs)
      have hLw : L ≤ wr.heap.size := by have h5 : g < wr.heap.size := hat.1; omega
      by_cases hpe : p = []
      · have hemp2 : P.toList.isEmpty = true := by rw [ByteArray.toList_eq, hPl, hpe]; rfl
        have hst : parsOf (pc.take (i + 1)) = parsOf (pc.take i) := by rw [htk, parsOf_append, hpe]; simp [parsOf]
        have HX := Lib.hid (And.intro hst (And.intro hne (And.intro hown (And.intro hat hb))))
        clear hst htk hne hown hat hb hpl hlen hsmall hp hpe hPl
        go_wp2
        go_roundw
        case rel => (try rw [hwi]); clear hwi; exact ⟨i + 1, by go_num, by omega, HX.out.2.1, by rw [HX.out.1]; exact HX.out.2.2.1, HX.out.2.2.2.1, HX.out.2.2.2.2⟩
        case measure => (try rw [hwi]); clear hwi; simp [intOf]; omega
      · have hemp2 : P.toList.isEmpty = false := by
          rw [ByteArray.toList_eq, hPl]
          cases p with
          | nil => exact absurd rfl hpe
          | cons => rfl
        have hst : parsOf (pc.take (i + 1)) = parsOf (pc.take i) ++ [parOf p] := by rw [htk, parsOf_append]; simp [parsOf, hpe]
        have HX := Lib.hid (And.intro hst (And.intro hp hpl))
        clear hst htk hlen hp hpl
        obtain ⟨⟨ca, cb, cm⟩, hct⟩ : ∃ q, Lib.cut p [61] = q := ⟨_, rfl⟩
        have hcl := cut_len 61 p
        rw [hct] at hcl
        have hpo : parOf p = (spc ca, spc cb, cm) := by unfold parOf; rw [hct]
        have hsp : p.length ≤ s.size := HX.out.2.2
        have zp : P.size ≤ 140737488351232 := by rw [← size_list, hPl]; exact le_mem _ _ hsp hs
        have za : (⟨ca.toArray⟩ : ByteArray).size ≤ 140737488351232 := by rw [← size_list]; exact le_mem _ _ (Nat.le_trans hcl.1 hsp) hs
        have zb : (⟨cb.toArray⟩ : ByteArray).size ≤ 140737488351232 := by rw [← size_list]; exact le_mem _ _ (Nat.le_trans hcl.2 hsp) hs
        have HCT := Lib.hid (And.intro hct hpo); have HPL := Lib.hid hPl
        clear hct hcl hpo hsp hPl hpe
        go_wp2_with fail
        refine (cut_any P 61 _ zp).mono ?_
        rintro e w2 ⟨rfl, n2, rfl⟩
        rw [HPL.out, HCT.out.1]
        go_wp2_with fail
        refine (spaced_any ⟨ca.toArray⟩ _ za).mono ?_
        rintro e w3 ⟨rfl, hb3⟩
        go_wp2_with fail
        refine (spaced_any ⟨cb.toArray⟩ _ zb).mono ?_
        rintro e w4 ⟨rfl, hb4⟩
        have hb5 : Below wr.heap.size wr w4 := (below_drewN (Below.refl wr.heap.size wr) n2).trans (hb3.trans (hb4.mono hb3.size))
        have hown4 := hown.kept (grown_of_below hb5) (Classical.em _)
        have hat4 := strsAt_grown hat (grown_of_below hb5) (by simp)
        have hb6 : Below L w w4 := hb.trans (hb5.mono hLw)
        have hs5 := hb5.size
        have hbs4 : L ≤ w4.heap.size := Nat.le_trans hLw hs5
        have HAT := Lib.hid hat4; have HNE := Lib.hid hne
        clear hat hown hb hb3 hb4 hb5 hat4 hne
        go_wp2_with (at_builtin; refine wpList_append_own_at _ rfl (.tmp 32) (.tmp 39) 26 rfl L 64 i0 (.agg #[.string ByteArray.empty, .string ByteArray.empty, .bool false]) 3 40 Tryd.underlying26 hi hz0 hz1 hz2 rfl (by decide) _ _ _ rfl (hown4.alloc _) ⟨w4.heap.size, 0, none⟩ 1 1 [.string ⟨(spc ca).toArray⟩, .string ⟨(spc cb).toArray⟩, .bool cm] rfl rfl (cells_new _ _ _) (by simp [Value.oneCell']) hsmall.1 hsmall.2.1 ?d0 ?_)
        case d0 => clear hwi; simp; omega
        intro v1 w7 hI1 hg7 _ hloc
        have hb8 := (hb6.alloc hbs4 _).grown hg7 (by clear hwi; simp; omega) (fun j hj => (hown4.lt j hj).1)
        have hat8 : StrsAt w7 g pc := strsAt_grown (row := _) (strsAt_below HAT.out ((Below.refl w4.heap.size w4).alloc (Nat.le_refl _) _) HAT.out.1) hg7 (fun e => HNE.out e.symm)
        have hne8 : v1.ownBlock ≠ some g := by
          rcases hloc with h | h
          · rw [h]; exact HNE.out
          · rw [h]; intro e; injection e with e; have h5 : g < w4.heap.size := HAT.out.1; clear hwi; first | omega | (rw [World.size_alloc] at e; omega)
        rw [show [Value.string ⟨(spc ca).toArray⟩, .string ⟨(spc cb).toArray⟩, .bool cm] = parV (parOf p) from by rw [HCT.out.2]; rfl, ← parsV_snoc] at hI1
        have HI1 := Lib.hid hI1; have HB8 := Lib.hid (And.intro hb8 (And.intro hat8 hne8))
        clear hI1 hb8 hg7 hown4 hb6 hat8 hne8 hloc
        go_wp2
        go_roundw
        case rel =>
          try rw [hwi]
          clear hwi
          refine ⟨i + 1, by go_num, by omega, HB8.out.2.2, ?_, HB8.out.2.1, HB8.out.1⟩
          rw [HX.out.1, List.length_append]
          exact HI1.out
        case measure => (try rw [hwi]); clear hwi; simp [intOf]; omega
    · obtain rfl : i = pc.length := by omega
      rw [List.take_length] at hown
      have HX := Lib.hid (And.intro hown hb)
      clear hown hb hat hne
      go_wp2
      go_ret
      refine ⟨_, rfl, ?_, by rw [hL]; exact HX.out.2⟩
      rw [hL, HSL.out.2]
      exact HX.out.1
end Go.Proofs.YtgkpiakapdgglaaDoor
