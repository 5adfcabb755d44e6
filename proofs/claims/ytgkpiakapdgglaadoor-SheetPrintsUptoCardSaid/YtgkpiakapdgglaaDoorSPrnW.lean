/- The walk of sheet.PrintPairs: the plain function prnP. Conditions: at most 2^32 letters and pairs. -/
import Derived.Test.YtgkpiakapdgglaaDoorSPrn
namespace Go.Proofs.YtgkpiakapdgglaaDoor
open Go.RowKit
set_option linter.unusedSimpArgs false
set_option linter.unusedVariables false
set_option maxRecDepth 1000000
def PrnPost (l : List Par) (w : World) (e : Ending) (w' : World) : Prop := e = .returned (.tuple #[.string ⟨(prnP l).1.toArray⟩, .int .i64 ((prnP l).2 : Nat)]) ∧ Below w.heap.size w w'
theorem bsz {L : Nat} {w w' : World} (h : Below L w w') (hL : Hid (w.heap.size = L)) : L ≤ w'.heap.size := by rw [← hL.out]; exact h.size
theorem prn_bad (l : List Par) (i : Nat) (p : Par) (h : l[i]? = some p) (hp : parOk p = false) : prnP l = ([], 150) := by
  unfold prnP
  rw [if_neg]
  intro h2
  rw [List.all_eq_true] at h2
  have := h2 p (List.mem_of_getElem? h)
  rw [hp] at this; cases this
theorem strV_snoc (l : List (List UInt8)) (p : List UInt8) : strV (l ++ [p]) = strV l ++ [.string ⟨p.toArray⟩] := by simp [strV]
theorem take_map {α β : Type} (f : α → β) (l : List α) (i : Nat) (p : α) (h : l[i]? = some p) : (l.map f).take (i + 1) = (l.map f).take i ++ [f p] := by rw [List.take_add_one, List.getElem?_map, h]; simp
theorem take_all {α : Type} (f : α → Bool) (l : List α) (i : Nat) (p : α) (h : l[i]? = some p) (ha : (l.take i).all f = true) (hp : f p = true) : (l.take (i + 1)).all f = true := by rw [List.take_add_one, h]; simp [ha, hp]
theorem bd_pl (a b t : Nat) (h : a + b ≤ t) (ht : t ≤ 4294967296) : a ≤ 4294967296 ∧ b ≤ 4294967296 := by omega
theorem bd_cat (a b la lb : Nat) (h : a ≤ 3 * la) (h2 : b ≤ 3 * lb) (ha : la ≤ 4294967296) (hb : lb ≤ 4294967296) : ¬ 9223372036854775807 < 1 + b ∧ ¬ 9223372036854775807 < a + (1 + b) ∧ ¬ 9223372036854775807 < a + (b + 1) := by omega
theorem bd_row (i n : Nat) (h : i < n) (hn : n ≤ 4294967296) : i + 1 ≤ maxLen ∧ (i + 1) * 16 ≤ 140737488355328 ∧ i ≤ 2199023255552 := by unfold maxLen; omega
theorem new_kept {w w1 : World} {cs : Array Value} {T : TypeId} {j : Nat} {v : Value} (hb : Below (w.alloc (.cells cs T)).heap.size (w.alloc (.cells cs T)) w1) (h : cs[j]? = some v) : w1.cell? ⟨w.heap.size, j, none⟩ = some v := by
  rw [hb.cell (p := ⟨w.heap.size, j, none⟩) (by simp), Lib.cell_of_heap (heap_alloc_new w _)]
  exact h
theorem cat3 (nm vl : List UInt8) : (⟨(codL nm).toArray⟩ : ByteArray) ++ ((⟨#[61]⟩ : ByteArray) ++ (⟨(codL vl).toArray⟩ : ByteArray)) = ⟨(pieceOf (nm, vl, true)).toArray⟩ := by
  refine ba_ext ?_
  simp [pieceOf]
/-- strings.Join of a row of the call's own. -/
theorem join_own {w : World} {base : Nat} {v : Value} (q : List (List UInt8)) (sep : ByteArray) (h : w.ownsRow base 9 1 v q.length (strV q)) (hN : q.length ≤ 140737488355328) (hlen : (Lib.join q sep.data.toList).length ≤ 140737488355328) :
    Calls Tryd.prog 33 #[v, .string sep] w fun e w' => e = .returned (.string ⟨(Lib.join q sep.data.toList).toArray⟩) ∧ Below w.heap.size w w' := by
  by_cases hq : q = []
  · subst hq
    have e : ∃ a c, v = .slice a 0 c := by
      rcases h.2 with ⟨rfl, _⟩ | ⟨g, cap, cur, rfl, _⟩
      · exact ⟨none, 0, rfl⟩
      · exact ⟨_, _, rfl⟩
    obtain ⟨a, c, rfl⟩ := e
    exact (Tryd.strings_Join_none a c sep w).mono fun e w' ⟨he, hw⟩ => ⟨he, hw ▸ Below.refl _ _⟩
  · have hcap : ∃ g cap, v = .slice (some ⟨g, 0, none⟩) q.length cap ∧ q.length ≤ cap ∧ g < w.heap.size := by
      have hl : 0 < q.length := List.length_pos_iff.2 hq
      rcases h.2 with ⟨_, h0⟩ | ⟨g, cap, cur, rfl, hb, hg, hnc, hcm, hcs, hct⟩
      · omega
      · exact ⟨g, cap, rfl, hnc, (Array.getElem?_eq_some_iff.1 hg).1⟩
    obtain ⟨g, cap, rfl, hc, hg⟩ := hcap
    have hmap : (q.map fun p => (⟨p.toArray⟩ : ByteArray)).map (·.data.toList) = q := by rw [List.map_map]; exact List.map_id' q
    have hl : (q.map fun p => (⟨p.toArray⟩ : ByteArray)).length = q.length := List.length_map _
    have := Tryd.strings_Join g 0 cap (q.map fun p => (⟨p.toArray⟩ : ByteArray)) sep w (fun j x hx => by
      obtain ⟨p, hp, rfl⟩ := List.getElem?_map .. ▸ hx |> Option.map_eq_some_iff.1
      have hcl := h.cells (g := g) rfl
      have := hcl j (.string ⟨p.toArray⟩) (by simp [strV, hp])
      rwa [show (⟨g, 0, none⟩ : Addr).add j = ⟨g, 0 + j, none⟩ from by unfold Addr.add; split <;> simp_all] at this) hg (by rw [hl]; exact hN) (by rw [hl]; exact hc) (by rw [hmap]; exact hlen)
    rw [hmap, hl] at this
    exact this
set_option maxHeartbeats 4000000 in
theorem sprint_any (v : Value) (l : List Par) (w : World) (hT : totP l ≤ 4294967296) (hN : l.length ≤ 4294967296) (h : ParsIn w v l) : Calls Tryd.prog 13 #[v] w (PrnPost l w) := by
  obtain ⟨ao, cap, rfl, hat⟩ := h
  obtain ⟨i0, hi0, hz0, hz1, hz2⟩ := info_partsS infoStr
  obtain ⟨L, hL⟩ : ∃ L, w.heap.size = L := ⟨_, rfl⟩
  have hbb : Below L w w := by rw [← hL]; exact Below.refl _ w
  have HL := Lib.hid hL; clear hL
  have HATW := Lib.hid hat; clear hat
  go_enter Tryd.func13, Tryd.ntmps13
  go_wp2
  go_loopw [10, 4] (fun iv v wr => ∃ i : Nat, iv = .int .i64 i ∧ i ≤ l.length ∧ (l.take i).all parOk = true ∧ wr.ownsRow L 9 1 v i (strV ((l.map pieceOf).take i)) ∧ Below L w wr)
    (fun iv _ _ => l.length - (intOf iv).toNat)
  case atStart => exact ⟨0, rfl, Nat.zero_le _, rfl, World.ownsRow_nil _ _ _ _, hbb⟩
  case round =>
    clear hbb
    obtain ⟨i, rfl, hi, hok, hown, hb⟩ := hrel
    by_cases hlt : i < l.length
    · obtain ⟨p, hp⟩ : ∃ p, l[i]? = some p := ⟨_, List.getElem?_eq_getElem hlt⟩
      have hb' : Below w.heap.size w wr := by rw [HL.out]; exact hb
      obtain ⟨g, o, rfl, hg, c0, c1, c2⟩ := HATW.out.below hb' i p hp
      clear hb'
      have k0 : (0 : Int) ≤ (i : Int) := Int.natCast_nonneg _
      have k1 : (i : Int) < (l.length : Int) := by omega
      have hrow := bd_row i l.length hlt hN
      have htg := totP_get l i p hp
      have hpl := bd_pl _ _ _ htg hT
      have hwi := wrap64_small i hrow.2.2
      obtain ⟨nm, vl, hs⟩ := p
      simp only at c0 c1 c2 hpl
      have HB := Lib.hid (And.intro hb (And.intro hok (And.intro hp hown)))
      have HW := Lib.hid hwi
      clear hb hok hp hown htg hwi
      cases hs with
      | true =>
        go_wp2_with fail
        refine (plain_l nm _ hpl.1).mono ?_
        rintro e w1 ⟨rfl, hb1⟩
        have d1 := new_kept hb1 (j := 1) rfl
        have d2 := new_kept hb1 (j := 2) rfl
        have hz := bd_cat _ _ _ _ (codL_len nm) (codL_len vl) hpl.1 hpl.2
        go_wp2_with fail
        refine (plain_l vl _ hpl.2).mono ?_
        rintro e w2 ⟨rfl, hb2⟩
        have HI := Lib.hid (own_later (own_later (HB.out.2.2.2.alloc _) hb1) hb2)
        have hbL : L ≤ wr.heap.size := bsz HB.out.1 HL
        have HBB := Lib.hid (((HB.out.1.alloc hbL _).trans (hb1.mono (Nat.le_trans hbL (by simp)))).trans (hb2.mono (Nat.le_trans hbL (Nat.le_trans (by simp) hb1.size))))
        have hs2 : L ≤ w2.heap.size := bsz HBB.out HL
        have hst : ((l.take (i + 1)).all parOk = true ∧ (l.map pieceOf).take (i + 1) = (l.map pieceOf).take i ++ [pieceOf (nm, vl, true)]) := ⟨take_all _ l i _ HB.out.2.2.1 HB.out.2.1 rfl, take_map _ l i _ HB.out.2.2.1⟩
        have HST := Lib.hid hst
        clear hst hb1 hb2 d1 d2 c0 c1 c2
        go_wp2_with (at_builtin; refine wpList_append_own _ rfl (.tmp 38) (.tmp 40) 55 rfl L 9 i0 (.string ByteArray.empty) 1 16 Tryd.underlying55 hi0 hz0 hz1 hz2 rfl (by decide) _ _ _ rfl (HI.out.alloc _) ⟨w2.heap.size, 0, none⟩ 1 1 [.string _] rfl rfl (cells_new _ _ _) (by simp [Value.oneCell']) hrow.1 hrow.2.1 ?d0 ?_)
        case d0 => simp; exact Nat.le_trans hs2 (Nat.le_succ _)
        intro v1 w7 hI1 hg7 _
        have hb8 := (HBB.out.alloc hs2 _).grown hg7 (by simp; exact Nat.le_trans hs2 (Nat.le_succ _)) (fun j hj => (HI.out.lt j hj).1)
        rw [cat3] at hI1
        have HI1 := Lib.hid hI1; have HB8 := Lib.hid hb8
        clear hI1 hb8 hg7
        go_wp2
        have hwi := HW.out
        go_roundw
        case rel =>
          (try rw [hwi]); clear hwi
          refine ⟨i + 1, by go_num, by omega, HST.out.1, ?_, HB8.out⟩
          rw [HST.out.2, strV_snoc]
          exact HI1.out
        case measure => (try rw [hwi]); clear hwi; simp [intOf]; omega
      | false =>
        by_cases hn : nm = []
        · subst hn
          have hbad := prn_bad l i _ HB.out.2.2.1 rfl
          have HBAD := Lib.hid hbad
          clear hbad
          have hbw : Below L w (wr.alloc (.cells #[.string ⟨#[]⟩, .string ⟨vl.toArray⟩, .bool false] 60)) := HB.out.1.alloc (bsz HB.out.1 HL) _
          have HBW := Lib.hid hbw
          clear hbw
          go_wp2
          go_ret2
          unfold PrnPost
          rw [HBAD.out, HL.out]
          exact ⟨rfl, HBW.out⟩
        · have e1 : nm.isEmpty = false := by simpa using hn
          by_cases hv : vl = []
          · subst hv
            go_wp2_with fail
            refine (plain_l nm _ hpl.1).mono ?_
            rintro e w1 ⟨rfl, hb1⟩
            have d1 := new_kept hb1 (j := 1) rfl
            have d2 := new_kept hb1 (j := 2) rfl
            have HI := Lib.hid (own_later (HB.out.2.2.2.alloc _) hb1)
            have hbL : L ≤ wr.heap.size := bsz HB.out.1 HL
            have HBB := Lib.hid ((HB.out.1.alloc hbL _).trans (hb1.mono (Nat.le_trans hbL (by simp))))
            have hs2 : L ≤ w1.heap.size := bsz HBB.out HL
            have hst : ((l.take (i + 1)).all parOk = true ∧ (l.map pieceOf).take (i + 1) = (l.map pieceOf).take i ++ [pieceOf (nm, [], false)]) := ⟨take_all _ l i _ HB.out.2.2.1 HB.out.2.1 (by simp [parOk, hn]), take_map _ l i _ HB.out.2.2.1⟩
            have HST := Lib.hid hst
            clear hst hb1 c0 c1 c2
            go_wp2_with (at_builtin; refine wpList_append_own _ rfl (.tmp 38) (.tmp 40) 55 rfl L 9 i0 (.string ByteArray.empty) 1 16 Tryd.underlying55 hi0 hz0 hz1 hz2 rfl (by decide) _ _ _ rfl (HI.out.alloc _) ⟨w1.heap.size, 0, none⟩ 1 1 [.string _] rfl rfl (cells_new _ _ _) (by simp [Value.oneCell']) hrow.1 hrow.2.1 ?d0 ?_)
            case d0 => simp; exact Nat.le_trans hs2 (Nat.le_succ _)
            intro v1 w7 hI1 hg7 _
            have hb8 := (HBB.out.alloc hs2 _).grown hg7 (by simp; exact Nat.le_trans hs2 (Nat.le_succ _)) (fun j hj => (HI.out.lt j hj).1)
            rw [show (codL nm) = pieceOf (nm, [], false) from by simp [pieceOf]] at hI1
            have HI1 := Lib.hid hI1; have HB8 := Lib.hid hb8
            clear hI1 hb8 hg7
            go_wp2
            have hwi := HW.out
            go_roundw
            case rel =>
              (try rw [hwi]); clear hwi
              refine ⟨i + 1, by go_num, by omega, HST.out.1, ?_, HB8.out⟩
              rw [HST.out.2, strV_snoc]
              exact HI1.out
            case measure => (try rw [hwi]); clear hwi; simp [intOf]; omega
          · have e2 : vl.isEmpty = false := by simpa using hv
            have hbad := prn_bad l i _ HB.out.2.2.1 (by simp [parOk, hv])
            have HBAD := Lib.hid hbad
            clear hbad
            have hbw : Below L w (wr.alloc (.cells #[.string ⟨nm.toArray⟩, .string ⟨vl.toArray⟩, .bool false] 60)) := HB.out.1.alloc (bsz HB.out.1 HL) _
            have HBW := Lib.hid hbw
            clear hbw
            go_wp2
            go_ret2
            unfold PrnPost
            rw [HBAD.out, HL.out]
            exact ⟨rfl, HBW.out⟩
    · obtain rfl : i = l.length := by omega
      have hd : decide (l.length < l.length) = false := decide_eq_false (Nat.lt_irrefl _)
      rw [List.take_length] at hok
      rw [List.take_of_length_le (by rw [List.length_map]; exact Nat.le_refl _)] at hown
      have hlen : ((l.map pieceOf)).length = l.length := List.length_map _
      rw [← hlen] at hown
      have hj : (Lib.join (l.map pieceOf) (⟨#[38]⟩ : ByteArray).data.toList).length ≤ 140737488355328 := by
        rw [show (⟨#[38]⟩ : ByteArray).data.toList = [38] from rfl, join_eq]
        have := joinP_len l
        omega
      have hN2 : (l.map pieceOf).length ≤ 140737488355328 := by rw [hlen]; omega
      have hp : prnP l = (joinP (l.map pieceOf), 0) := by unfold prnP; rw [if_pos hok]
      have HP := Lib.hid hp; have HO := Lib.hid hown; have HB := Lib.hid hb
      clear hp hown hok hlen hb
      go_wp2_with fail
      refine (join_own (l.map pieceOf) ⟨#[38]⟩ HO.out hN2 hj).mono ?_
      rintro e w1 ⟨rfl, hb1⟩
      have HB1 := Lib.hid hb1; clear hb1
      go_wp2
      go_ret2
      unfold PrnPost
      rw [HP.out, HL.out, ← join_eq]
      exact ⟨rfl, HB.out.trans (HB1.out.mono (bsz HB.out HL))⟩
end Go.Proofs.YtgkpiakapdgglaaDoor
