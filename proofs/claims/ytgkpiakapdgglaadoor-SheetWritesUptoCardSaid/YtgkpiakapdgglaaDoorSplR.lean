/- The walks of the reference's cut, split and spaced: the library's plain functions at one byte. Conditions: no text is longer than memory. -/
import Derived.Test.YtgkpiakapdgglaaDoorPctR
import Derived.Test.YtgkpiakapdgglaaDoorPrnP
import Derived.Test.YtgkpiakapdgglaaDoorRow1
namespace Go.Proofs.YtgkpiakapdgglaaDoor
open Go.RowKit
set_option linter.unusedSimpArgs false
set_option linter.unusedVariables false
set_option maxRecDepth 1000000
theorem extract_mk (s : ByteArray) (a b : Nat) : s.extract a b = ⟨((s.data.toList.drop a).take (b - a)).toArray⟩ := by
  apply ba_ext
  rw [ByteArray.data_extract, Array.toList_extract, List.extract_eq_take_drop]
theorem extract_front (s : ByteArray) (i : Nat) : s.extract 0 i = ⟨(s.data.toList.take i).toArray⟩ := by rw [extract_mk]; simp
theorem extract_back (s : ByteArray) (i : Nat) : s.extract i s.size = ⟨(s.data.toList.drop i).toArray⟩ := by
  rw [extract_mk, List.take_of_length_le (by rw [List.length_drop, size_list]; omega)]
set_option maxHeartbeats 2000000 in
theorem cut_any (s : ByteArray) (c : UInt8) (w : World) (hs : s.size ≤ 140737488351232) :
    Calls Tryd.prog 64 #[.string s, .int .u8 (c.toNat : Int)] w fun e w' => e = .returned (.tuple #[.string ⟨(Lib.cut s.data.toList [c]).1.toArray⟩, .string ⟨(Lib.cut s.data.toList [c]).2.1.toArray⟩, .bool (Lib.cut s.data.toList [c]).2.2]) ∧ ∃ k, w' = w.drewN k := by
  go_enter Tryd.func64, Tryd.ntmps64
  go_wp2
  go_loopw [7] (fun iv wr => ∃ i : Nat, iv = .int .i64 i ∧ i ≤ s.size ∧ (∀ j, j < i → s.data.toList[j]? ≠ some c) ∧ wr = w) (fun i _ => s.size - (intOf i).toNat)
  case atStart => exact ⟨0, rfl, Nat.zero_le _, fun j hj => absurd hj (by omega), rfl⟩
  case round =>
    obtain ⟨i, rfl, hi, hno, rfl⟩ := hrel
    by_cases hlt : i < s.size
    · obtain ⟨a, ha⟩ : ∃ a, s[i]'hlt = a := ⟨_, rfl⟩
      have hga := list_get s i hlt
      rw [ha] at hga
      have k0 : (0 : Int) ≤ (i : Int) := by omega
      have k1 : (i : Int) < (s.size : Int) := by omega
      by_cases hac : a = c
      · subst hac
        have hcut := cut_found a s.data.toList i (by rw [size_list]; exact hlt) hno hga
        obtain ⟨j1, e1⟩ : ∃ j, i + 1 = j := ⟨_, rfl⟩
        have f1 : (i : Int) + 1 = (j1 : Int) := by omega
        have g1 : IntKind.i64.wrap (j1 : Int) = (j1 : Int) := wrap_47b j1 s.size (by omega) hs
        have n1 : (0 : Int) ≤ (j1 : Int) := by omega
        have m1 : (j1 : Int) ≤ (s.size : Int) := by omega
        have m0 : (i : Int) ≤ (s.size : Int) := by omega
        have x0 := extract_front s i
        have x1 := extract_back s j1
        rw [e1] at hcut
        have HC := Lib.hid hcut; have HX := Lib.hid (And.intro x0 x1)
        clear hcut e1 hno hga x0 x1
        go_wp2_with fail
        go_still (by kernel_rfl)
        go_wp2
        go_ret3
        refine ⟨?_, 1, rfl⟩
        rw [HC.out]
        show Ending.returned (.tuple #[.string (s.extract 0 i), .string (s.extract j1 s.size), .bool true]) = _
        rw [HX.out.1, HX.out.2]
      · have hne : ((a.toNat : Int) == (c.toNat : Int)) = false := by
          have : a.toNat ≠ c.toNat := fun e => hac (UInt8.toNat_inj.1 e)
          simp; omega
        have hno2 : ∀ j, j < i + 1 → s.data.toList[j]? ≠ some c := by
          intro j hj
          by_cases e : j = i
          · subst e; rw [hga]; intro h; injection h with h; exact hac h
          · exact hno j (by omega)
        have HN := Lib.hid hno2; clear hno hno2 hga hac
        go_wp2
        go_roundw
        case rel => exact ⟨i + 1, by go_num, by omega, HN.out, by first | rfl | trivial⟩
        case measure => simp [intOf]; omega
    · have hcut := cut_none c s.data.toList (fun j hj => hno j (by rw [size_list] at hj; omega))
      have HC := Lib.hid hcut; clear hcut hno
      go_wp2
      go_ret3
      refine ⟨?_, 0, rfl⟩
      rw [HC.out, str_eq]
      rfl
theorem swap_split (s : List UInt8) (i : Nat) (c : UInt8) (h : s[i]? = some c) : swapL 43 32 (s.take (i + 1)) ++ s.drop (i + 1) = (swapL 43 32 (s.take i) ++ s.drop i).set i (if c = 43 then 32 else c) := by
  have hi : i < s.length := (List.getElem?_eq_some_iff.1 h).1
  have hl : (swapL 43 32 (s.take i)).length = i := by simp [swapL]; omega
  rw [List.set_append_right _ _ (by omega), hl, Nat.sub_self, List.take_add_one, h]
  have hd : s.drop i = c :: s.drop (i + 1) := by
    rw [List.drop_eq_getElem_cons hi]
    congr 1
    rw [List.getElem?_eq_getElem hi] at h; injection h
  rw [hd]
  simp [swapL]
theorem swap_mid (s : List UInt8) (i : Nat) (c : UInt8) (h : s[i]? = some c) : (swapL 43 32 (s.take i) ++ s.drop i)[i]? = some c := by
  have hi : i < s.length := (List.getElem?_eq_some_iff.1 h).1
  have hl : (swapL 43 32 (s.take i)).length = i := by simp [swapL]; omega
  rw [List.getElem?_append_right (by omega), hl, Nat.sub_self, List.getElem?_drop, Nat.add_zero, h]
def BytesAt (w : World) (g : Nat) (l : List UInt8) : Prop := ∀ j c, l[j]? = some c → w.cell? ⟨g, j, none⟩ = some (.int .u8 (c.toNat : Int)) ∧ w.frozen? ⟨g, j, none⟩ = false
theorem bytesAt_string (w : World) (e : TypeId) (s : ByteArray) : BytesAt (Lib.bytesWorld w e s) w.heap.size s.data.toList := by
  intro j c hj
  have hn := Lib.bytesWorld_at_new w e s
  have hlt : j < s.size := by rw [← size_list]; exact (List.getElem?_eq_some_iff.1 hj).1
  refine ⟨(rowB_of_string w e s).1.hcell j c hj, ?_⟩
  simp only [World.frozen?, hn]
  have hsz : (Lib.bytesCells w e s).size = grownCap w s.size 0 e := by
    have hge := grownCap_ge w s.size 0 e
    unfold Lib.bytesCells
    rw [Array.size_append, Array.size_map, Array.size_replicate]
    show s.size + _ = _
    omega
  have hge := grownCap_ge w s.size 0 e
  simp
  omega
theorem bytesAt_set {w : World} {g : Nat} {l : List UInt8} (h : BytesAt w g l) (i : Nat) (d : UInt8) (hi : i < l.length) : BytesAt (w.setCell ⟨g, i, none⟩ (.int .u8 (d.toNat : Int))) g (l.set i d) := by
  intro j c hj
  have hjl : j < l.length := by have := (List.getElem?_eq_some_iff.1 hj).1; simpa using this
  have hold := h j (l[j]'hjl) (List.getElem?_eq_getElem hjl)
  constructor
  · by_cases e : i = j
    · subst e
      have hc : c = d := by simpa [hi] using hj.symm
      rw [hc]
      exact World.cell?_setCell_same _ _ _ hold.1
    · rw [World.cell?_setCell_other _ _ _ _ (by intro h; injection h with h1 h2; exact e h2)]
      rw [List.getElem?_set_ne e] at hj
      exact (h j c hj).1
  · have := World.frozen?_setCells g [Value.int .u8 (d.toNat : Int)] i w ⟨g, j, none⟩
    exact this.trans hold.2
set_option maxHeartbeats 2000000 in
theorem spaced_any (s : ByteArray) (w : World) (hs : s.size ≤ 140737488351232) :
    Calls Tryd.prog 65 #[.string s] w fun e w' => e = .returned (.string ⟨(spc s.data.toList).toArray⟩) ∧ Below w.heap.size w w' := by
  obtain ⟨L, hL⟩ : ∃ L, w.heap.size = L := ⟨_, rfl⟩
  have hr0 := bytesAt_string w 5 s
  have hb0 := (rowB_of_string w 5 s).2
  have hcv := Lib.run_convert_string_bytes (P := Tryd.prog) w 9 66 5 s Tryd.underlying9 Tryd.underlying66 Tryd.underlying5
  rw [hL] at hr0 hb0 hcv
  obtain ⟨W0, hW0⟩ : ∃ W0, Lib.bytesWorld w 5 s = W0 := ⟨_, rfl⟩
  rw [hW0] at hr0 hb0 hcv
  have HR0 := Lib.hid hr0; have HB0 := Lib.hid hb0
  clear hr0 hb0 hW0
  go_enter Tryd.func65, Tryd.ntmps65
  go_wp2
  go_loopw [4] (fun iv wr => ∃ i : Nat, iv = .int .i64 i ∧ i ≤ s.size ∧ BytesAt wr L (swapL 43 32 (s.data.toList.take i) ++ s.data.toList.drop i) ∧ Below L w wr) (fun i _ => s.size - (intOf i).toNat)
  case atStart => exact ⟨0, rfl, Nat.zero_le _, by simpa [swapL] using HR0.out, HB0.out⟩
  case round =>
    obtain ⟨i, rfl, hi, hba, hb⟩ := hrel
    by_cases hlt : i < s.size
    · obtain ⟨c, hc⟩ : ∃ c, s[i]'hlt = c := ⟨_, rfl⟩
      have hgc := list_get s i hlt
      rw [hc] at hgc
      have hcell := hba i c (swap_mid _ i c hgc)
      obtain ⟨c1, c2⟩ := hcell
      have hsp := swap_split s.data.toList i c hgc
      have hil : i < (swapL 43 32 (s.data.toList.take i) ++ s.data.toList.drop i).length := (List.getElem?_eq_some_iff.1 (swap_mid _ i c hgc)).1
      have k0 : (0 : Int) ≤ (i : Int) := by omega
      have k1 : (i : Int) < (s.size : Int) := by omega
      by_cases h43 : c = 43
      · subst h43
        have hset := bytesAt_set hba i 32 hil
        rw [if_pos rfl] at hsp
        rw [← hsp] at hset
        have HS := Lib.hid hset; have HB := Lib.hid hb
        clear hset hsp hba hgc hil hb hcv
        go_wp2
        go_roundw
        case rel => exact ⟨i + 1, by go_num, by omega, HS.out, HB.out.setCell (by show L ≤ L; omega) _⟩
        case measure => simp [intOf]; omega
      · have hne : ((c.toNat : Int) == 43) = false := by
          have : c.toNat ≠ 43 := fun e => h43 (UInt8.toNat_inj.1 (by rw [e]; rfl))
          simp; omega
        rw [if_neg h43] at hsp
        have hsame : (swapL 43 32 (s.data.toList.take i) ++ s.data.toList.drop i).set i c = swapL 43 32 (s.data.toList.take i) ++ s.data.toList.drop i := by
          apply List.ext_getElem?
          intro j
          by_cases e : i = j
          · subst e; rw [List.getElem?_set_self hil, swap_mid _ i c hgc]
          · rw [List.getElem?_set_ne e]
        rw [hsame] at hsp
        rw [← hsp] at hba
        have HS := Lib.hid hba; have HB := Lib.hid hb
        clear hsp hba hgc hil hb hcv hsame h43
        go_wp2
        go_roundw
        case rel => exact ⟨i + 1, by go_num, by omega, HS.out, HB.out⟩
        case measure => simp [intOf]; omega
    · obtain rfl : i = s.size := by omega
      rw [List.drop_eq_nil_of_le (by rw [size_list]; omega), List.append_nil, List.take_of_length_le (by rw [size_list]; omega)] at hba
      have hll : (swapL 43 32 s.data.toList).length = s.size := by simp [swapL, size_list]
      have hst := run_str_cells (P := Tryd.prog) wr 66 5 Tryd.underlying66 Tryd.underlying5 L 0 (grownCap w s.size 0 5) s.size (swapL 43 32 s.data.toList) hll (fun j h => by rw [Nat.zero_add]; exact (hba j _ (List.getElem?_eq_getElem h)).1) 9 Tryd.underlying9
      have hsz : (⟨(swapL 43 32 s.data.toList).toArray⟩ : ByteArray).size ≤ 140737488351232 := by rw [← size_list]; show (swapL 43 32 s.data.toList).toArray.toList.length ≤ _; simp only [List.toList_toArray]; omega
      have HB := Lib.hid hb
      clear hba hcv hll hb
      go_wp2_with fail
      refine (rdecode5_any ⟨(swapL 43 32 s.data.toList).toArray⟩ _ hsz).mono ?_
      rintro e w2 ⟨rfl, hb2⟩
      go_wp2
      go_ret
      exact ⟨rfl, by rw [hL]; exact HB.out.trans (hb2.mono (by have := HB.out.size; omega))⟩
end Go.Proofs.YtgkpiakapdgglaaDoor
