/- Names alike but for capital letters; all values of a name, one by one and joined: both sides. Conditions: texts are small. -/
import Derived.Test.YtdlpbpikhmciaaaGreatDoorPk12
import Derived.Test.YtdlpbpikhmciaaaGreatDoorPk07
namespace Go.Proofs.YtdlpbpikhmciaaaGreatDoor
open Go.RowKit
set_option linter.unusedSimpArgs false
set_option linter.unusedVariables false
set_option maxRecDepth 1000000
def sameF (a b : List UInt8) : Bool := lowL a == lowL b
/-- The values of a name. -/
def allF (n : List UInt8) : List Fld → List (List UInt8)
  | [] => []
  | p :: r => if sameF p.1 n then p.2 :: allF n r else allF n r
theorem allF_snoc (n : List UInt8) (p : Fld) : ∀ l : List Fld, allF n (l ++ [p]) = allF n l ++ if sameF p.1 n then [p.2] else []
  | [] => by simp only [List.nil_append, allF]
  | q :: r => by
    simp only [List.cons_append, allF, allF_snoc n p r]
    split <;> simp
theorem allF_take (n : List UInt8) (l : List Fld) (i : Nat) (p : Fld) (h : l[i]? = some p) : allF n (l.take (i + 1)) = allF n (l.take i) ++ if sameF p.1 n then [p.2] else [] := by
  rw [List.take_add_one, h, Option.toList_some, allF_snoc]
theorem allF_len (n : List UInt8) : ∀ l : List Fld, (allF n l).length ≤ l.length
  | [] => Nat.le_refl _
  | p :: r => by
    have := allF_len n r
    simp only [allF, List.length_cons]
    split <;> (try simp only [List.length_cons]) <;> omega
theorem join_cons2 (a b : List UInt8) (r : List (List UInt8)) : Lib.join (a :: b :: r) [44, 32] = a ++ ([44, 32] ++ Lib.join (b :: r) [44, 32]) := by
  simp [Lib.join, List.intercalate]
theorem join_len : ∀ q : List (List UInt8), (Lib.join q [44, 32]).length ≤ (q.map List.length).sum + 2 * q.length
  | [] => by simp [Lib.join]
  | [a] => by simp [Lib.join]
  | a :: b :: r => by
    have := join_len (b :: r)
    rw [join_cons2]
    simp only [List.length_append, List.map_cons, List.sum_cons, List.length_cons, List.length_nil] at this ⊢
    omega
theorem allF_sum (n : List UInt8) : ∀ l : List Fld, ((allF n l).map List.length).sum ≤ totF l
  | [] => Nat.le_refl _
  | p :: r => by
    have := allF_sum n r
    simp only [allF, totF]
    split <;> (try simp only [List.map_cons, List.sum_cons]) <;> omega
theorem strV_len (l : List (List UInt8)) : (strV l).length = l.length := List.length_map _
theorem info_str18 : (Tryz.prog.info? 9).map (fun i => (i.zero, i.size, i.bytes)) = some (some (.string ByteArray.empty), 1, 16) := by kernel_rfl
theorem info_str18_parts : ∃ i, Tryz.prog.info? 9 = some i ∧ i.zero = some (.string ByteArray.empty) ∧ i.size = 1 ∧ i.bytes = 16 := by
  obtain ⟨i, hi, he⟩ := Option.map_eq_some_iff.1 info_str18
  simp only [Prod.mk.injEq] at he
  exact ⟨i, hi, he.1, he.2.1, he.2.2⟩
theorem bd_all (k n : Nat) (h : k ≤ n) (hn : n ≤ 4194304) : k + 1 ≤ maxLen ∧ (k + 1) * 16 ≤ 140737488355328 ∧ k ≤ 2199023255552 := by unfold maxLen; omega
set_option maxHeartbeats 2000000 in
theorem r6lower_any (s : ByteArray) (w : World) (hs : s.size ≤ 1099511627776) :
    Calls Tryz.prog 161 #[.string s] w fun e w' => e = .returned (.string ⟨(lowL s.data.toList).toArray⟩) ∧ Below w.heap.size w w' := by
  have hr0 := lowAt_string w 5 s
  have hb0 := bytesBelow w 5 s
  have hcv := Lib.run_convert_string_bytes (P := Tryz.prog) w 9 81 5 s Tryz.underlying9 Tryz.underlying81 Tryz.underlying5
  obtain ⟨L, hL⟩ : ∃ L, w.heap.size = L := ⟨_, rfl⟩
  rw [hL] at hr0 hb0 hcv
  obtain ⟨W0, hW0⟩ : ∃ W0, Lib.bytesWorld w 5 s = W0 := ⟨_, rfl⟩
  rw [hW0] at hr0 hb0 hcv
  have HR0 := Lib.hid hr0; have HB0 := Lib.hid hb0
  clear hr0 hb0 hW0
  have HL := Lib.hid hL; clear hL
  go_enter Tryz.func161, Tryz.ntmps161
  go_wp2
  go_loopw [4] (fun iv wr => ∃ i : Nat, iv = .int .i64 i ∧ i ≤ s.size ∧ LowAt wr L s.size (lowF s.data.toList i) ∧ Below L w wr) (fun iv _ => s.size - (intOf iv).toNat)
  case atStart => exact ⟨0, rfl, Nat.zero_le _, HR0.out, HB0.out⟩
  case round =>
    clear HR0 HB0 hcv
    obtain ⟨i, rfl, hi, hr, hb⟩ := hrel
    by_cases hlt : i < s.size
    · obtain ⟨c, hc⟩ : ∃ c, s[i]'hlt = c := ⟨_, rfl⟩
      have hget := list_get s i hlt
      rw [hc] at hget
      clear hc
      have cell := hr.cellAt hget hlt
      have free := hr.free i hlt
      obtain ⟨n, hn⟩ : ∃ n, c.toNat = n := ⟨_, rfl⟩
      have ln : n < 256 := by rw [← hn]; exact c.toBitVec.isLt
      rw [hn] at cell
      have k0 : (0 : Int) ≤ (i : Int) := Int.natCast_nonneg _
      have k1 : (i : Int) < (s.size : Int) := by omega
      have hwi := w64o i (le_oo i s.size hi hs)
      have HW := Lib.hid hwi; clear hwi
      by_cases hup : 65 ≤ n ∧ n ≤ 90
      · have hr2 := hr.set hget hlt
        rw [low_up c n hn hup.1 hup.2] at hr2
        have hb2 : Below L w (wr.setCell ⟨L, i, none⟩ (.int .u8 ((n : Int) + 32))) := hb.setCell (p := ⟨L, i, none⟩) (Nat.le_refl _) _
        have i1 : (65 : Int) ≤ (n : Int) := by omega
        have i2 : (n : Int) ≤ 90 := by omega
        have HX := Lib.hid (And.intro hr2 hb2)
        clear hr2 hb2 hr hb hget hn
        go_wp2
        have hwi := HW.out
        go_roundw
        case rel => (try rw [hwi]); clear hwi; exact ⟨i + 1, by go_num, by omega, HX.out.1, HX.out.2⟩
        case measure => (try rw [hwi]); clear hwi; simp [intOf]; omega
      · have hr2 := hr.keep hget (low_same c n hn hup)
        have HX := Lib.hid (And.intro hr2 hb)
        clear hr2 hb hr hget hn
        have hcase : n < 65 ∨ (65 ≤ n ∧ 90 < n) := by omega
        rcases hcase with h1 | ⟨h1, h2⟩
        · have i1 : ¬ (65 : Int) ≤ (n : Int) := by omega
          go_wp2
          have hwi := HW.out
          go_roundw
          case rel => (try rw [hwi]); clear hwi; exact ⟨i + 1, by go_num, by omega, HX.out.1, HX.out.2⟩
          case measure => (try rw [hwi]); clear hwi; simp [intOf]; omega
        · have i1 : (65 : Int) ≤ (n : Int) := by omega
          have i2 : ¬ (n : Int) ≤ 90 := by omega
          go_wp2
          have hwi := HW.out
          go_roundw
          case rel => (try rw [hwi]); clear hwi; exact ⟨i + 1, by go_num, by omega, HX.out.1, HX.out.2⟩
          case measure => (try rw [hwi]); clear hwi; simp [intOf]; omega
    · obtain rfl : i = s.size := by omega
      have hd : decide (s.size < s.size) = false := decide_eq_false (Nat.lt_irrefl _)
      have hlen : (lowL s.data.toList).length = s.size := by rw [lowL_len, size_list]
      have hcv := run_str_cells wr 81 5 Tryz.underlying81 Tryz.underlying5 L 0 (grownCap w s.size 0 5) s.size (lowL s.data.toList) hlen hr.done 9 Tryz.underlying9
      have HB := Lib.hid hb
      clear hr hb hlen
      go_wp2
      go_ret
      rw [HL.out]
      exact ⟨rfl, HB.out⟩
set_option maxHeartbeats 2000000 in
theorem osame_any (a b : List UInt8) (w : World) (ha : a.length ≤ 1099511627776) (hb : b.length ≤ 1099511627776) :
    Calls Tryz.prog 108 #[.string ⟨a.toArray⟩, .string ⟨b.toArray⟩] w fun e w' => e = .returned (.bool (sameF a b)) ∧ Below w.heap.size w w' := by
  have h1 := fun w => olower_any ⟨a.toArray⟩ w (by rw [size_mk]; exact ha)
  have h2 := fun w => olower_any ⟨b.toArray⟩ w (by rw [size_mk]; exact hb)
  rw [show (⟨a.toArray⟩ : ByteArray).data.toList = a from rfl] at h1
  rw [show (⟨b.toArray⟩ : ByteArray).data.toList = b from rfl] at h2
  obtain ⟨x, hx⟩ : ∃ x, lowL a = x := ⟨_, rfl⟩
  obtain ⟨y, hy⟩ : ∃ y, lowL b = y := ⟨_, rfl⟩
  rw [hx] at h1
  rw [hy] at h2
  have hr : (x == y) = sameF a b := by unfold sameF; rw [hx, hy]
  have H1 := Lib.hid h1; have H2 := Lib.hid h2; have HR := Lib.hid hr
  clear h1 h2 hx hy hr ha hb
  go_enter Tryz.func108, Tryz.ntmps108
  go_wp2_with fail
  refine (H1.out _).mono ?_
  rintro e w1 ⟨rfl, hb1⟩
  go_wp2_with fail
  refine (H2.out _).mono ?_
  rintro e w2 ⟨rfl, hb2⟩
  have HB := Lib.hid (hb1.trans (hb2.mono hb1.size))
  clear hb1 hb2
  go_wp2
  go_ret
  rw [← HR.out]
  exact ⟨rfl, HB.out⟩
set_option maxHeartbeats 2000000 in
theorem r6alike_any (a b : List UInt8) (w : World) (ha : a.length ≤ 1099511627776) (hb : b.length ≤ 1099511627776) :
    Calls Tryz.prog 110 #[.string ⟨a.toArray⟩, .string ⟨b.toArray⟩] w fun e w' => e = .returned (.bool (sameF a b)) ∧ Below w.heap.size w w' := by
  have h1 := fun w => r6lower_any ⟨a.toArray⟩ w (by rw [size_mk]; exact ha)
  have h2 := fun w => r6lower_any ⟨b.toArray⟩ w (by rw [size_mk]; exact hb)
  rw [show (⟨a.toArray⟩ : ByteArray).data.toList = a from rfl] at h1
  rw [show (⟨b.toArray⟩ : ByteArray).data.toList = b from rfl] at h2
  obtain ⟨x, hx⟩ : ∃ x, lowL a = x := ⟨_, rfl⟩
  obtain ⟨y, hy⟩ : ∃ y, lowL b = y := ⟨_, rfl⟩
  rw [hx] at h1
  rw [hy] at h2
  have hr : (x == y) = sameF a b := by unfold sameF; rw [hx, hy]
  have H1 := Lib.hid h1; have H2 := Lib.hid h2; have HR := Lib.hid hr
  clear h1 h2 hx hy hr ha hb
  go_enter Tryz.func110, Tryz.ntmps110
  go_wp2_with fail
  refine (H1.out _).mono ?_
  rintro e w1 ⟨rfl, hb1⟩
  go_wp2_with fail
  refine (H2.out _).mono ?_
  rintro e w2 ⟨rfl, hb2⟩
  have HB := Lib.hid (hb1.trans (hb2.mono hb1.size))
  clear hb1 hb2
  go_wp2
  go_ret
  rw [← HR.out]
  exact ⟨rfl, HB.out⟩
set_option maxHeartbeats 8000000 in
theorem oall_any (v : Value) (l : List Fld) (n : List UInt8) (w : World) (hN : l.length ≤ 4194304) (hT : totF l ≤ 4194304) (hn : n.length ≤ 1099511627776) (h : FldsIn w v l) :
    Calls Tryz.prog 76 #[v, .string ⟨n.toArray⟩] w fun e w' => ∃ v', e = .returned v' ∧ w'.ownsRow w.heap.size 9 1 v' (allF n l).length (strV (allF n l)) ∧ Below w.heap.size w w' := by
  obtain ⟨ao, cap, rfl, hat⟩ := h
  obtain ⟨i0, hi0, hz0, hz1, hz2⟩ := info_str18_parts
  obtain ⟨L, hL⟩ : ∃ L, w.heap.size = L := ⟨_, rfl⟩
  have HL := Lib.hid hL
  have HB0 := Lib.hid (show Below L w w from Below.refl _ _)
  have HSM := Lib.hid (fun (a : List UInt8) W (ha : a.length ≤ 1099511627776) => osame_any a n W ha hn)
  have HATW := Lib.hid hat; clear hat hL hn
  go_enter Tryz.func76, Tryz.ntmps76
  go_wp2
  go_loopw [10, 5] (fun iv v wr => ∃ i : Nat, iv = .int .i64 i ∧ i ≤ l.length ∧ wr.ownsRow L 9 1 v (allF n (l.take i)).length (strV (allF n (l.take i))) ∧ Below L w wr)
    (fun iv _ _ => l.length - (intOf iv).toNat)
  case atStart => exact ⟨0, rfl, Nat.zero_le _, World.ownsRow_nil _ _ _ _, HB0.out⟩
  case round =>
    obtain ⟨i, rfl, hi, hown, hb⟩ := hrel
    by_cases hlt : i < l.length
    · obtain ⟨p, hp⟩ : ∃ p, l[i]? = some p := ⟨_, List.getElem?_eq_getElem hlt⟩
      have hb' : Below w.heap.size w wr := by rw [HL.out]; exact hb
      obtain ⟨g, o, rfl, hg, c0, c1⟩ := HATW.out.below hb' i p hp
      have k0 : (0 : Int) ≤ (i : Int) := Int.natCast_nonneg _
      have k1 : (i : Int) < (l.length : Int) := by omega
      obtain ⟨A, hA⟩ : ∃ A, allF n (l.take i) = A := ⟨_, rfl⟩
      have hAl : A.length ≤ i := by rw [← hA]; refine Nat.le_trans (allF_len n _) ?_; rw [List.length_take]; omega
      have hbd := bd_all A.length l.length (by omega) hN
      have hwi := wrap64_small i (by omega)
      have hsn := allF_take n l i p hp
      have htl := totF_get l i p hp
      rw [hA] at hsn hown
      obtain ⟨W3, hW3⟩ : ∃ W3, wr.alloc (.cells #[.string ⟨p.1.toArray⟩, .string ⟨p.2.toArray⟩] 43) = W3 := ⟨_, rfl⟩
      obtain ⟨fb, hfb⟩ : ∃ fb, wr.heap.size = fb := ⟨_, rfl⟩
      have hbL := bsz hb HL
      have hF3 : BlkIs W3 fb #[.string ⟨p.1.toArray⟩, .string ⟨p.2.toArray⟩] 43 := by rw [← hW3, ← hfb]; exact blkIs_new _ _ _
      have hO3 : W3.ownsRow L 9 1 u5 A.length (strV A) := by rw [← hW3]; exact hown.alloc _
      have hB3 : Below L w W3 := by rw [← hW3]; exact hb.alloc hbL _
      have hz3 : L ≤ W3.heap.size := by rw [← hW3]; simp; omega
      have hsm := HSM.out p.1 W3 (by omega)
      have HW3 := Lib.hid hW3; have HW := Lib.hid hwi; have HO := Lib.hid (And.intro hO3 (And.intro hB3 hz3)); have HF3 := Lib.hid hF3; have HA := Lib.hid hA; have HBD := Lib.hid hbd
      clear hW3 hwi hown hb hb' hF3 hO3 hB3 hbL hz3 hA hbd htl
      go_upto_region 5 with fail
      rw [HW3.out]
      clear c0 c1
      have e0 := HF3.out.cell 0 _ rfl
      cases hs : sameF p.1 n with
      | false =>
        rw [hs] at hsm hsn
        have HSMI := Lib.hid hsm; have HSN := Lib.hid hsn
        clear hsm hsn hs
        go_wp2_with fail
        refine (HSMI.out).mono ?_
        rintro e w4 ⟨rfl, hb4⟩
        have HX := Lib.hid (And.intro (own_later HO.out.1 hb4) (HO.out.2.1.trans (hb4.mono HO.out.2.2)))
        clear hb4
        go_wp2
        have hwi := HW.out
        go_roundw
        case rel => (try rw [hwi]); clear hwi; exact ⟨i + 1, by go_num, hlt, by rw [HSN.out]; simpa using HX.out.1, HX.out.2⟩
        case measure => (try rw [hwi]); clear hwi; simp [intOf]; omega
      | true =>
        rw [hs] at hsm hsn
        have HSMI := Lib.hid hsm; have HSN := Lib.hid hsn
        clear hsm hsn hs
        go_wp2_with fail
        refine (HSMI.out).mono ?_
        rintro e w4 ⟨rfl, hb4⟩
        have HX := Lib.hid (And.intro (own_later HO.out.1 hb4) (And.intro (HO.out.2.1.trans (hb4.mono HO.out.2.2)) (Nat.le_trans HO.out.2.2 hb4.size)))
        have e1 := (HF3.out.later hb4).cell 1 _ rfl
        have hz4 := HX.out.2.2
        clear hb4 e0
        go_wp2_with (at_builtin; refine wpList_append_own _ rfl _ _ 104 rfl L 9 i0 (.string ByteArray.empty) 1 16 Tryz.underlying104 hi0 hz0 hz1 hz2 rfl (by decide) _ _ _ rfl (HX.out.1.alloc _) ⟨w4.heap.size, 0, none⟩ 1 1 [.string ⟨p.2.toArray⟩] rfl rfl (cells_new _ _ _) (by simp [Value.oneCell']) HBD.out.1 HBD.out.2.1 ?d0 ?_)
        case d0 => (try simp); omega
        intro v1 w7 hI1 hg7 _
        have hb8 := (HX.out.2.1.alloc hz4 _).grown hg7 (by simp; omega) (fun j hj => (HX.out.1.lt j hj).1)
        have HI1 := Lib.hid hI1; have HB8 := Lib.hid hb8
        clear hI1 hb8 hg7
        go_wp2
        have hwi := HW.out
        go_roundw
        case rel =>
          (try rw [hwi]); clear hwi
          refine ⟨i + 1, by go_num, hlt, ?_, HB8.out⟩
          rw [HSN.out]
          simp only [if_true]
          rw [strV_snoc, List.length_append]
          exact HI1.out
        case measure => (try rw [hwi]); clear hwi; simp [intOf]; omega
    · obtain rfl : i = l.length := by omega
      have hd : decide (l.length < l.length) = false := decide_eq_false (Nat.lt_irrefl _)
      rw [List.take_length] at hown
      have HO := Lib.hid hown; have HB := Lib.hid hb
      clear hown hb
      go_wp2
      go_ret
      rw [HL.out]
      exact ⟨_, rfl, HO.out, HB.out⟩
set_option maxHeartbeats 8000000 in
theorem rall_any (v : Value) (l : List Fld) (n : List UInt8) (w : World) (hN : l.length ≤ 4194304) (hT : totF l ≤ 4194304) (hn : n.length ≤ 1099511627776) (h : FldsIn w v l) :
    Calls Tryz.prog 78 #[v, .string ⟨n.toArray⟩] w fun e w' => ∃ v', e = .returned v' ∧ w'.ownsRow w.heap.size 9 1 v' (allF n l).length (strV (allF n l)) ∧ Below w.heap.size w w' := by
  obtain ⟨ao, cap, rfl, hat⟩ := h
  obtain ⟨i0, hi0, hz0, hz1, hz2⟩ := info_str18_parts
  obtain ⟨L, hL⟩ : ∃ L, w.heap.size = L := ⟨_, rfl⟩
  have HL := Lib.hid hL
  have HB0 := Lib.hid (show Below L w w from Below.refl _ _)
  have HSM := Lib.hid (fun (a : List UInt8) W (ha : a.length ≤ 1099511627776) => r6alike_any a n W ha hn)
  have HATW := Lib.hid hat; clear hat hL hn
  go_enter Tryz.func78, Tryz.ntmps78
  go_wp2
  go_loopw [10, 5] (fun iv v wr => ∃ i : Nat, iv = .int .i64 i ∧ i ≤ l.length ∧ wr.ownsRow L 9 1 v (allF n (l.take i)).length (strV (allF n (l.take i))) ∧ Below L w wr)
    (fun iv _ _ => l.length - (intOf iv).toNat)
  case atStart => exact ⟨0, rfl, Nat.zero_le _, World.ownsRow_nil _ _ _ _, HB0.out⟩
  case round =>
    obtain ⟨i, rfl, hi, hown, hb⟩ := hrel
    by_cases hlt : i < l.length
    · obtain ⟨p, hp⟩ : ∃ p, l[i]? = some p := ⟨_, List.getElem?_eq_getElem hlt⟩
      have hb' : Below w.heap.size w wr := by rw [HL.out]; exact hb
      obtain ⟨g, o, rfl, hg, c0, c1⟩ := HATW.out.below hb' i p hp
      have k0 : (0 : Int) ≤ (i : Int) := Int.natCast_nonneg _
      have k1 : (i : Int) < (l.length : Int) := by omega
      obtain ⟨A, hA⟩ : ∃ A, allF n (l.take i) = A := ⟨_, rfl⟩
      have hAl : A.length ≤ i := by rw [← hA]; refine Nat.le_trans (allF_len n _) ?_; rw [List.length_take]; omega
      have hbd := bd_all A.length l.length (by omega) hN
      have hwi := wrap64_small i (by omega)
      have hsn := allF_take n l i p hp
      have htl := totF_get l i p hp
      rw [hA] at hsn hown
      obtain ⟨W3, hW3⟩ : ∃ W3, wr.alloc (.cells #[.string ⟨p.1.toArray⟩, .string ⟨p.2.toArray⟩] 59) = W3 := ⟨_, rfl⟩
      obtain ⟨fb, hfb⟩ : ∃ fb, wr.heap.size = fb := ⟨_, rfl⟩
      have hbL := bsz hb HL
      have hF3 : BlkIs W3 fb #[.string ⟨p.1.toArray⟩, .string ⟨p.2.toArray⟩] 59 := by rw [← hW3, ← hfb]; exact blkIs_new _ _ _
      have hO3 : W3.ownsRow L 9 1 u5 A.length (strV A) := by rw [← hW3]; exact hown.alloc _
      have hB3 : Below L w W3 := by rw [← hW3]; exact hb.alloc hbL _
      have hz3 : L ≤ W3.heap.size := by rw [← hW3]; simp; omega
      have hsm := HSM.out p.1 W3 (by omega)
      have HW3 := Lib.hid hW3; have HW := Lib.hid hwi; have HO := Lib.hid (And.intro hO3 (And.intro hB3 hz3)); have HF3 := Lib.hid hF3; have HA := Lib.hid hA; have HBD := Lib.hid hbd
      clear hW3 hwi hown hb hb' hF3 hO3 hB3 hbL hz3 hA hbd htl
      go_upto_region 5 with fail
      rw [HW3.out]
      clear c0 c1
      have e0 := HF3.out.cell 0 _ rfl
      cases hs : sameF p.1 n with
      | false =>
        rw [hs] at hsm hsn
        have HSMI := Lib.hid hsm; have HSN := Lib.hid hsn
        clear hsm hsn hs
        go_wp2_with fail
        refine (HSMI.out).mono ?_
        rintro e w4 ⟨rfl, hb4⟩
        have HX := Lib.hid (And.intro (own_later HO.out.1 hb4) (HO.out.2.1.trans (hb4.mono HO.out.2.2)))
        clear hb4
        go_wp2
        have hwi := HW.out
        go_roundw
        case rel => (try rw [hwi]); clear hwi; exact ⟨i + 1, by go_num, hlt, by rw [HSN.out]; simpa using HX.out.1, HX.out.2⟩
        case measure => (try rw [hwi]); clear hwi; simp [intOf]; omega
      | true =>
        rw [hs] at hsm hsn
        have HSMI := Lib.hid hsm; have HSN := Lib.hid hsn
        clear hsm hsn hs
        go_wp2_with fail
        refine (HSMI.out).mono ?_
        rintro e w4 ⟨rfl, hb4⟩
        have HX := Lib.hid (And.intro (own_later HO.out.1 hb4) (And.intro (HO.out.2.1.trans (hb4.mono HO.out.2.2)) (Nat.le_trans HO.out.2.2 hb4.size)))
        have e1 := (HF3.out.later hb4).cell 1 _ rfl
        have hz4 := HX.out.2.2
        clear hb4 e0
        go_wp2_with (at_builtin; refine wpList_append_own _ rfl _ _ 104 rfl L 9 i0 (.string ByteArray.empty) 1 16 Tryz.underlying104 hi0 hz0 hz1 hz2 rfl (by decide) _ _ _ rfl (HX.out.1.alloc _) ⟨w4.heap.size, 0, none⟩ 1 1 [.string ⟨p.2.toArray⟩] rfl rfl (cells_new _ _ _) (by simp [Value.oneCell']) HBD.out.1 HBD.out.2.1 ?d0 ?_)
        case d0 => (try simp); omega
        intro v1 w7 hI1 hg7 _
        have hb8 := (HX.out.2.1.alloc hz4 _).grown hg7 (by simp; omega) (fun j hj => (HX.out.1.lt j hj).1)
        have HI1 := Lib.hid hI1; have HB8 := Lib.hid hb8
        clear hI1 hb8 hg7
        go_wp2
        have hwi := HW.out
        go_roundw
        case rel =>
          (try rw [hwi]); clear hwi
          refine ⟨i + 1, by go_num, hlt, ?_, HB8.out⟩
          rw [HSN.out]
          simp only [if_true]
          rw [strV_snoc, List.length_append]
          exact HI1.out
        case measure => (try rw [hwi]); clear hwi; simp [intOf]; omega
    · obtain rfl : i = l.length := by omega
      have hd : decide (l.length < l.length) = false := decide_eq_false (Nat.lt_irrefl _)
      rw [List.take_length] at hown
      have HO := Lib.hid hown; have HB := Lib.hid hb
      clear hown hb
      go_wp2
      go_ret
      rw [HL.out]
      exact ⟨_, rfl, HO.out, HB.out⟩
end Go.Proofs.YtdlpbpikhmciaaaGreatDoor
