/- The walks of octet's value and Trim and of the reference's Trim. Conditions: fewer than 2^32 - 15 bytes; octet.signs holds what the text lays. -/
import Derived.Test.YtdlpbpikhmciaaaGreatDoorOct6
import Derived.Shelf.Strings.SlTrimAscii
namespace Go.Proofs.YtdlpbpikhmciaaaGreatDoor
open Go.RowKit
set_option linter.unusedSimpArgs false
set_option linter.unusedVariables false
set_option maxRecDepth 1000000
theorem ext_mk (s : ByteArray) (a b : Nat) : s.extract a b = ⟨((s.data.toList.drop a).take (b - a)).toArray⟩ := by
  apply ba_ext
  rw [ByteArray.data_extract, Array.toList_extract, List.extract_eq_take_drop]
theorem ext_front (s : ByteArray) (i : Nat) : s.extract 0 i = ⟨(s.data.toList.take i).toArray⟩ := by rw [ext_mk]; simp
theorem ext_back (s : ByteArray) (i : Nat) : s.extract i s.size = ⟨(s.data.toList.drop i).toArray⟩ := by
  rw [ext_mk, List.take_of_length_le (by rw [List.length_drop, size_list]; omega)]
theorem size_mk (l : List UInt8) : (⟨l.toArray⟩ : ByteArray).size = l.length := by rw [← size_list]
def valRet (o : Option (List UInt8 × Nat)) : Value := match o with
  | some (x, k) => .tuple #[.string ⟨x.toArray⟩, .int .i64 (k : Int), .bool true]
  | none => .tuple #[.string ⟨#[]⟩, .int .i64 0, .bool false]
set_option maxHeartbeats 2000000 in
theorem ovalue_any (s : ByteArray) (w : World) (hs : s.size ≤ 1099511627776) (hg : SgAt w) :
    Calls Tryz.prog 231 #[.string s] w fun e w' => e = .returned (valRet (valP s.data.toList)) ∧ Below w.heap.size w w' := by
  have hr := oruns_any s 0 w hs (Nat.zero_le _) hg
  rw [List.drop_zero] at hr
  have hle := runL_le isSg s.data.toList
  rw [size_list] at hle
  obtain ⟨n, hn⟩ : ∃ n, runL isSg s.data.toList = n := ⟨_, rfl⟩
  rw [hn] at hr hle
  have hu := ounq_any s w hs
  by_cases h0 : n = 0
  · have hv : valP s.data.toList = unq s.data.toList := by unfold valP; rw [hn, if_pos h0]
    subst h0
    obtain ⟨o, ho⟩ : ∃ o, unq s.data.toList = o := ⟨_, rfl⟩
    rw [ho] at hv hu
    have HV := Lib.hid (And.intro hv (And.intro hr hu)); clear hv hn ho hr hu
    go_enter Tryz.func231, Tryz.ntmps231
    go_wp2_with fail
    refine (HV.out.2.1).mono ?_
    rintro e w ⟨rfl, rfl⟩
    go_wp2_with fail
    refine (HV.out.2.2).mono ?_
    rintro e w1 ⟨rfl, hb⟩
    cases o with
    | none =>
      rw [show unqRet none = .tuple #[.string ⟨#[]⟩, .int .i64 0, .int .i64 13] from rfl]
      go_wp2
      go_ret3
      refine ⟨?_, hb⟩
      rw [HV.out.1]; rfl
    | some x =>
      obtain ⟨x, k⟩ := x
      rw [show unqRet (some (x, k)) = .tuple #[.string ⟨x.toArray⟩, .int .i64 (k : Int), .int .i64 0] from rfl]
      go_wp2
      go_ret3
      refine ⟨?_, hb⟩
      rw [HV.out.1]; rfl
  · have hv : valP s.data.toList = some (s.data.toList.take n, n) := by unfold valP; rw [hn, if_neg h0]
    have hx := ext_front s n
    have k0 : (0 : Int) < (n : Int) := by omega
    have k2 : (0 : Int) ≤ (n : Int) := by omega
    have k1 : (n : Int) ≤ (s.size : Int) := by omega
    have HV := Lib.hid (And.intro hv (And.intro hx hr)); clear hv hx hn hr hu h0
    go_enter Tryz.func231, Tryz.ntmps231
    go_wp2_with fail
    refine (HV.out.2.2).mono ?_
    rintro e w ⟨rfl, rfl⟩
    go_wp2
    go_ret3
    refine ⟨?_, Below.refl _ _⟩
    rw [HV.out.1, show valRet (some (s.data.toList.take n, n)) = .tuple #[.string ⟨(s.data.toList.take n).toArray⟩, .int .i64 (n : Int), .bool true] from rfl, ← HV.out.2.1]
    rfl
theorem isBl_set (c : UInt8) : isBl c = [32, 9].contains c := by
  have : ∀ n : Fin 256, isBl (UInt8.ofNat n.val) = [32, 9].contains (UInt8.ofNat n.val) := by decide +kernel
  have h := this ⟨c.toNat, c.toBitVec.isLt⟩
  simpa using h
theorem trimR_cons (c : UInt8) (r : List UInt8) : trimR (c :: r) = if trimR r = [] then (if isBl c then [] else [c]) else c :: trimR r := by
  unfold trimR
  rw [List.reverse_cons, List.dropWhile_append]
  by_cases h : r.reverse.dropWhile isBl = []
  · rw [h]
    by_cases hc : isBl c = true <;> simp [hc]
  · have h2 : (r.reverse.dropWhile isBl).isEmpty = false := by simpa using h
    rw [h2]
    simp [h]
theorem trim_swap (l : List UInt8) : (trimR l).dropWhile isBl = trimR (l.dropWhile isBl) := by
  induction l with
  | nil => rfl
  | cons c r ih =>
    by_cases hc : isBl c = true
    · rw [List.dropWhile_cons_of_pos hc, ← ih, trimR_cons, if_pos hc]
      by_cases h : trimR r = []
      · rw [if_pos h, h]
      · rw [if_neg h, List.dropWhile_cons_of_pos hc]
    · rw [List.dropWhile_cons_of_neg hc, trimR_cons, if_neg hc]
      by_cases h : trimR r = []
      · rw [if_pos h, List.dropWhile_cons_of_neg hc]
      · rw [if_neg h, List.dropWhile_cons_of_neg hc]
theorem trimS_eq (l : List UInt8) : Lib.trimS l [32, 9] = trimL l := by
  have e : (fun c : UInt8 => List.contains [32, 9] c) = isBl := by funext c; rw [isBl_set]
  unfold Lib.trimS Lib.trimRightS Lib.trimLeftS trimL
  rw [show (List.contains [32, 9] ·) = isBl from e]
  exact trim_swap l
theorem otrim_any (s : ByteArray) (w : World) (hs : s.size ≤ 1099511627776) :
    Calls Tryz.prog 30 #[.string s] w fun e w' => e = .returned (.string ⟨(trimL s.data.toList).toArray⟩) ∧ Below w.heap.size w w' := by
  have ht := Any.strings_Trim_laid Tryz.lays160 (by kernel_rfl) s ⟨#[32, 9]⟩ w (by omega) (by decide) (by
    intro j b hj
    have : ∀ j : Fin 2, ([32, 9] : List UInt8)[j.val].toNat < 128 := by decide
    obtain ⟨hl, he⟩ := List.getElem?_eq_some_iff.1 hj
    have := this ⟨j, hl⟩
    rw [← he]; exact this)
  rw [show (⟨#[32, 9]⟩ : ByteArray).data.toList = [32, 9] from rfl, trimS_eq] at ht
  have HT := Lib.hid ht; clear ht
  go_enter Tryz.func30, Tryz.ntmps30
  go_wp2_with fail
  refine (HT.out).mono ?_
  rintro e w1 ⟨rfl, hb⟩
  go_wp2
  go_ret
  exact ⟨rfl, hb⟩
end Go.Proofs.YtdlpbpikhmciaaaGreatDoor
