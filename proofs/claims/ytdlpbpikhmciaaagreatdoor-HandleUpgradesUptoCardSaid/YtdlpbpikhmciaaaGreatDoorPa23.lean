/- The walk of base.Decode: it returns the plain machine decR; nothing that was there turns. Conditions: no text is longer than memory. -/
import Derived.Test.YtdlpbpikhmciaaaGreatDoorPa02
import Derived.Test.YtdlpbpikhmciaaaGreatDoorPk04
import Derived.Test.YtdlpbpikhmciaaaGreatDoorPa22
namespace Go.Proofs.YtdlpbpikhmciaaaGreatDoor
open Go.RowKit
set_option linter.unusedSimpArgs false
set_option linter.unusedVariables false
theorem idx64_yes (c : UInt8) (v : Nat) (h : sv c = some v) (w : World) : Calls Tryz.prog 163 #[.string ⟨#[65, 66, 67, 68, 69, 70, 71, 72, 73, 74, 75, 76, 77, 78, 79, 80, 81, 82, 83, 84, 85, 86, 87, 88, 89, 90, 97, 98, 99, 100, 101, 102, 103, 104, 105, 106, 107, 108, 109, 110, 111, 112, 113, 114, 115, 116, 117, 118, 119, 120, 121, 122, 48, 49, 50, 51, 52, 53, 54, 55, 56, 57, 43, 47]⟩, .int .u8 (c.toNat : Int)] w fun e w' => e = .returned (.int .i64 (v : Nat)) ∧ w = w' := by
  refine (Tryz.strings_IndexByte _ _ _).mono ?_
  rintro e w' ⟨rfl, rfl⟩
  refine ⟨?_, rfl⟩
  have h1 : ((c.toNat : Int).toNat.toUInt8) = c := by simp
  rw [h1]
  show Ending.returned (.int .i64 (Lib.indexByte tbl64 c)) = _
  rw [sv_idx h]
theorem idx64_no (c : UInt8) (h : sv c = none) (w : World) : Calls Tryz.prog 163 #[.string ⟨#[65, 66, 67, 68, 69, 70, 71, 72, 73, 74, 75, 76, 77, 78, 79, 80, 81, 82, 83, 84, 85, 86, 87, 88, 89, 90, 97, 98, 99, 100, 101, 102, 103, 104, 105, 106, 107, 108, 109, 110, 111, 112, 113, 114, 115, 116, 117, 118, 119, 120, 121, 122, 48, 49, 50, 51, 52, 53, 54, 55, 56, 57, 43, 47]⟩, .int .u8 (c.toNat : Int)] w fun e w' => e = .returned (.int .i64 (-1)) ∧ w = w' := by
  refine (Tryz.strings_IndexByte _ _ _).mono ?_
  rintro e w' ⟨rfl, rfl⟩
  refine ⟨?_, rfl⟩
  have h1 : ((c.toNat : Int).toNat.toUInt8) = c := by simp
  rw [h1]
  show Ending.returned (.int .i64 (Lib.indexByte tbl64 c)) = _
  rw [sv_idx_none h]
/-- The number that the signs of a group make. -/
def valN : List Nat → Nat
  | [] => 0
  | [a] => a
  | [a, b] => a * 64 + b
  | [a, b, c] => (a * 64 + b) * 64 + c
  | _ => 0
def haveN : List Nat → Int
  | [] => 0
  | [_] => 6
  | [_, _] => 12
  | [_, _, _] => 18
  | _ => 24
/-- What holds at each round's head. -/
def DRel (s : ByteArray) (w : World) (B : Nat) (v n h f x : Value) (wr : World) : Prop := ∃ (i : Nat) (acc : List UInt8) (vs : List Nat) (fl : Nat) (nI hI fI : Int), x = .int .i64 i ∧ i ≤ s.size ∧ n = .int .i64 nI ∧ h = .int .i64 hI ∧ f = .int .i64 fI ∧ nI = (valN vs : Nat) ∧ hI = haveN vs ∧ fI = (fl : Nat) ∧ DInv vs fl (i % 4) ∧ dgo acc vs fl i (s.data.toList.drop i) = decR s.data.toList ∧ wr.ownsRow B 5 1 v acc.length (Lib.byteCells acc) ∧ acc.length + i % 4 ≤ i ∧ Below B w wr
set_option maxRecDepth 100000 in
set_option maxHeartbeats 8000000 in
theorem decode_any (s : ByteArray) (w : World) (hs : s.size ≤ 140737488351232) :
    Calls Tryz.prog 149 #[.string s] w fun e w' => e = .returned (.tuple #[.string ⟨(decR s.data.toList).1.toArray⟩, .int .i64 (decR s.data.toList).2.1, .int .i64 (decR s.data.toList).2.2]) ∧ Below w.heap.size w w' := by
  obtain ⟨i0, hi, hz0, hz1, hz2⟩ := info_parts infoByte
  go_enter Tryz.func149, Tryz.ntmps149
  go_wp2
  go_loopw [5, 6, 7, 8, 15] (fun v n h f x wr => DRel s w w.heap.size v n h f x wr)
    (fun _ _ _ _ x _ => s.size - (intOf x).toNat)
  case atStart => exact ⟨0, [], [], 0, 0, 0, 0, rfl, Nat.zero_le _, rfl, rfl, rfl, rfl, rfl, rfl, ⟨by simp, .inl ⟨rfl, rfl, by decide⟩⟩, rfl, World.ownsRow_nil _ _ _ _, by simp, Below.refl _ w⟩
  case round =>
    obtain ⟨i, acc, vs, fl, nI, hI, fI, rfl, hil, rfl, rfl, rfl, hnI, hhI, hfI, hinv, hgo, hown, hal, hbw⟩ := hrel
    have hbs := hbw.size
    have HA := Lib.hid hgo; clear hgo
    by_cases hlt : i < s.size
    · have hdg := drop_get s i hlt
      obtain ⟨hall, hcase⟩ := hinv
      rcases hcase with ⟨rfl, hlen, hp4⟩ | ⟨rfl, hp, hlen⟩ | ⟨hfl, hp, rfl⟩
      · rcases four_of vs (by omega) with rfl | ⟨a, rfl⟩ | ⟨a, b, rfl⟩ | ⟨a, b, c, rfl⟩
        · have hp : i % 4 = 0 := by simpa using hlen.symm
          clear hlen hp4
          cases hs : sv (s[i]'hlt) with
          | some v =>
            have lv := sv_lt hs
            have hE : dgo acc [] 0 i (s.data.toList.drop i) = dgo (acc) [v] 0 (i + 1) (s.data.toList.drop (i + 1)) := by rw [hdg]; exact dgo_some (by rw [hp]; simp [dstep, fin, fits, gb, hs, hp])
            have HE := Lib.hid hE; have H_hs := Lib.hid hs; have HP := Lib.hid hp
            have pI : (i : Int) % 4 = 0 := by omega
            have gI : ((0 : Int) == 0) = true := by decide
            obtain rfl : nI = 0 := hnI
            obtain rfl : hI = 0 := hhI
            obtain rfl : fI = 0 := hfI
            (try clear hnI); (try clear hhI); (try clear hfI)
            have e1 := dec_or0 v lv
            clear hE hs hdg hp hall
            go_wp2_with fail
            refine (idx64_yes _ _ H_hs.out _).mono ?_
            rintro e w1 ⟨rfl, rfl⟩
            go_wp2
            go_roundw
            case rel => exact ⟨i + 1, acc, [v], 0, (v : Int), 6, 0, by go_num, by omega, rfl, rfl, rfl, by rfl, rfl, rfl, ⟨by simp; omega, .inl ⟨rfl, by have := HP.out; simp; omega, by omega⟩⟩, by rw [← HE.out]; exact HA.out, hown, by have := HP.out; omega, hbw⟩
            case measure => simp [intOf]; omega
          | none =>
            by_cases h61 : s[i]'hlt = 61
            · have h61I : (((s[i]'hlt).toNat : Int) == 61) = true := by rw [h61]; rfl
              have h61e := h61
              have hE : dgo acc [] 0 i (s.data.toList.drop i) = ([], i, 30) := by rw [hdg]; exact dgo_none (by rw [hp]; simp [dstep, fin, fits, gb, h61e, sv_61])
              clear h61e
              have HE := Lib.hid hE; have H_hs := Lib.hid hs; have HP := Lib.hid hp; have H61 := Lib.hid h61
              have pI : (i : Int) % 4 = 0 := by omega
              have gI : ((0 : Int) == 0) = true := by decide
              obtain rfl : nI = 0 := hnI
              obtain rfl : hI = 0 := hhI
              obtain rfl : fI = 0 := hfI
              (try clear hnI); (try clear hhI); (try clear hfI)
              clear hE hs hdg hp hall h61
              go_wp2_with fail
              refine (idx64_no _ H_hs.out _).mono ?_
              rintro e w1 ⟨rfl, rfl⟩
              go_wp2
              go_ret3
              rw [← HA.out, HE.out]
              exact ⟨rfl, hbw⟩
            · have h61I : (((s[i]'hlt).toNat : Int) == 61) = false := by rw [beq_eq_false_iff_ne]; intro e; exact h61 (UInt8.toNat_inj.1 (by show _ = 61; omega))
              have hE : dgo acc [] 0 i (s.data.toList.drop i) = ([], i, 30) := by rw [hdg]; exact dgo_none (by rw [hp]; simp [dstep, fin, fits, gb, hs, h61])
              have HE := Lib.hid hE; have H_hs := Lib.hid hs; have HP := Lib.hid hp; have H61 := Lib.hid h61
              have pI : (i : Int) % 4 = 0 := by omega
              have gI : ((0 : Int) == 0) = true := by decide
              obtain rfl : nI = 0 := hnI
              obtain rfl : hI = 0 := hhI
              obtain rfl : fI = 0 := hfI
              (try clear hnI); (try clear hhI); (try clear hfI)
              clear hE hs hdg hp hall h61
              go_wp2_with fail
              refine (idx64_no _ H_hs.out _).mono ?_
              rintro e w1 ⟨rfl, rfl⟩
              go_wp2
              go_ret3
              rw [← HA.out, HE.out]
              exact ⟨rfl, hbw⟩
        · have hp : i % 4 = 1 := by simpa using hlen.symm
          clear hlen hp4
          have la : a < 64 := hall a (by simp)
          cases hs : sv (s[i]'hlt) with
          | some v =>
            have lv := sv_lt hs
            have hE : dgo acc [a] 0 i (s.data.toList.drop i) = dgo (acc) [a, v] 0 (i + 1) (s.data.toList.drop (i + 1)) := by rw [hdg]; exact dgo_some (by rw [hp]; simp [dstep, fin, fits, gb, hs, hp])
            have HE := Lib.hid hE; have H_hs := Lib.hid hs; have HP := Lib.hid hp
            have pI : (i : Int) % 4 = 1 := by omega
            have gI : ((1 : Int) == 0) = false := by decide
            obtain ⟨n, hn⟩ : ∃ n : Nat, a = n := ⟨_, rfl⟩
            obtain rfl : nI = (n : Int) := by rw [hnI, ← hn]; rfl
            have hnl : (n : Int) < 64 := by omega
            have hn0 : (0 : Int) ≤ (n : Int) := by omega
            obtain rfl : hI = 6 := hhI
            obtain rfl : fI = 0 := hfI
            (try clear hnI); (try clear hhI); (try clear hfI)
            have e1 := dec_or1 n v (by omega) lv
            have hn2 : n * 64 + v = valN [a, v] := by rw [← hn]; rfl
            generalize n * 64 + v = n2 at e1 hn2
            have HN2 := Lib.hid hn2; have HN := Lib.hid hn; clear hn2 hn
            clear hE hs hdg hp hall
            go_wp2_with fail
            refine (idx64_yes _ _ H_hs.out _).mono ?_
            rintro e w1 ⟨rfl, rfl⟩
            go_wp2
            go_roundw
            case rel => exact ⟨i + 1, acc, [a, v], 0, (n2 : Int), 12, 0, by go_num, by omega, rfl, rfl, rfl, by rw [HN2.out], rfl, rfl, ⟨by simp; omega, .inl ⟨rfl, by have := HP.out; simp; omega, by omega⟩⟩, by rw [← HE.out]; exact HA.out, hown, by have := HP.out; omega, hbw⟩
            case measure => simp [intOf]; omega
          | none =>
            by_cases h61 : s[i]'hlt = 61
            · have h61I : (((s[i]'hlt).toNat : Int) == 61) = true := by rw [h61]; rfl
              have h61e := h61
              have hE : dgo acc [a] 0 i (s.data.toList.drop i) = ([], i, 30) := by rw [hdg]; exact dgo_none (by rw [hp]; simp [dstep, fin, fits, gb, h61e, sv_61])
              clear h61e
              have HE := Lib.hid hE; have H_hs := Lib.hid hs; have HP := Lib.hid hp; have H61 := Lib.hid h61
              have pI : (i : Int) % 4 = 1 := by omega
              have gI : ((1 : Int) == 0) = false := by decide
              obtain ⟨n, hn⟩ : ∃ n : Nat, a = n := ⟨_, rfl⟩
              obtain rfl : nI = (n : Int) := by rw [hnI, ← hn]; rfl
              have hnl : (n : Int) < 64 := by omega
              have hn0 : (0 : Int) ≤ (n : Int) := by omega
              obtain rfl : hI = 6 := hhI
              obtain rfl : fI = 0 := hfI
              (try clear hnI); (try clear hhI); (try clear hfI)
              have HN := Lib.hid hn; clear hn
              clear hE hs hdg hp hall h61
              go_wp2_with fail
              refine (idx64_no _ H_hs.out _).mono ?_
              rintro e w1 ⟨rfl, rfl⟩
              go_wp2
              go_ret3
              rw [← HA.out, HE.out]
              exact ⟨rfl, hbw⟩
            · have h61I : (((s[i]'hlt).toNat : Int) == 61) = false := by rw [beq_eq_false_iff_ne]; intro e; exact h61 (UInt8.toNat_inj.1 (by show _ = 61; omega))
              have hE : dgo acc [a] 0 i (s.data.toList.drop i) = ([], i, 30) := by rw [hdg]; exact dgo_none (by rw [hp]; simp [dstep, fin, fits, gb, hs, h61])
              have HE := Lib.hid hE; have H_hs := Lib.hid hs; have HP := Lib.hid hp; have H61 := Lib.hid h61
              have pI : (i : Int) % 4 = 1 := by omega
              have gI : ((1 : Int) == 0) = false := by decide
              obtain ⟨n, hn⟩ : ∃ n : Nat, a = n := ⟨_, rfl⟩
              obtain rfl : nI = (n : Int) := by rw [hnI, ← hn]; rfl
              have hnl : (n : Int) < 64 := by omega
              have hn0 : (0 : Int) ≤ (n : Int) := by omega
              obtain rfl : hI = 6 := hhI
              obtain rfl : fI = 0 := hfI
              (try clear hnI); (try clear hhI); (try clear hfI)
              have HN := Lib.hid hn; clear hn
              clear hE hs hdg hp hall h61
              go_wp2_with fail
              refine (idx64_no _ H_hs.out _).mono ?_
              rintro e w1 ⟨rfl, rfl⟩
              go_wp2
              go_ret3
              rw [← HA.out, HE.out]
              exact ⟨rfl, hbw⟩
        · have hp : i % 4 = 2 := by simpa using hlen.symm
          clear hlen hp4
          have la : a < 64 := hall a (by simp)
          have lb : b < 64 := hall b (by simp)
          cases hs : sv (s[i]'hlt) with
          | some v =>
            have lv := sv_lt hs
            have hE : dgo acc [a, b] 0 i (s.data.toList.drop i) = dgo (acc) [a, b, v] 0 (i + 1) (s.data.toList.drop (i + 1)) := by rw [hdg]; exact dgo_some (by rw [hp]; simp [dstep, fin, fits, gb, hs, hp])
            have HE := Lib.hid hE; have H_hs := Lib.hid hs; have HP := Lib.hid hp
            have pI : (i : Int) % 4 = 2 := by omega
            have gI : ((2 : Int) == 0) = false := by decide
            obtain ⟨n, hn⟩ : ∃ n : Nat, a * 64 + b = n := ⟨_, rfl⟩
            obtain rfl : nI = (n : Int) := by rw [hnI, ← hn]; rfl
            have hnl : (n : Int) < 4096 := by omega
            have hn0 : (0 : Int) ≤ (n : Int) := by omega
            obtain rfl : hI = 12 := hhI
            obtain rfl : fI = 0 := hfI
            (try clear hnI); (try clear hhI); (try clear hfI)
            have e1 := dec_or1 n v (by omega) lv
            have hn2 : n * 64 + v = valN [a, b, v] := by rw [← hn]; rfl
            generalize n * 64 + v = n2 at e1 hn2
            have HN2 := Lib.hid hn2; have HN := Lib.hid hn; clear hn2 hn
            clear hE hs hdg hp hall
            go_wp2_with fail
            refine (idx64_yes _ _ H_hs.out _).mono ?_
            rintro e w1 ⟨rfl, rfl⟩
            go_wp2
            go_roundw
            case rel => exact ⟨i + 1, acc, [a, b, v], 0, (n2 : Int), 18, 0, by go_num, by omega, rfl, rfl, rfl, by rw [HN2.out], rfl, rfl, ⟨by simp; omega, .inl ⟨rfl, by have := HP.out; simp; omega, by omega⟩⟩, by rw [← HE.out]; exact HA.out, hown, by have := HP.out; omega, hbw⟩
            case measure => simp [intOf]; omega
          | none =>
            by_cases h61 : s[i]'hlt = 61
            · have h61I : (((s[i]'hlt).toNat : Int) == 61) = true := by rw [h61]; rfl
              by_cases hm : b % 16 = 0
              · have hm' := hm
                have h61e := h61
                have hE : dgo acc [a, b] 0 i (s.data.toList.drop i) = dgo (acc) [a, b] 1 (i + 1) (s.data.toList.drop (i + 1)) := by rw [hdg]; exact dgo_some (by rw [hp]; simp [dstep, fin, fits, gb, h61e, sv_61, hm])
                clear h61e
                have HE := Lib.hid hE; have H_hs := Lib.hid hs; have HP := Lib.hid hp; have H61 := Lib.hid h61
                have pI : (i : Int) % 4 = 2 := by omega
                have gI : ((2 : Int) == 0) = false := by decide
                obtain ⟨n, hn⟩ : ∃ n : Nat, a * 64 + b = n := ⟨_, rfl⟩
                obtain rfl : nI = (n : Int) := by rw [hnI, ← hn]; rfl
                have hnl : (n : Int) < 4096 := by omega
                have hn0 : (0 : Int) ≤ (n : Int) := by omega
                obtain rfl : hI = 12 := hhI
                obtain rfl : fI = 0 := hfI
                (try clear hnI); (try clear hhI); (try clear hfI)
                have e1 := dec_and15 n (by omega)
                have e2 : (((n % 16 : Nat) : Int) == 0) = true := by rw [beq_iff_eq]; omega
                generalize n % 16 = r at e1 e2
                have hn2 : n = valN [a, b] := by rw [← hn]; rfl
                have HN := Lib.hid hn; have HN2 := Lib.hid hn2; have HM := Lib.hid hm'; clear hn hn2 hm'
                clear hE hs hdg hp hall h61 hm
                go_wp2_with fail
                refine (idx64_no _ H_hs.out _).mono ?_
                rintro e w1 ⟨rfl, rfl⟩
                go_wp2
                go_roundw
                case rel => exact ⟨i + 1, acc, [a, b], 1, (n : Int), 12, 1, by go_num, by omega, rfl, rfl, rfl, by rw [HN2.out], rfl, rfl, ⟨by simp; omega, .inr (.inl ⟨rfl, by have := HP.out; omega, rfl⟩)⟩, by rw [← HE.out]; exact HA.out, hown, by have := HP.out; omega, hbw⟩
                case measure => simp [intOf]; omega
              · have hm' := hm
                have h61e := h61
                have hE : dgo acc [a, b] 0 i (s.data.toList.drop i) = ([], i, 30) := by rw [hdg]; exact dgo_none (by rw [hp]; simp [dstep, fin, fits, gb, h61e, sv_61, hm])
                clear h61e
                have HE := Lib.hid hE; have H_hs := Lib.hid hs; have HP := Lib.hid hp; have H61 := Lib.hid h61
                have pI : (i : Int) % 4 = 2 := by omega
                have gI : ((2 : Int) == 0) = false := by decide
                obtain ⟨n, hn⟩ : ∃ n : Nat, a * 64 + b = n := ⟨_, rfl⟩
                obtain rfl : nI = (n : Int) := by rw [hnI, ← hn]; rfl
                have hnl : (n : Int) < 4096 := by omega
                have hn0 : (0 : Int) ≤ (n : Int) := by omega
                obtain rfl : hI = 12 := hhI
                obtain rfl : fI = 0 := hfI
                (try clear hnI); (try clear hhI); (try clear hfI)
                have e1 := dec_and15 n (by omega)
                have e2 : (((n % 16 : Nat) : Int) == 0) = false := by rw [beq_eq_false_iff_ne]; omega
                generalize n % 16 = r at e1 e2
                have hn2 : n = valN [a, b] := by rw [← hn]; rfl
                have HN := Lib.hid hn; have HN2 := Lib.hid hn2; have HM := Lib.hid hm'; clear hn hn2 hm'
                clear hE hs hdg hp hall h61 hm
                go_wp2_with fail
                refine (idx64_no _ H_hs.out _).mono ?_
                rintro e w1 ⟨rfl, rfl⟩
                go_wp2
                go_ret3
                rw [← HA.out, HE.out]
                exact ⟨rfl, hbw⟩
            · have h61I : (((s[i]'hlt).toNat : Int) == 61) = false := by rw [beq_eq_false_iff_ne]; intro e; exact h61 (UInt8.toNat_inj.1 (by show _ = 61; omega))
              have hE : dgo acc [a, b] 0 i (s.data.toList.drop i) = ([], i, 30) := by rw [hdg]; exact dgo_none (by rw [hp]; simp [dstep, fin, fits, gb, hs, h61])
              have HE := Lib.hid hE; have H_hs := Lib.hid hs; have HP := Lib.hid hp; have H61 := Lib.hid h61
              have pI : (i : Int) % 4 = 2 := by omega
              have gI : ((2 : Int) == 0) = false := by decide
              obtain ⟨n, hn⟩ : ∃ n : Nat, a * 64 + b = n := ⟨_, rfl⟩
              obtain rfl : nI = (n : Int) := by rw [hnI, ← hn]; rfl
              have hnl : (n : Int) < 4096 := by omega
              have hn0 : (0 : Int) ≤ (n : Int) := by omega
              obtain rfl : hI = 12 := hhI
              obtain rfl : fI = 0 := hfI
              (try clear hnI); (try clear hhI); (try clear hfI)
              have HN := Lib.hid hn; clear hn
              clear hE hs hdg hp hall h61
              go_wp2_with fail
              refine (idx64_no _ H_hs.out _).mono ?_
              rintro e w1 ⟨rfl, rfl⟩
              go_wp2
              go_ret3
              rw [← HA.out, HE.out]
              exact ⟨rfl, hbw⟩
        · have hp : i % 4 = 3 := by simpa using hlen.symm
          clear hlen hp4
          have la : a < 64 := hall a (by simp)
          have lb : b < 64 := hall b (by simp)
          have lc : c < 64 := hall c (by simp)
          cases hs : sv (s[i]'hlt) with
          | some v =>
            have lv := sv_lt hs
            have hE : dgo acc [a, b, c] 0 i (s.data.toList.drop i) = dgo (acc ++ gb [a, b, c, v]) [] 0 (i + 1) (s.data.toList.drop (i + 1)) := by rw [hdg]; exact dgo_some (by rw [hp]; simp [dstep, fin, fits, gb, hs, hp])
            have HE := Lib.hid hE; have H_hs := Lib.hid hs; have HP := Lib.hid hp
            have pI : (i : Int) % 4 = 3 := by omega
            have gI : ((3 : Int) == 0) = false := by decide
            obtain ⟨n, hn⟩ : ∃ n : Nat, (a * 64 + b) * 64 + c = n := ⟨_, rfl⟩
            obtain rfl : nI = (n : Int) := by rw [hnI, ← hn]; rfl
            have hnl : (n : Int) < 262144 := by omega
            have hn0 : (0 : Int) ≤ (n : Int) := by omega
            obtain rfl : hI = 18 := hhI
            obtain rfl : fI = 0 := hfI
            (try clear hnI); (try clear hhI); (try clear hfI)
            have e1 := dec_or1 n v (by omega) lv
            obtain ⟨n2, hn2⟩ : ∃ m : Nat, n * 64 + v = m := ⟨_, rfl⟩
            rw [hn2] at e1
            have q0 := dw_40 a b c v n n2 hn hn2 lc lv
            have q1 := dw_41 a b c v n n2 hn hn2 lc lv
            have q2 := dw_42 a b c v n n2 hn hn2
            have hN2 : (n2 : Int) < 16777216 := by omega
            obtain ⟨x0, hx0⟩ : ∃ x, b0 a b = x := ⟨_, rfl⟩
            obtain ⟨x1, hx1⟩ : ∃ x, b1 b c = x := ⟨_, rfl⟩
            obtain ⟨x2, hx2⟩ : ∃ x, b2 c v = x := ⟨_, rfl⟩
            rw [hx0] at q0
            rw [hx1] at q1
            rw [hx2] at q2
            have hn20 : (0 : Int) ≤ (n2 : Int) := by omega
            have HN := Lib.hid hn; have HX0 := Lib.hid hx0; have HX1 := Lib.hid hx1; have HX2 := Lib.hid hx2; have HN2 := Lib.hid hn2; clear hn hx0 hx1 hx2 hn2
            clear hE hs hdg hp hall
            go_wp2_with fail
            refine (idx64_yes _ _ H_hs.out _).mono ?_
            rintro e w1 ⟨rfl, rfl⟩
            go_wp2
            refine wp_loop_rounds 4 ?_
            rw [rounds_succ]; go_wp2_with (at_builtin; refine wpList_append_own _ rfl (.tmp 92) (.tmp 97) 81 rfl w.heap.size 5 i0 (.int .u8 0) 1 1 Tryz.underlying81 hi hz0 hz1 hz2 rfl (by decide) _ _ _ rfl (hown.alloc _) ⟨wr.heap.size, 0, none⟩ 1 1 (Lib.byteCells [x0]) rfl rfl (cells_new _ _ _) (byteCells_oneCell _) ?d0 ?e0 ?f0 ?_)
            case d0 => unfold maxLen; omega
            case e0 => omega
            case f0 => simp; omega
            intro v1 w1 hI1 hg1 _
            rw [← Lib.byteCells_append] at hI1
            have hb1 := (hbw.alloc (by omega) _).grown hg1 (by simp; omega) (fun j hj => (hown.lt j hj).1)
            have hs1 := hb1.size
            clear hg1
            go_wp2
            rw [rounds_succ]; go_wp2_with (at_builtin; refine wpList_append_own _ rfl (.tmp 92) (.tmp 97) 81 rfl w.heap.size 5 i0 (.int .u8 0) 1 1 Tryz.underlying81 hi hz0 hz1 hz2 rfl (by decide) _ _ _ rfl (hI1.alloc _) ⟨w1.heap.size, 0, none⟩ 1 1 (Lib.byteCells [x1]) rfl rfl (cells_new _ _ _) (byteCells_oneCell _) ?d1 ?e1 ?f1 ?_)
            case d1 => unfold maxLen; omega
            case e1 => omega
            case f1 => simp; omega
            intro v2 w2 hI2 hg2 _
            rw [← Lib.byteCells_append] at hI2
            have hb2 := (hb1.alloc (by omega) _).grown hg2 (by simp; omega) (fun j hj => (hI1.lt j hj).1)
            have hs2 := hb2.size
            clear hg2
            go_wp2
            rw [rounds_succ]; go_wp2_with (at_builtin; refine wpList_append_own _ rfl (.tmp 92) (.tmp 97) 81 rfl w.heap.size 5 i0 (.int .u8 0) 1 1 Tryz.underlying81 hi hz0 hz1 hz2 rfl (by decide) _ _ _ rfl (hI2.alloc _) ⟨w2.heap.size, 0, none⟩ 1 1 (Lib.byteCells [x2]) rfl rfl (cells_new _ _ _) (byteCells_oneCell _) ?d2 ?e2 ?f2 ?_)
            case d2 => unfold maxLen; omega
            case e2 => omega
            case f2 => simp; omega
            intro v3 w3 hI3 hg3 _
            rw [← Lib.byteCells_append] at hI3
            have hb3 := (hb2.alloc (by omega) _).grown hg3 (by simp; omega) (fun j hj => (hI2.lt j hj).1)
            have hs3 := hb3.size
            clear hg3
            go_wp2
            rw [rounds_succ]; go_wp2
            go_roundw
            case rel => exact ⟨i + 1, acc ++ gb [a, b, c, v], [], 0, 0, 0, 0, by go_num, by omega, rfl, rfl, rfl, rfl, rfl, rfl, ⟨by simp, .inl ⟨rfl, by have := HP.out; simp; omega, by omega⟩⟩, by rw [← HE.out]; exact HA.out, by simpa [gb, HX0.out, HX1.out, HX2.out] using hI3, by have := HP.out; simp [gb]; omega, hb3⟩
            case measure => simp [intOf]; omega
          | none =>
            by_cases h61 : s[i]'hlt = 61
            · have h61I : (((s[i]'hlt).toNat : Int) == 61) = true := by rw [h61]; rfl
              by_cases hm : c % 4 = 0
              · have hm' := hm
                have h61e := h61
                have hE : dgo acc [a, b, c] 0 i (s.data.toList.drop i) = dgo (acc ++ gb [a, b, c]) [] 1 (i + 1) (s.data.toList.drop (i + 1)) := by rw [hdg]; exact dgo_some (by rw [hp]; simp [dstep, fin, fits, gb, h61e, sv_61, hm])
                clear h61e
                have HE := Lib.hid hE; have H_hs := Lib.hid hs; have HP := Lib.hid hp; have H61 := Lib.hid h61
                have pI : (i : Int) % 4 = 3 := by omega
                have gI : ((3 : Int) == 0) = false := by decide
                obtain ⟨n, hn⟩ : ∃ n : Nat, (a * 64 + b) * 64 + c = n := ⟨_, rfl⟩
                obtain rfl : nI = (n : Int) := by rw [hnI, ← hn]; rfl
                have hnl : (n : Int) < 262144 := by omega
                have hn0 : (0 : Int) ≤ (n : Int) := by omega
                obtain rfl : hI = 18 := hhI
                obtain rfl : fI = 0 := hfI
                (try clear hnI); (try clear hhI); (try clear hfI)
                have e1 := dec_and3 n (by omega)
                have e2 : (((n % 4 : Nat) : Int) == 0) = true := by rw [beq_iff_eq]; omega
                have q0 := dw_30 a b c n hn lc
                have q1 := dw_31 a b c n hn
                obtain ⟨x0, hx0⟩ : ∃ x, b0 a b = x := ⟨_, rfl⟩
                obtain ⟨x1, hx1⟩ : ∃ x, b1 b c = x := ⟨_, rfl⟩
                rw [hx0] at q0
                rw [hx1] at q1
                have HX0 := Lib.hid hx0; have HX1 := Lib.hid hx1; clear hx0 hx1
                generalize n % 4 = r at e1 e2
                have hn2 : n = valN [a, b, c] := by rw [← hn]; rfl
                have HN := Lib.hid hn; have HN2 := Lib.hid hn2; have HM := Lib.hid hm'; clear hn hn2 hm'
                clear hE hs hdg hp hall h61 hm
                go_wp2_with fail
                refine (idx64_no _ H_hs.out _).mono ?_
                rintro e w1 ⟨rfl, rfl⟩
                go_wp2
                refine wp_loop_rounds 3 ?_
                rw [rounds_succ]; go_wp2_with (at_builtin; refine wpList_append_own _ rfl (.tmp 92) (.tmp 97) 81 rfl w.heap.size 5 i0 (.int .u8 0) 1 1 Tryz.underlying81 hi hz0 hz1 hz2 rfl (by decide) _ _ _ rfl (hown.alloc _) ⟨wr.heap.size, 0, none⟩ 1 1 (Lib.byteCells [x0]) rfl rfl (cells_new _ _ _) (byteCells_oneCell _) ?d3 ?e3 ?f3 ?_)
                case d3 => unfold maxLen; omega
                case e3 => omega
                case f3 => simp; omega
                intro v1 w1 hI1 hg1 _
                rw [← Lib.byteCells_append] at hI1
                have hb1 := (hbw.alloc (by omega) _).grown hg1 (by simp; omega) (fun j hj => (hown.lt j hj).1)
                have hs1 := hb1.size
                clear hg1
                go_wp2
                rw [rounds_succ]; go_wp2_with (at_builtin; refine wpList_append_own _ rfl (.tmp 92) (.tmp 97) 81 rfl w.heap.size 5 i0 (.int .u8 0) 1 1 Tryz.underlying81 hi hz0 hz1 hz2 rfl (by decide) _ _ _ rfl (hI1.alloc _) ⟨w1.heap.size, 0, none⟩ 1 1 (Lib.byteCells [x1]) rfl rfl (cells_new _ _ _) (byteCells_oneCell _) ?d4 ?e4 ?f4 ?_)
                case d4 => unfold maxLen; omega
                case e4 => omega
                case f4 => simp; omega
                intro v2 w2 hI2 hg2 _
                rw [← Lib.byteCells_append] at hI2
                have hb2 := (hb1.alloc (by omega) _).grown hg2 (by simp; omega) (fun j hj => (hI1.lt j hj).1)
                have hs2 := hb2.size
                clear hg2
                go_wp2
                rw [rounds_succ]; go_wp2
                go_roundw
                case rel => exact ⟨i + 1, acc ++ gb [a, b, c], [], 1, 0, 0, 1, by go_num, by omega, rfl, rfl, rfl, rfl, rfl, rfl, ⟨by simp, .inr (.inr ⟨.inl rfl, by have := HP.out; omega, rfl⟩)⟩, by rw [← HE.out]; exact HA.out, by simpa [gb, HX0.out, HX1.out] using hI2, by have := HP.out; simp [gb]; omega, hb2⟩
                case measure => simp [intOf]; omega
              · have hm' := hm
                have h61e := h61
                have hE : dgo acc [a, b, c] 0 i (s.data.toList.drop i) = ([], i, 30) := by rw [hdg]; exact dgo_none (by rw [hp]; simp [dstep, fin, fits, gb, h61e, sv_61, hm])
                clear h61e
                have HE := Lib.hid hE; have H_hs := Lib.hid hs; have HP := Lib.hid hp; have H61 := Lib.hid h61
                have pI : (i : Int) % 4 = 3 := by omega
                have gI : ((3 : Int) == 0) = false := by decide
                obtain ⟨n, hn⟩ : ∃ n : Nat, (a * 64 + b) * 64 + c = n := ⟨_, rfl⟩
                obtain rfl : nI = (n : Int) := by rw [hnI, ← hn]; rfl
                have hnl : (n : Int) < 262144 := by omega
                have hn0 : (0 : Int) ≤ (n : Int) := by omega
                obtain rfl : hI = 18 := hhI
                obtain rfl : fI = 0 := hfI
                (try clear hnI); (try clear hhI); (try clear hfI)
                have e1 := dec_and3 n (by omega)
                have e2 : (((n % 4 : Nat) : Int) == 0) = false := by rw [beq_eq_false_iff_ne]; omega
                generalize n % 4 = r at e1 e2
                have hn2 : n = valN [a, b, c] := by rw [← hn]; rfl
                have HN := Lib.hid hn; have HN2 := Lib.hid hn2; have HM := Lib.hid hm'; clear hn hn2 hm'
                clear hE hs hdg hp hall h61 hm
                go_wp2_with fail
                refine (idx64_no _ H_hs.out _).mono ?_
                rintro e w1 ⟨rfl, rfl⟩
                go_wp2
                go_ret3
                rw [← HA.out, HE.out]
                exact ⟨rfl, hbw⟩
            · have h61I : (((s[i]'hlt).toNat : Int) == 61) = false := by rw [beq_eq_false_iff_ne]; intro e; exact h61 (UInt8.toNat_inj.1 (by show _ = 61; omega))
              have hE : dgo acc [a, b, c] 0 i (s.data.toList.drop i) = ([], i, 30) := by rw [hdg]; exact dgo_none (by rw [hp]; simp [dstep, fin, fits, gb, hs, h61])
              have HE := Lib.hid hE; have H_hs := Lib.hid hs; have HP := Lib.hid hp; have H61 := Lib.hid h61
              have pI : (i : Int) % 4 = 3 := by omega
              have gI : ((3 : Int) == 0) = false := by decide
              obtain ⟨n, hn⟩ : ∃ n : Nat, (a * 64 + b) * 64 + c = n := ⟨_, rfl⟩
              obtain rfl : nI = (n : Int) := by rw [hnI, ← hn]; rfl
              have hnl : (n : Int) < 262144 := by omega
              have hn0 : (0 : Int) ≤ (n : Int) := by omega
              obtain rfl : hI = 18 := hhI
              obtain rfl : fI = 0 := hfI
              (try clear hnI); (try clear hhI); (try clear hfI)
              have HN := Lib.hid hn; clear hn
              clear hE hs hdg hp hall h61
              go_wp2_with fail
              refine (idx64_no _ H_hs.out _).mono ?_
              rintro e w1 ⟨rfl, rfl⟩
              go_wp2
              go_ret3
              rw [← HA.out, HE.out]
              exact ⟨rfl, hbw⟩
      · obtain ⟨a, b, rfl⟩ := two_of vs hlen
        have la : a < 64 := hall a (by simp)
        have lb : b < 64 := hall b (by simp)
        cases hs : sv (s[i]'hlt) with
        | some v =>
          have h61I : (((s[i]'hlt).toNat : Int) == 61) = false := by rw [beq_eq_false_iff_ne]; intro e; exact sv_ne hs (UInt8.toNat_inj.1 (by show _ = 61; omega))
          have lv := sv_lt hs
          have hE : dgo acc [a, b] 1 i (s.data.toList.drop i) = ([], i, 30) := by rw [hdg]; exact dgo_none (by rw [hp]; simp [dstep, fin, fits, gb, hs, hp])
          have HE := Lib.hid hE; have H_hs := Lib.hid hs; have HP := Lib.hid hp
          have pI : (i : Int) % 4 = 3 := by omega
          have gI : ((3 : Int) == 0) = false := by decide
          obtain ⟨n, hn⟩ : ∃ n : Nat, a * 64 + b = n := ⟨_, rfl⟩
          obtain rfl : nI = (n : Int) := by rw [hnI, ← hn]; rfl
          have hnl : (n : Int) < 4096 := by omega
          have hn0 : (0 : Int) ≤ (n : Int) := by omega
          obtain rfl : hI = 12 := hhI
          obtain rfl : fI = 1 := hfI
          (try clear hnI); (try clear hhI); (try clear hfI)
          have HN := Lib.hid hn; clear hn
          clear hE hs hdg hp hall hlen
          go_wp2_with fail
          refine (idx64_yes _ _ H_hs.out _).mono ?_
          rintro e w1 ⟨rfl, rfl⟩
          go_wp2
          go_ret3
          rw [← HA.out, HE.out]
          exact ⟨rfl, hbw⟩
        | none =>
          by_cases h61 : s[i]'hlt = 61
          · have h61I : (((s[i]'hlt).toNat : Int) == 61) = true := by rw [h61]; rfl
            have h61e := h61
            have hE : dgo acc [a, b] 1 i (s.data.toList.drop i) = dgo (acc ++ gb [a, b]) [] 2 (i + 1) (s.data.toList.drop (i + 1)) := by rw [hdg]; exact dgo_some (by rw [hp]; simp [dstep, fin, fits, gb, h61e, sv_61])
            clear h61e
            have HE := Lib.hid hE; have H_hs := Lib.hid hs; have HP := Lib.hid hp; have H61 := Lib.hid h61
            have pI : (i : Int) % 4 = 3 := by omega
            have gI : ((3 : Int) == 0) = false := by decide
            obtain ⟨n, hn⟩ : ∃ n : Nat, a * 64 + b = n := ⟨_, rfl⟩
            obtain rfl : nI = (n : Int) := by rw [hnI, ← hn]; rfl
            have hnl : (n : Int) < 4096 := by omega
            have hn0 : (0 : Int) ≤ (n : Int) := by omega
            obtain rfl : hI = 12 := hhI
            obtain rfl : fI = 1 := hfI
            (try clear hnI); (try clear hhI); (try clear hfI)
            have q0 := dw_20 a b n hn
            obtain ⟨x0, hx0⟩ : ∃ x, b0 a b = x := ⟨_, rfl⟩
            rw [hx0] at q0
            have HX0 := Lib.hid hx0; have HN := Lib.hid hn; clear hx0 hn
            clear hE hs hdg hp hall h61 hlen
            go_wp2_with fail
            refine (idx64_no _ H_hs.out _).mono ?_
            rintro e w1 ⟨rfl, rfl⟩
            go_wp2
            refine wp_loop_rounds 2 ?_
            rw [rounds_succ]; go_wp2_with (at_builtin; refine wpList_append_own _ rfl (.tmp 92) (.tmp 97) 81 rfl w.heap.size 5 i0 (.int .u8 0) 1 1 Tryz.underlying81 hi hz0 hz1 hz2 rfl (by decide) _ _ _ rfl (hown.alloc _) ⟨wr.heap.size, 0, none⟩ 1 1 (Lib.byteCells [x0]) rfl rfl (cells_new _ _ _) (byteCells_oneCell _) ?d5 ?e5 ?f5 ?_)
            case d5 => unfold maxLen; omega
            case e5 => omega
            case f5 => simp; omega
            intro v1 w1 hI1 hg1 _
            rw [← Lib.byteCells_append] at hI1
            have hb1 := (hbw.alloc (by omega) _).grown hg1 (by simp; omega) (fun j hj => (hown.lt j hj).1)
            have hs1 := hb1.size
            clear hg1
            go_wp2
            rw [rounds_succ]; go_wp2
            go_roundw
            case rel => exact ⟨i + 1, acc ++ gb [a, b], [], 2, 0, 0, 2, by go_num, by omega, rfl, rfl, rfl, rfl, rfl, rfl, ⟨by simp, .inr (.inr ⟨.inr rfl, by have := HP.out; omega, rfl⟩)⟩, by rw [← HE.out]; exact HA.out, by simpa [gb, HX0.out] using hI1, by have := HP.out; simp [gb]; omega, hb1⟩
            case measure => simp [intOf]; omega
          · have h61I : (((s[i]'hlt).toNat : Int) == 61) = false := by rw [beq_eq_false_iff_ne]; intro e; exact h61 (UInt8.toNat_inj.1 (by show _ = 61; omega))
            have hE : dgo acc [a, b] 1 i (s.data.toList.drop i) = ([], i, 30) := by rw [hdg]; exact dgo_none (by rw [hp]; simp [dstep, fin, fits, gb, hs, h61])
            have HE := Lib.hid hE; have H_hs := Lib.hid hs; have HP := Lib.hid hp; have H61 := Lib.hid h61
            have pI : (i : Int) % 4 = 3 := by omega
            have gI : ((3 : Int) == 0) = false := by decide
            obtain ⟨n, hn⟩ : ∃ n : Nat, a * 64 + b = n := ⟨_, rfl⟩
            obtain rfl : nI = (n : Int) := by rw [hnI, ← hn]; rfl
            have hnl : (n : Int) < 4096 := by omega
            have hn0 : (0 : Int) ≤ (n : Int) := by omega
            obtain rfl : hI = 12 := hhI
            obtain rfl : fI = 1 := hfI
            (try clear hnI); (try clear hhI); (try clear hfI)
            have HN := Lib.hid hn; clear hn
            clear hE hs hdg hp hall h61 hlen
            go_wp2_with fail
            refine (idx64_no _ H_hs.out _).mono ?_
            rintro e w1 ⟨rfl, rfl⟩
            go_wp2
            go_ret3
            rw [← HA.out, HE.out]
            exact ⟨rfl, hbw⟩
      · rcases hfl with rfl | rfl
        · have hfl0 := hp
          have hE : dgo acc [] 1 i (s.data.toList.drop i) = ([], i, 30) := by rw [hdg]; exact dgo_none (by rw [hp]; simp [dstep, fin, fits, gb, hs, hp])
          have HE := Lib.hid hE
          have pI : (i : Int) % 4 = 0 := by omega
          have gI : ((0 : Int) == 0) = true := by decide
          obtain rfl : nI = 0 := hnI
          obtain rfl : hI = 0 := hhI
          obtain rfl : fI = 1 := hfI
          (try clear hnI); (try clear hhI); (try clear hfI)
          have hfz : (0 : Int) < 1 := by omega
          have HP := Lib.hid hp
          clear hE hdg hp hall hfl0
          go_wp2
          go_ret3
          rw [← HA.out, HE.out]
          exact ⟨rfl, hbw⟩
        · have hfl0 := hp
          have hE : dgo acc [] 2 i (s.data.toList.drop i) = ([], i, 30) := by rw [hdg]; exact dgo_none (by rw [hp]; simp [dstep, fin, fits, gb, hs, hp])
          have HE := Lib.hid hE
          have pI : (i : Int) % 4 = 0 := by omega
          have gI : ((0 : Int) == 0) = true := by decide
          obtain rfl : nI = 0 := hnI
          obtain rfl : hI = 0 := hhI
          obtain rfl : fI = 2 := hfI
          (try clear hnI); (try clear hhI); (try clear hfI)
          have hfz : (0 : Int) < 2 := by omega
          have HP := Lib.hid hp
          clear hE hdg hp hall hfl0
          go_wp2
          go_ret3
          rw [← HA.out, HE.out]
          exact ⟨rfl, hbw⟩
    · have hd : s.data.toList.drop i = [] := list_drop_all s i (by omega)
      have hi2 : i = s.size := by omega
      by_cases h4 : i % 4 = 0
      · have hE : dgo acc vs fl i (s.data.toList.drop i) = (acc, 0, 0) := by rw [hd]; simp only [dgo, if_pos h4]
        have hq : (((s.size : Int) % 4) != 0) = false := by rw [bne_eq_false_iff_eq]; omega
        have hcv := run_str_own wr 81 5 Tryz.underlying81 Tryz.underlying5 hown 9 Tryz.underlying9
        have HE := Lib.hid hE
        clear hd hi2 h4 hE hnI hhI hfI hinv
        go_wp2
        go_ret3
        rw [← HA.out, HE.out]
        exact ⟨rfl, hbw⟩
      · have hE : dgo acc vs fl i (s.data.toList.drop i) = ([], i, 30) := by rw [hd]; simp only [dgo, if_neg h4]
        have hq : (((s.size : Int) % 4) != 0) = true := by rw [bne_iff_ne]; omega
        have HE := Lib.hid hE; have HI2 := Lib.hid hi2
        clear hd hi2 h4 hE hnI hhI hfI hinv
        go_wp2
        go_ret3
        rw [← HA.out, HE.out, HI2.out]
        exact ⟨rfl, hbw⟩
end Go.Proofs.YtdlpbpikhmciaaaGreatDoor
