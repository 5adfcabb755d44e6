/- The walks of base.Unhex and its reference: they return the plain function unR; nothing that was there turns. Conditions: no text is longer than memory. -/
import Derived.Test.YtpehogkgiikjmaaShelf
import Derived.Test.YtpehogkgiikjmaaBuild
import Derived.Test.YtpehogkgiikjmaaUnhexP
import Derived.Test.YtpehogkgiikjmaaReg
namespace Go.Proofs.Ytpehogkgiikjmaa
open Go.RowKit
set_option linter.unusedSimpArgs false
set_option linter.unusedVariables false
theorem idx16_yes (c : UInt8) (h : (dv c).isSome = true) (w : World) : Calls Try.prog 36 #[.string ⟨#[48, 49, 50, 51, 52, 53, 54, 55, 56, 57, 97, 98, 99, 100, 101, 102]⟩, .int .u8 (c.toNat : Int)] w fun e w' => e = .returned (.int .i64 (dvn c : Nat)) ∧ w = w' := by
  refine (Try.strings_IndexByte _ _ _).mono ?_
  rintro e w' ⟨rfl, rfl⟩
  refine ⟨?_, rfl⟩
  have h1 : ((c.toNat : Int).toNat.toUInt8) = c := by simp
  rw [h1]
  show Ending.returned (.int .i64 (Lib.indexByte dig16 c)) = _
  rw [idx16, dv_some c h]
theorem idx16_no (c : UInt8) (h : (dv c).isSome = false) (w : World) : Calls Try.prog 36 #[.string ⟨#[48, 49, 50, 51, 52, 53, 54, 55, 56, 57, 97, 98, 99, 100, 101, 102]⟩, .int .u8 (c.toNat : Int)] w fun e w' => e = .returned (.int .i64 (-1)) ∧ w = w' := by
  refine (Try.strings_IndexByte _ _ _).mono ?_
  rintro e w' ⟨rfl, rfl⟩
  refine ⟨?_, rfl⟩
  have h1 : ((c.toNat : Int).toNat.toUInt8) = c := by simp
  rw [h1]
  show Ending.returned (.int .i64 (Lib.indexByte dig16 c)) = _
  rw [idx16]
  cases hd : dv c with
  | none => rfl
  | some v => rw [hd] at h; cases h
theorem tup3 {a a' b b' c c' : Value} (h1 : a = a') (h2 : b = b') (h3 : c = c') : Ending.returned (.tuple #[a, b, c]) = .returned (.tuple #[a', b', c']) := by rw [h1, h2, h3]
set_option maxRecDepth 100000 in
set_option maxHeartbeats 1000000 in
theorem unhex_any (s : ByteArray) (w : World) (hs : s.size ≤ 140737488351232) :
    Calls Try.prog 20 #[.string s] w fun e w' => e = .returned (.tuple #[.string ⟨(unR s.data.toList).1.toArray⟩, .int .i64 (unR s.data.toList).2.1, .int .i64 (unR s.data.toList).2.2]) ∧ Below w.heap.size w w' := by
  obtain ⟨i0, hi, hz0, hz1, hz2⟩ := info_parts infoByte
  have hsl := size_list s
  go_enter Try.func20, Try.ntmps20
  go_wp2
  go_loopw [5, 6, 11] (fun v hgh i wr => ∃ (k hv : Nat), i = .int .i64 k ∧ k ≤ s.size ∧ hgh = .int .i64 hv ∧ hv < 16 ∧ digs (s.data.toList.take k) = true ∧ (k % 2 = 1 → ∃ c, s.data.toList.take k = s.data.toList.take (k - 1) ++ [c] ∧ dvn c = hv) ∧ wr.ownsRow w.heap.size 5 1 v (unB (s.data.toList.take k)).length (Lib.byteCells (unB (s.data.toList.take k))) ∧ Below w.heap.size w wr)
    (fun _ _ i _ => s.size - (intOf i).toNat)
  case atStart => exact ⟨0, 0, rfl, Nat.zero_le _, rfl, by omega, rfl, by omega, World.ownsRow_nil _ _ _ _, Below.refl _ w⟩
  case round =>
    obtain ⟨k, hv, rfl, hk, rfl, hvl, hdg, hodd, hI, hbw⟩ := hrel
    have hbs := hbw.size
    by_cases hlt : k < s.size
    · have ht := take_get s k hlt
      have htl : (s.data.toList.take k).length = k := by rw [List.length_take, hsl]; omega
      cases hd : (dv (s[k]'hlt)).isSome with
      | false =>
        have hR := unR_bad s.data.toList k (by omega) hdg hd
        have HR := Lib.hid hR; have HD := Lib.hid hd; have HG := Lib.hid hdg; have HO := Lib.hid hodd; clear hR hd hdg hodd ht htl hsl
        go_wp2_with fail
        refine (idx16_no _ HD.out _).mono ?_
        rintro e w1 ⟨rfl, rfl⟩
        go_wp2
        go_ret3
        rw [HR.out]
        exact ⟨rfl, hbw⟩
      | true =>
        have hdg2 : digs (s.data.toList.take (k + 1)) = true := by rw [ht, digs_snoc, hdg, hd]; rfl
        have hvl2 := dvn_lt (s[k]'hlt)
        have hle := unB_len (s.data.toList.take k)
        rw [htl] at hle
        rcases Nat.mod_two_eq_zero_or_one k with hp | hp
        · have hB : unB (s.data.toList.take (k + 1)) = unB (s.data.toList.take k) := by rw [ht, unB_odd1 _ _ (by rw [htl]; exact hp)]
          have hpI : (((k : Int) % 2) == 1) = false := by rw [beq_eq_false_iff_ne]; omega
          have HD := Lib.hid hd; have HG := Lib.hid hdg; have HO := Lib.hid hodd; have HB := Lib.hid hB; have HT := Lib.hid ht; have HG2 := Lib.hid hdg2; have HP := Lib.hid hp; clear hd hdg hodd hB ht htl hsl hdg2 hp
          go_wp2_with fail
          refine (idx16_yes _ HD.out _).mono ?_
          rintro e w1 ⟨rfl, rfl⟩
          go_wp2
          go_roundw
          case rel => exact ⟨k + 1, dvn (s[k]'hlt), by go_num, by omega, rfl, hvl2, HG2.out, fun _ => ⟨s[k]'hlt, by rw [HT.out]; rfl, rfl⟩, by rw [HB.out]; exact hI, hbw⟩
          case measure => simp [intOf]; omega
        · obtain ⟨c, hc, hcv⟩ := hodd hp
          have hB : unB (s.data.toList.take (k + 1)) = unB (s.data.toList.take k) ++ [UInt8.ofNat (hv * 16 + dvn (s[k]'hlt))] := by
            have hl1 : (s.data.toList.take (k - 1)).length = k - 1 := by rw [List.length_take, hsl]; omega
            rw [ht, hc, unB_two _ _ _ (by rw [hl1]; omega), unB_odd1 _ _ (by rw [hl1]; omega), hcv]
          have hpI : (((k : Int) % 2) == 1) = true := by rw [beq_iff_eq]; omega
          obtain ⟨dk, hdk⟩ : ∃ n, dvn (s[k]'hlt) = n := ⟨_, rfl⟩
          rw [hdk] at hB hvl2
          have e1 := u_or hv dk hvl hvl2
          have e2 := u_wrap (hv * 16 + dk) (by omega)
          generalize hv * 16 + dk = n at hB e1 e2
          generalize UInt8.ofNat n = cx at hB e2
          have HDK := Lib.hid hdk; clear hdk
          have HD := Lib.hid hd; have HG := Lib.hid hdg; have HB := Lib.hid hB; have HT := Lib.hid ht; have HG2 := Lib.hid hdg2; have HP := Lib.hid hp; clear hd hdg hodd hB ht htl hsl hdg2 hp hc hcv
          go_wp2_with fail
          refine (idx16_yes _ HD.out _).mono ?_
          rintro e w1 ⟨rfl, rfl⟩
          rw [HDK.out]
          go_wp2_with (at_builtin; refine wpList_append_own _ rfl (.tmp 24) (.tmp 30) 27 rfl w.heap.size 5 i0 (.int .u8 0) 1 1 Try.underlying27 hi hz0 hz1 hz2 rfl (by decide) _ _ _ rfl (hI.alloc _) ⟨wr.heap.size, 0, none⟩ 1 1 (Lib.byteCells [cx]) rfl rfl (cells_new _ _ _) (byteCells_oneCell _) ?d1 ?d2 ?d3 ?_)
          case d1 => unfold maxLen; omega
          case d2 => omega
          case d3 => simp; omega
          intro v1 w1 hI1 hg1 _
          rw [← Lib.byteCells_append] at hI1
          have hb1 := (hbw.alloc (by omega) _).grown hg1 (by simp; omega) (fun j hj => (hI.lt j hj).1)
          clear hg1
          go_wp2
          go_roundw
          case rel =>
            refine ⟨k + 1, dk, by go_num, by omega, rfl, hvl2, HG2.out, fun h => ?_, ?_, hb1⟩
            · have := HP.out; omega
            · rw [HB.out]; simpa using hI1
          case measure => simp [intOf]; omega
    · have hall : s.data.toList.take k = s.data.toList := List.take_of_length_le (by omega)
      rw [hall] at hdg hI
      rcases Nat.mod_two_eq_zero_or_one s.size with hp | hp
      · have hR := unR_ok s.data.toList hdg (by omega)
        have hpI : (((s.size : Int) % 2) == 1) = false := by rw [beq_eq_false_iff_ne]; omega
        have hcv := run_str_own wr 27 5 Try.underlying27 Try.underlying5 hI 9 Try.underlying9
        have HR := Lib.hid hR; have HG := Lib.hid hdg; have HO := Lib.hid hodd; have HP := Lib.hid hp; clear hR hdg hodd hsl hp hall
        go_wp2
        go_ret3
        rw [HR.out]
        exact ⟨rfl, hbw⟩
      · have hR := unR_odd s.data.toList hdg (by omega)
        have hpI : (((s.size : Int) % 2) == 1) = true := by rw [beq_iff_eq]; omega
        have HR := Lib.hid hR; have HG := Lib.hid hdg; have HO := Lib.hid hodd; have HP := Lib.hid hp; have HL := Lib.hid hsl; clear hR hdg hodd hsl hp hall
        go_wp2
        go_ret3
        rw [HR.out]
        exact ⟨tup3 rfl (by rw [HL.out]; rfl) rfl, hbw⟩
end Go.Proofs.Ytpehogkgiikjmaa
