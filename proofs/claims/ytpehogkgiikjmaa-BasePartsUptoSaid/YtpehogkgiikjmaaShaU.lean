/- The walk of (*Sum).Write: the text's bytes taken one by one. Conditions: fewer than 2^62 bytes in all. -/
import Derived.Test.YtpehogkgiikjmaaShaT
import Derived.Test.YtpehogkgiikjmaaShaQ
namespace Go.Proofs.Ytpehogkgiikjmaa
open Go.RowKit
set_option linter.unusedSimpArgs false
set_option linter.unusedVariables false
theorem sizeU8 (w : World) : (Go.sizeOf 5).run Try.prog w = .ok 1 w := by kernel_rfl
theorem sliceR (x o : Nat) (ho : o < 64) (w : World) : (Instr.sliceAt 61 (.pointer (some ⟨x, 5, none⟩)) (some (.int .i64 (o : Int))) none none).run Try.prog w = .ok (.slice (some ⟨x, 5 + o, none⟩) (64 - o) (64 - o)) w := by
  have hal : Program.arrayLen Try.prog 61 = 64 := by kernel_rfl
  have hsz : (sizeOf (Program.elem Try.prog 61)).run Try.prog w = .ok 1 w := by kernel_rfl
  rw [run_sliceAt_array_l w 61 ⟨x, 5, none⟩ (by kernel_rfl) .i64 (o : Int) (by omega) (by rw [hal]; omega), hal, hsz]
  simp only [Result.andThen, slicedAt]
  rw [if_neg (by omega)]
  have e1 : (o : Int).toNat = o := by omega
  rw [e1, Nat.mul_one, show (⟨x, 5, none⟩ : Addr).add o = ⟨x, 5 + o, none⟩ from by unfold Addr.add; split <;> simp_all]
set_option maxRecDepth 1000000 in
set_option maxHeartbeats 4000000 in
theorem write_any (x : Nat) (s : ByteArray) (st : St) (w : World) (hm : st.m.length = 64) (hn : st.n + s.size ≤ 4611686018427387904) (hx : w.rowIs x 63 70 (stCell st)) :
    Calls Try.prog 25 #[.pointer (some ⟨x, 0, none⟩), .string s] w fun e w' => e = .returned (.tuple #[]) ∧ w'.rowIs x 63 70 (stCell (feed st s.data.toList)) ∧ w.grownBy w' (some x) := by
  go_enter Try.func25, Try.ntmps25
  go_wp2
  go_loopw [1] (fun v wr => ∃ (d : Nat) (t : ByteArray), v = .string t ∧ d ≤ s.size ∧ t.data.toList = s.data.toList.drop d ∧ wr.rowIs x 63 70 (stCell (feed st (s.data.toList.take d))) ∧ w.grownBy wr (some x))
    (fun v _ => match v with | .string t => t.size | _ => 0)
  case atStart => exact ⟨0, s, rfl, Nat.zero_le _, rfl, hx, World.grownBy.refl _ _⟩
  case round =>
    obtain ⟨d, t, rfl, hd, ht, hr, hg⟩ := hrel
    have hts : t.size = s.size - d := by rw [← size_list t, ht, List.length_drop, size_list]
    by_cases hlt : t.size = 0
    · have hte : t.toList.isEmpty = true := by
        rw [ByteArray.toList_eq]
        cases hl : t.data.toList with
        | nil => rfl
        | cons c r => have := size_list t; rw [hl, hlt] at this; simp at this
      have hd2 : d = s.size := by omega
      rw [hd2, List.take_of_length_le (by rw [size_list]; omega)] at hr
      have HR := Lib.hid hr
      clear hr ht hts hlt hd2 hm hn hx
      go_wp2
      go_returns
      exact ⟨rfl, HR.out, hg⟩
    · obtain ⟨⟨h, m, n⟩, hst⟩ : ∃ q, feed st (s.data.toList.take d) = q := ⟨_, rfl⟩
      rw [hst] at hr
      have hml : m.length = 64 := by have := feed_m st (s.data.toList.take d); rw [hst] at this; simpa [hm] using this
      have hnn : n = st.n + d := by have := feed_n st (s.data.toList.take d); rw [hst, List.length_take, size_list] at this; simp only at this; omega
      obtain ⟨o, ho⟩ : ∃ o, n % 64 = o := ⟨_, rfl⟩
      have ho64 : o < 64 := by omega
      have hrm : (n : Int).tmod 64 = (o : Int) := by rw [Int.tmod_eq_emod_of_nonneg (by omega)]; omega
      have csz := sum_size hr
      have hsl := sliceR x o ho64
      have hnp : t.toList.isEmpty = false := by
        rw [ByteArray.toList_eq]
        cases hl : t.data.toList with
        | nil => exact absurd (by rw [← size_list, hl]; rfl) hlt
        | cons => rfl
      obtain ⟨k, hk⟩ : ∃ k, Nat.min t.size (64 - o) = k := ⟨_, rfl⟩
      have hk1 : k ≤ t.size := by rw [← hk]; exact Nat.min_le_left _ _
      have hk2 : k ≤ 64 - o := by rw [← hk]; exact Nat.min_le_right _ _
      have hk0 : 0 < k := by rw [← hk]; exact Nat.lt_min.2 ⟨by omega, by omega⟩
      have hcp := run_copy_min (P := Try.prog) wr.drew 27 9 3 5 x (5 + o) (64 - o) (64 - o) t Try.underlying27 sizeU8 (fun j hj => by rw [hr.drew.cell (by rw [hk] at hj; omega)]; rfl) (fun j _ => hr.drew.frozen _)
      rw [hk] at hcp
      obtain ⟨ch, hch⟩ : ∃ ch, t.data.toList.take k = ch := ⟨_, rfl⟩
      have hcl : ch.length = k := by rw [← hch, List.length_take, size_list]; omega
      rw [hch] at hcp
      obtain ⟨W1, hW1⟩ : ∃ W1, wr.drew.setCells x (5 + o) (ch.map fun c => Value.int .u8 (c.toNat : Int)) = W1 := ⟨_, rfl⟩
      have hr1 : W1.rowIs x 63 70 (sumCell h (lay m o ch) n) := by rw [← hW1]; exact sum_lay hr.drew o ch hml (by omega)
      have hg1 : w.grownBy W1 (some x) := by rw [← hW1]; exact gbCells (gbDraws hg 1) _
      rw [hW1] at hcp
      have csz1 := sum_size hr1
      have cf1 := hr1.frozen 69
      obtain ⟨N, hN⟩ : ∃ N, n + k = N := ⟨_, rfl⟩
      obtain ⟨q, hq⟩ : ∃ q, N % 64 = q := ⟨_, rfl⟩
      have csz2 : (W1.setCell ⟨x, 69, none⟩ (.int .i64 (N : Int))).cell? ⟨x, 69, none⟩ = some (.int .i64 (N : Int)) := sum_size (sum_sized hr1 N)
      have hrm2 : (N : Int).tmod 64 = (q : Int) := by rw [Int.tmod_eq_emod_of_nonneg (by omega)]; omega
      have hadd : ((n : Int) + (k : Int)) = (N : Int) := by omega
      have hwr : IntKind.i64.wrap (N : Int) = (N : Int) := by rw [IntKind.wrap_i64]; omega
      have hfc := feed_chunk ⟨h, m, n⟩ ch hml (by intro e; rw [e] at hcl; simp at hcl; omega) (by show n % 64 + _ ≤ 64; omega)
      have hpre : s.data.toList.take (d + k) = s.data.toList.take d ++ ch := by rw [← hch, ht, List.take_add]
      have hfe : feed st (s.data.toList.take (d + k)) = feed ⟨h, m, n⟩ ch := by rw [hpre, feed_append, hst]
      have hst2 : ∃ t2 : ByteArray, t.extract k t.size = t2 ∧ t2.data.toList = s.data.toList.drop (d + k) ∧ t2.size < t.size := by
        have e : (t.extract k t.size).data.toList = s.data.toList.drop (d + k) := by
          rw [ByteArray.data_extract, Array.toList_extract, List.extract_eq_take_drop, ht, List.drop_drop]
          exact List.take_of_length_le (by rw [List.length_drop, size_list]; omega)
        refine ⟨_, rfl, e, ?_⟩
        rw [← size_list (t.extract k t.size), e, List.length_drop, size_list]
        omega
      obtain ⟨t2, ht2, ht3, ht4⟩ := hst2
      have HR := Lib.hid hr; have HQ := Lib.hid (And.intro hts (And.intro ht (And.intro hst (And.intro hml hnn)))); have HO := Lib.hid ho; have HLT := Lib.hid hlt; have HHN := Lib.hid hn; have HHM := Lib.hid hm
      have HR1 := Lib.hid hr1; have HF := Lib.hid (And.intro hfc hfe); have HT := Lib.hid ht3; have HK := Lib.hid (And.intro hk1 (And.intro hk2 hk0)); have HCL := Lib.hid (And.intro hcl (And.intro hch (And.intro hN hq)))
      have hkz : (k : Int) ≤ (t.size : Int) := by omega
      have hk00 : (0 : Int) ≤ (k : Int) := by omega
      have hdk : d + k ≤ s.size := by omega
      have ht4' := ht4
      have HD := Lib.hid (And.intro hdk ht4')
      have hsum := sum_sized hr1 N
      have hg2 := gbOwn hg1 (a := ⟨x, 69, none⟩) rfl (.int .i64 (N : Int))
      have HS := Lib.hid (And.intro hsum hg2)
      clear hr hts ht hst hml hnn ho hlt hn hm hx hr1 hfc hfe hpre ht3 hW1 hk hk1 hk2 hk0 hcl hch hN hdk ht4' hsum hg1 hg2 hg ht4 hd
      by_cases hq0 : q = 0
      · have hq0' : ((q : Int) == 0) = true := by simp [hq0]
        have HQ0 := Lib.hid hq0; clear hq0
        go_wp2_with fail
        go_still_tail 10, (by kernel_rfl)
        go_wp2_with (go_at_call 40; refine (turn_any x h (lay m o ch) N _ HS.out.1).mono ?_)
        rintro e w2 ⟨rfl, hr2, hg2⟩
        go_wp2
        go_roundw
        case rel =>
          obtain ⟨hfc, hfe⟩ := HF.out
          obtain ⟨hcl, hch, hN, hq⟩ := HCL.out
          refine ⟨d + k, t2, rfl, HD.out.1, HT.out, ?_, HS.out.2.trans hg2⟩
          rw [hfe, hfc, hcl]
          show w2.rowIs x 63 70 (sumCell _ _ _)
          rw [if_pos (by show (n + k) % 64 = 0; rw [hN, hq]; exact HQ0.out), HO.out]
          show w2.rowIs x 63 70 (sumCell _ _ (n + k))
          rw [hN]
          exact hr2
        case measure => exact HD.out.2
      · have hq0' : ((q : Int) == 0) = false := by simp [hq0]
        have HQ0 := Lib.hid hq0; clear hq0
        go_wp2_with fail
        go_still_tail 10, (by kernel_rfl)
        go_wp2
        go_roundw
        case rel =>
          obtain ⟨hfc, hfe⟩ := HF.out
          obtain ⟨hcl, hch, hN, hq⟩ := HCL.out
          refine ⟨d + k, t2, rfl, HD.out.1, HT.out, ?_, HS.out.2⟩
          rw [hfe, hfc, hcl]
          show World.rowIs _ x 63 70 (sumCell _ _ _)
          rw [if_neg (by show ¬ (n + k) % 64 = 0; rw [hN, hq]; exact HQ0.out), HO.out]
          show World.rowIs _ x 63 70 (sumCell _ _ (n + k))
          rw [hN]
          exact HS.out.1
        case measure => exact HD.out.2
end Go.Proofs.Ytpehogkgiikjmaa
