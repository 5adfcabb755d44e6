/- The walk of turnpikelaw03.BaseBegins: it returns true; nothing that was there turns. Conditions: at most 2^21 bytes. -/
import Derived.Test.YtpehogkgiikjmaaLawEncodes
import Derived.Test.YtpehogkgiikjmaaDec
import Derived.Test.YtpehogkgiikjmaaReg
import Derived.Test.YtpehogkgiikjmaaBeginsP
namespace Go.Proofs.Ytpehogkgiikjmaa
open Go.RowKit
set_option linter.unusedSimpArgs false
set_option linter.unusedVariables false
def okUpto (l : List UInt8) (at_ : Nat) : Nat → Bool
  | 0 => false
  | k + 1 => okUpto l at_ k || ((decR (l.take at_ ++ endsL.getD k [])).2.2 == 0)
theorem okUpto_mem (l : List UInt8) (a : Nat) : ∀ k j, j < k → (decR (l.take a ++ endsL.getD j [])).2.2 = 0 → okUpto l a k = true := by
  intro k
  induction k with
  | zero => intro j h _; omega
  | succ k ih =>
    intro j hj hd
    unfold okUpto
    by_cases e : j = k
    · subst e; rw [hd]; simp
    · rw [ih j (by omega) hd]; rfl
def endsC : Array Value := #[.string ⟨#[]⟩, .string ⟨#[61]⟩, .string ⟨#[61, 61]⟩, .string ⟨#[65]⟩, .string ⟨#[65, 61]⟩, .string ⟨#[65, 61, 61]⟩, .string ⟨#[65, 65]⟩, .string ⟨#[65, 65, 61]⟩, .string ⟨#[65, 65, 61, 61]⟩, .string ⟨#[65, 65, 65]⟩, .string ⟨#[65, 65, 65, 65]⟩]
theorem endsC_at (k : Nat) (h : k < 11) : endsC[k]? = some (.string ⟨(endsL.getD k []).toArray⟩) := by
  match k, h with
  | 0, _ => rfl
  | 1, _ => rfl
  | 2, _ => rfl
  | 3, _ => rfl
  | 4, _ => rfl
  | 5, _ => rfl
  | 6, _ => rfl
  | 7, _ => rfl
  | 8, _ => rfl
  | 9, _ => rfl
  | 10, _ => rfl
  | k + 11, h => omega
theorem ends_len (k : Nat) : (endsL.getD k []).length ≤ 4 := by
  match k with
  | 0 => decide
  | 1 => decide
  | 2 => decide
  | 3 => decide
  | 4 => decide
  | 5 => decide
  | 6 => decide
  | 7 => decide
  | 8 => decide
  | 9 => decide
  | 10 => decide
  | k + 11 => simp [endsL]
theorem cat_list (s : ByteArray) (a : Nat) (E : List UInt8) : (s.extract 0 a ++ (⟨E.toArray⟩ : ByteArray)).data.toList = s.data.toList.take a ++ E := by
  rw [ByteArray.data_append, Array.toList_append, Lib.extract_data]; simp
theorem cat_size (s : ByteArray) (a : Nat) (E : List UInt8) (h : a ≤ s.size) : (s.extract 0 a ++ (⟨E.toArray⟩ : ByteArray)).size = a + E.length := by
  rw [← size_list, cat_list, List.length_append, List.length_take, size_list]; omega
set_option maxRecDepth 100000 in
set_option maxHeartbeats 2000000 in
theorem baseBegins_any (s : ByteArray) (w : World) (hs : s.size ≤ 2097152) : Calls Try.prog 7 #[.string s] w fun e w' => e = .returned (.bool true) ∧ Below w.heap.size w w' := by
  have hsl := size_list s
  by_cases he : (decR s.data.toList).2.2 = 0
  · have i1 : ((((decR s.data.toList).2.2 : Nat) : Int) == 0) = true := by rw [he]; rfl
    have HE := Lib.hid he; have HL := Lib.hid hsl; clear he hsl
    go_enter Try.func7, Try.ntmps7
    go_wp2_with fail
    refine (decode_any _ _ (by omega)).mono ?_
    rintro e w1 ⟨rfl, hb1⟩
    go_wp2_with fail
    refine (awake_any _).mono ?_
    rintro e w5 ⟨rfl, hb5⟩
    go_wp2
    go_ret
    exact ⟨rfl, hb1.trans (hb5.mono hb1.size)⟩
  · have i1 : ((((decR s.data.toList).2.2 : Nat) : Int) == 0) = false := by rw [beq_eq_false_iff_ne]; omega
    obtain ⟨k1, ⟨j, hj, hgood⟩, hbad⟩ := decR_err s.data.toList he
    have hall := okUpto_mem s.data.toList (decR s.data.toList).2.1 11 j hj hgood
    rw [hsl] at k1 hbad
    obtain ⟨a, ha⟩ : ∃ a, (decR s.data.toList).2.1 = a := ⟨_, rfl⟩
    rw [ha] at k1 hgood hbad hall
    have HE := Lib.hid he; have HL := Lib.hid hsl; have HG := Lib.hid hgood; have HB := Lib.hid hbad; have HALL := Lib.hid hall; clear he hsl hgood hbad hall
    have a0 : decide ((a : Int) < 0) = false := decide_eq_false (by omega)
    have a3 : decide (s.size < a) = false := decide_eq_false (by omega)
    have a1 : (a : Int) ≤ (s.size : Int) := by omega
    go_enter Try.func7, Try.ntmps7
    go_wp2_with fail
    refine (decode_any _ _ (by omega)).mono ?_
    rintro e w1 ⟨rfl, hb1⟩
    rw [ha]
    have hbs1 := hb1.size
    have HAA := Lib.hid ha; clear ha
    go_wp2
    go_loopw [7, 8] (fun g x wr => ∃ (k : Nat) (gB : Bool), x = .int .i64 k ∧ k ≤ 11 ∧ g = .bool gB ∧ gB = okUpto s.data.toList a k ∧ wr.heap[w1.heap.size]? = some (.cells endsC 9 (0, 0)) ∧ Below w.heap.size w wr) (fun _ x _ => 11 - (intOf x).toNat)
    case atStart => exact ⟨0, false, rfl, by omega, rfl, rfl, heap_alloc_new w1 _, hb1.alloc (by omega) _⟩
    case round =>
      obtain ⟨k, gB, rfl, hk, rfl, hgB, hcells, hbw⟩ := hrel
      have hlt := (Array.getElem?_eq_some_iff.1 hcells).1
      by_cases hk11 : k < 11
      · have hcell : wr.cell? ⟨w1.heap.size, k, none⟩ = some (.string ⟨(endsL.getD k []).toArray⟩) := by rw [Lib.cell_of_heap hcells]; exact endsC_at k hk11
        have hel := ends_len k
        have hgn : okUpto s.data.toList a (k + 1) = (gB || ((decR (s.data.toList.take a ++ endsL.getD k [])).2.2 == 0)) := by rw [hgB]; rfl
        have hcl := cat_list s a (endsL.getD k [])
        have hcs := cat_size s a (endsL.getD k []) k1
        generalize endsL.getD k [] = E at hcell hel hgn hcl hcs
        have esz : (⟨E.toArray⟩ : ByteArray).size = E.length := by rw [← size_list]
        have HGN := Lib.hid hgn; have HCL := Lib.hid hcl; have HGB := Lib.hid hgB; have HC := Lib.hid hcells; have HCS := Lib.hid hcs; clear hgn hcl hgB hcells hcs
        have z0 : (0 : Int) ≤ (k : Int) := by omega
        have z1 : (k : Int) < 11 := by omega
        have z2 : (0 : Int) ≤ (a : Int) := by omega
        go_wp2
        refine wp_region_text [(0, true), (1, true), (2, true), (3, true), (4, true), (5, true), (6, false), (7, true), (8, false), (9, true), (10, true), (11, true), (12, true), (13, true), (14, true), (15, true)] (by kernel_rfl) (by kernel_rfl) (by kernel_rfl) (by kernel_rfl) ?_
        repeat (refine wpTx_take rfl (by rfl) (v := ?_) ?_ ?_; rotate_left; · (intro w; go_simp; with_reducible rfl))
        refine wpTx_step rfl (fun K hK => ?_)
        go_simp
        refine hK _ _ ?_
        clear hK K
        have zz : ¬ 9223372036854775807 < a + E.length := by omega
        have zz2 : ¬ 9223372036854775807 < min (a + 1) s.size + E.length := by omega
        repeat (refine wpTx_take rfl (by rfl) (v := ?_) ?_ ?_; rotate_left; · (intro w; go_simp; with_reducible rfl))
        refine wpTx_step rfl (fun K hK => ?_)
        go_simp
        refine (decode_any _ _ (by rw [HCS.out]; omega)).mono ?_
        rintro e w2 ⟨rfl, hb2⟩
        refine hK _ _ ?_
        clear hK K
        rw [HCL.out]
        repeat (refine wpTx_take rfl (by rfl) (v := ?_) ?_ ?_; rotate_left; · (intro w; go_simp; with_reducible rfl))
        refine wpTx_nil ?_
        go_simp
        have hbw2 := (hbw.drew).trans (hb2.mono (by have := hbw.size; simpa using this))
        have hcells2 : w2.heap[w1.heap.size]? = some (.cells endsC 9 (0, 0)) := (hb2.block _ (by simpa using hlt)).trans HC.out
        have hcell2 : w2.cell? ⟨w1.heap.size, k, none⟩ = some (.string ⟨E.toArray⟩) := by
          have h0 : wr.drew.cell? ⟨w1.heap.size, k, none⟩ = some (.string ⟨E.toArray⟩) := hcell
          exact (hb2.cell (p := ⟨w1.heap.size, k, none⟩) (by simpa using hlt)).trans h0
        have HC2 := Lib.hid hcells2; clear hcells2 hcell
        generalize decR (s.data.toList.take a ++ E) = D1 at HGN
        by_cases hr : D1.2.2 = 0
        · have iR : (((D1.2.2 : Nat) : Int) == 0) = true := by rw [hr]; rfl
          have hg2 : okUpto s.data.toList a (k + 1) = true := by rw [HGN.out, hr]; simp
          have HR := Lib.hid hr; have HG2 := Lib.hid hg2; clear hr hg2
          by_cases has : a < s.size
          · have hcl := cat_list s (a + 1) E
            have hcs := cat_size s (a + 1) E (by omega)
            have hb := HB.out has E
            have HCL2 := Lib.hid hcl; have HCS2 := Lib.hid hcs; clear hcl hcs
            have iB : ((((decR (s.data.toList.take (a + 1) ++ E)).2.2 : Nat) : Int) == 0) = false := by rw [beq_eq_false_iff_ne]; omega
            have HBB := Lib.hid hb; clear hb
            have z3 : (0 : Int) ≤ (a : Int) + 1 := by omega
            have z4 : (a : Int) + 1 ≤ (s.size : Int) := by omega
            have z5 : IntKind.i64.wrap ((a : Int) + 1) = (a : Int) + 1 := IntWalk.i64_in _ (by omega)
            have z6 : ((a : Int) + 1).toNat = a + 1 := by omega
            go_wp2
            refine wp_region_text [(0, true), (1, true), (2, true), (3, true), (4, true), (5, true), (6, true), (7, false), (8, true), (9, false), (10, true), (11, true), (12, true), (13, true), (14, true), (15, true), (16, true)] (by kernel_rfl) (by kernel_rfl) (by kernel_rfl) (by kernel_rfl) ?_
            repeat (refine wpTx_take rfl (by rfl) (v := ?_) ?_ ?_; rotate_left; · (intro w; go_simp; with_reducible rfl))
            refine wpTx_step rfl (fun K hK => ?_)
            go_simp
            refine hK _ _ ?_
            clear hK K
            repeat (refine wpTx_take rfl (by rfl) (v := ?_) ?_ ?_; rotate_left; · (intro w; go_simp; with_reducible rfl))
            refine wpTx_step rfl (fun K hK => ?_)
            go_simp
            refine (decode_any _ _ (by rw [HCS2.out]; omega)).mono ?_
            rintro e w3 ⟨rfl, hb3⟩
            refine hK _ _ ?_
            clear hK K
            rw [HCL2.out]
            repeat (refine wpTx_take rfl (by rfl) (v := ?_) ?_ ?_; rotate_left; · (intro w; go_simp; with_reducible rfl))
            refine wpTx_nil ?_
            go_simp
            go_wp2
            go_roundw
            case rel => exact ⟨k + 1, true, by go_num, by omega, rfl, HG2.out.symm, (hb3.block _ (by have := hb2.size; simp at this ⊢; omega)).trans HC2.out, (hbw2.drew).trans (hb3.mono (by have := hbw2.size; simpa using this))⟩
            case measure => simp [intOf]; omega
          · go_wp2
            go_roundw
            case rel => exact ⟨k + 1, true, by go_num, by omega, rfl, HG2.out.symm, HC2.out, hbw2⟩
            case measure => simp [intOf]; omega
        · have iR : (((D1.2.2 : Nat) : Int) == 0) = false := by rw [beq_eq_false_iff_ne]; omega
          have hg2 : okUpto s.data.toList a (k + 1) = gB := by rw [HGN.out, beq_false_of_ne hr]; simp
          have HR := Lib.hid hr; have HG2 := Lib.hid hg2; clear hr hg2
          by_cases has : a < s.size
          · have hcl := cat_list s (a + 1) E
            have hcs := cat_size s (a + 1) E (by omega)
            have hb := HB.out has E
            have HCL2 := Lib.hid hcl; have HCS2 := Lib.hid hcs; clear hcl hcs
            have iB : ((((decR (s.data.toList.take (a + 1) ++ E)).2.2 : Nat) : Int) == 0) = false := by rw [beq_eq_false_iff_ne]; omega
            have HBB := Lib.hid hb; clear hb
            have z3 : (0 : Int) ≤ (a : Int) + 1 := by omega
            have z4 : (a : Int) + 1 ≤ (s.size : Int) := by omega
            have z5 : IntKind.i64.wrap ((a : Int) + 1) = (a : Int) + 1 := IntWalk.i64_in _ (by omega)
            have z6 : ((a : Int) + 1).toNat = a + 1 := by omega
            go_wp2
            refine wp_region_text [(0, true), (1, true), (2, true), (3, true), (4, true), (5, true), (6, true), (7, false), (8, true), (9, false), (10, true), (11, true), (12, true), (13, true), (14, true), (15, true), (16, true)] (by kernel_rfl) (by kernel_rfl) (by kernel_rfl) (by kernel_rfl) ?_
            repeat (refine wpTx_take rfl (by rfl) (v := ?_) ?_ ?_; rotate_left; · (intro w; go_simp; with_reducible rfl))
            refine wpTx_step rfl (fun K hK => ?_)
            go_simp
            refine hK _ _ ?_
            clear hK K
            repeat (refine wpTx_take rfl (by rfl) (v := ?_) ?_ ?_; rotate_left; · (intro w; go_simp; with_reducible rfl))
            refine wpTx_step rfl (fun K hK => ?_)
            go_simp
            refine (decode_any _ _ (by rw [HCS2.out]; omega)).mono ?_
            rintro e w3 ⟨rfl, hb3⟩
            refine hK _ _ ?_
            clear hK K
            rw [HCL2.out]
            repeat (refine wpTx_take rfl (by rfl) (v := ?_) ?_ ?_; rotate_left; · (intro w; go_simp; with_reducible rfl))
            refine wpTx_nil ?_
            go_simp
            go_wp2
            go_roundw
            case rel => exact ⟨k + 1, gB, by go_num, by omega, rfl, HG2.out.symm, (hb3.block _ (by have := hb2.size; simp at this ⊢; omega)).trans HC2.out, (hbw2.drew).trans (hb3.mono (by have := hbw2.size; simpa using this))⟩
            case measure => simp [intOf]; omega
          · go_wp2
            go_roundw
            case rel => exact ⟨k + 1, gB, by go_num, by omega, rfl, HG2.out.symm, HC2.out, hbw2⟩
            case measure => simp [intOf]; omega
      · obtain rfl : k = 11 := by omega
        have hg : gB = true := by rw [hgB]; exact HALL.out
        subst hg
        have HC := Lib.hid hcells; have HGB := Lib.hid hgB; clear hcells hgB
        go_wp2
        go_ret
        exact ⟨rfl, hbw⟩
end Go.Proofs.Ytpehogkgiikjmaa
