/- PlW, Reg, RegH: texts of the seat, one behind the other (a claim holds at most sixty). Conditions: each theorem names its own. -/
import Derived.Test.YtlfdeenekjklgaaGreatDoorPk06
import Derived.Test.YtlfdeenekjklgaaGreatDoorPk05
import Derived.Test.YtlfdeenekjklgaaGreatDoorPk00
import Derived.RegionTactic
import Derived.Deep.AppendLies
import Derived.OrdersHeld
namespace Go.Proofs.YtlfdeenekjklgaaGreatDoor
open Go.RowKit
set_option linter.unusedSimpArgs false
set_option linter.unusedVariables false
set_option maxRecDepth 1000000
theorem results_cell_tmp2 {fn : Func} {p u v : Tmp} {ty : TypeId} (h : fn.results = #[.cell p ty, .tmp u, .tmp v]) (tmps : Array Value) (P : Program) (w : World) :
    (results fn tmps).run P w = ((asAddr (tmps.getD p undef)).run P w).andThen fun a w₁ => ((loadVar ty a).run P w₁).andThen fun x w₂ => .ok (.tuple #[x, tmps.getD u undef, tmps.getD v undef]) w₂ := by
  simp only [results, h]
  simp [Sem.run_bind, Result.andThen]
def plV (r : PlRes) (x : Int) : Value := .tuple #[.agg #[.string ⟨r.1.toArray⟩, .string ⟨r.2.1.toArray⟩], .int .i64 x, .int .i64 (r.2.2 : Nat)]
def PlPost (s : ByteArray) (w : World) (e : Ending) (w' : World) : Prop := ∃ x : Int, e = .returned (plV (plR s.data.toList) x) ∧ Below w.heap.size w w'
theorem isTok1 (c : UInt8) : isTok [c] = isSg c := by simp [isTok]
theorem isFld1 (c : UInt8) : isFld [c] = isFb c := by simp [isFld]
theorem ext_1 (t : ByteArray) (i j : Nat) (hj : i + 1 = j) (h : i < t.size) (c : UInt8) (hc : t[i]'h = c) : t.extract i j = ⟨#[c]⟩ := by
  rw [ext_mk, ← hj, Nat.add_sub_cancel_left, drop_get t i h, hc]; rfl
theorem blank_ix (c : UInt8) : (Lib.indexByte (⟨#[32, 9]⟩ : ByteArray).data.toList c < 0) ↔ isBl c = false := by
  have h := Lib.contains_iff_indexByte [32, 9] c
  have e : (⟨#[32, 9]⟩ : ByteArray).data.toList = [32, 9] := rfl
  rw [e, isBl_set, h, decide_eq_false_iff_not]
  omega
theorem pl_bd (k s : Nat) (h : k < s) (hs : s ≤ 1099511627776) : k + 1 ≤ 2199023255552 := by omega
theorem u8_58 : ((58 : Int).toNat).toUInt8 = 58 := rfl
theorem colon_call (s : ByteArray) (q : Int) (hq : Lib.indexByte s.data.toList 58 = q) (w : World) : Calls Tryz.prog 56 #[.string s, .int .u8 58] w fun e w' => e = .returned (.int .i64 q) ∧ w' = w := by
  have h := Tryz.strings_IndexByte s 58 w
  rwa [u8_58, hq] at h
theorem blank0_at (s : ByteArray) (c : UInt8) (h : s.data.toList[0]? = some c) : blank0 s.data.toList = isBl c := by
  cases hl : s.data.toList with
  | nil => rw [hl] at h; simp at h
  | cons d r => rw [hl] at h; obtain rfl : d = c := (by simpa using h); rfl
theorem fb_more (l : List UInt8) (k m : Nat) (c : UInt8) (h : ∀ x d, k < x → x < m → l[x]? = some d → isFb d = true) (hg : l[m]? = some c) (hc : isFb c = true) : ∀ x d, k < x → x < m + 1 → l[x]? = some d → isFb d = true := fun x d h1 h2 h3 => by
  by_cases hx : x < m
  · exact h x d h1 hx h3
  · obtain rfl : x = m := by omega
    rw [hg] at h3; injection h3 with h3; rw [← h3]; exact hc
theorem blank_call (c : UInt8) (z : Int) (hz : Lib.indexByte (⟨#[32, 9]⟩ : ByteArray).data.toList c = z) (w : World) : Calls Tryz.prog 56 #[.string ⟨#[32, 9]⟩, .int .u8 (c.toNat : Int)] w fun e w' => e = .returned (.int .i64 z) ∧ w' = w := by
  have h := Tryz.strings_IndexByte ⟨#[32, 9]⟩ (c.toNat : Int) w
  rwa [u8_back c c.toNat rfl, hz] at h
theorem trimLeft_call (s : ByteArray) (w : World) (hs : s.size ≤ 1099511627776) :
    Calls Tryz.prog 93 #[.string s, .string ⟨#[32, 9]⟩] w fun e w' => ∃ t : ByteArray, e = .returned (.string t) ∧ Below w.heap.size w w' := by
  have ht := Any.strings_TrimLeft_laid Tryz.lays161 (by kernel_rfl) s ⟨#[32, 9]⟩ w (by decide) (by
    intro j b hj
    have : ∀ j : Fin 2, ([32, 9] : List UInt8)[j.val].toNat < 128 := by decide
    obtain ⟨hl, he⟩ := List.getElem?_eq_some_iff.1 hj
    have := this ⟨j, hl⟩
    rw [← he]; exact this)
  exact ht.mono fun e w' ⟨he, hb⟩ => ⟨_, he, hb⟩
set_option maxHeartbeats 8000000 in
theorem pl_any (s : ByteArray) (w : World) (hs : s.size ≤ 1099511627776) (hg : SgAt w) : Calls Tryz.prog 51 #[.string s] w (PlPost s w) := by
  have hB0 : ∀ o : Obj, Below w.heap.size w (w.alloc o) := fun o => (Below.refl _ w).alloc (Nat.le_refl _) o
  have hG0 : ∀ o : Obj, SgAt (w.alloc o) := fun o => hg.below (hB0 o)
  have HG := Lib.hid hG0; clear hG0 hg
  have HB0 := Lib.hid hB0; clear hB0
  by_cases h0 : s.size = 0
  · obtain rfl := emp_o s h0
    clear h0
    have hr : plR (⟨#[]⟩ : ByteArray).data.toList = ([], [], 62) := plR_colon _ rfl (by decide)
    have HR := Lib.hid hr; clear hr
    have hc := colon_call ⟨#[]⟩ (-1) rfl
    have HC := Lib.hid hc; clear hc
    go_enter Tryz.func51, Tryz.ntmps51
    go_wp2_with fail
    refine (HC.out _).mono ?_
    rintro e w1 ⟨rfl, rfl⟩
    go_wp2
    (try simp only [Exit.inBlock, Exit.then])
    refine bodyPost_ret (v := plV ([], [], 62) ?plx1) ?plr1 rfl ⟨?plx1, by rw [HR.out], ?plb1⟩
    case plr1 => rw [results_cell_tmp2 rfl]; go_simp; rfl
    case plb1 => exact HB0.out _
  · have hpos : 0 < s.size := by omega
    clear h0
    obtain ⟨c0, hc0⟩ : ∃ c, s[0]'hpos = c := ⟨_, rfl⟩
    have hg0 := list_get s 0 hpos
    rw [hc0] at hg0
    have e0 := full_o s hpos
    have e1 := full_o2 s hpos
    have p0 : (0 : Int) < (s.size : Int) := by omega
    have hbl := blank0_at s c0 hg0
    have hix := blank_ix c0
    obtain ⟨z, hz⟩ : ∃ z, Lib.indexByte (⟨#[32, 9]⟩ : ByteArray).data.toList c0 = z := ⟨_, rfl⟩
    have hbc := blank_call c0 z hz
    rw [hz] at hix
    have HBC := Lib.hid hbc
    clear hz hbc hg0
    cases hb : isBl c0 with
    | true =>
      have z0 : 0 ≤ z := by
        have : ¬ z < 0 := fun h => by have := hix.1 h; rw [hb] at this; cases this
        omega
      have hr := plR_blank _ (hbl.trans hb)
      have HR := Lib.hid hr
      clear hr hbl hix hb
      go_enter Tryz.func51, Tryz.ntmps51
      go_wp2_with fail
      refine (HBC.out _).mono ?_
      rintro e w1 ⟨rfl, rfl⟩
      go_wp2
      (try simp only [Exit.inBlock, Exit.then])
      refine bodyPost_ret (v := plV ([], [], 63) ?plx2) ?plr2 rfl ⟨?plx2, by rw [HR.out], ?plb2⟩
      case plr2 => rw [results_cell_tmp2 rfl]; go_simp; rfl
      case plb2 => exact HB0.out _
    | false =>
      have z0 : z < 0 := hix.2 hb
      have hbl0 := hbl.trans hb
      clear hix hb hbl
      obtain ⟨q, hq⟩ : ∃ q, Lib.indexByte s.data.toList 58 = q := ⟨_, rfl⟩
      have hcc := colon_call s q hq
      have HCC := Lib.hid hcc
      clear hcc
      by_cases hq0 : q < 0
      · have hr := plR_colon _ hbl0 (by rw [hq]; exact hq0)
        have HR := Lib.hid hr
        clear hr hbl0 hq
        go_enter Tryz.func51, Tryz.ntmps51
        go_wp2_with fail
        refine (HBC.out _).mono ?_
        rintro e w1 ⟨rfl, rfl⟩
        go_wp2_with fail
        refine (HCC.out _).mono ?_
        rintro e w1 ⟨rfl, rfl⟩
        go_wp2
        (try simp only [Exit.inBlock, Exit.then])
        refine bodyPost_ret (v := plV ([], [], 62) ?plx3) ?plr3 rfl ⟨?plx3, by rw [HR.out], ?plb3⟩
        case plr3 => rw [results_cell_tmp2 rfl]; go_simp; rfl
        case plb3 => exact HB0.out _
      · obtain ⟨k, hk⟩ : ∃ k : Nat, q = (k : Int) := ⟨q.toNat, by omega⟩
        subst hk
        have hpk := plR_at _ k hbl0 hq
        have hks := (List.getElem?_eq_some_iff.1 (Lib.indexByte_some hq).1).1
        rw [size_list] at hks
        clear hq0 hq hbl0
        by_cases hk0 : k = 0
        · have hr : plR s.data.toList = ([], [], 60) := by rw [hpk, hk0]; exact plK_none _
          subst hk0
          have HR := Lib.hid hr
          clear hr hpk hks
          go_enter Tryz.func51, Tryz.ntmps51
          go_wp2_with fail
          refine (HBC.out _).mono ?_
          rintro e w1 ⟨rfl, rfl⟩
          go_wp2_with fail
          refine (HCC.out _).mono ?_
          rintro e w1 ⟨rfl, rfl⟩
          go_wp2
          (try simp only [Exit.inBlock, Exit.then])
          refine bodyPost_ret (v := plV ([], [], 60) ?plx4) ?plr4 rfl ⟨?plx4, by rw [HR.out], ?plb4⟩
          case plr4 => rw [results_cell_tmp2 rfl]; go_simp; rfl
          case plb4 => exact HB0.out _
        · have kk0 : ((k : Int) == 0) = false := by simp; omega
          have kk1 : (0 : Int) ≤ (k : Int) := Int.natCast_nonneg _
          have kk2 : (k : Int) < (s.size : Int) := by omega
          have HPK := Lib.hid (And.intro hpk (And.intro hk0 hks))
          clear hpk hk0 hks
          go_enter Tryz.func51, Tryz.ntmps51
          go_wp2_with fail
          refine (HBC.out _).mono ?_
          rintro e w1 ⟨rfl, rfl⟩
          go_wp2_with fail
          refine (HCC.out _).mono ?_
          rintro e w1 ⟨rfl, rfl⟩
          clear HBC HCC
          go_wp2
          go_loopw [33] (fun iv wr => ∃ i : Nat, iv = .int .i64 i ∧ i ≤ k ∧ i ≤ 128 ∧ (s.data.toList.take i).all isSg = true ∧ wr = w.alloc (.cells #[.string ByteArray.empty, .string ByteArray.empty] 103)) (fun iv _ => k - (intOf iv).toNat)
          case atStart => exact ⟨0, rfl, Nat.zero_le _, Nat.zero_le _, rfl, rfl⟩
          case round =>
            obtain ⟨i, rfl, hi, h128, hall, rfl⟩ := hrel
            have hks := HPK.out.2.2
            have i0 : (0 : Int) ≤ (i : Int) := Int.natCast_nonneg _
            by_cases hlt : i < k
            · have i1 : (i : Int) < (k : Int) := by omega
              have his : i < s.size := Nat.lt_trans hlt hks
              by_cases hb128 : i = 128
              · have hr := HPK.out.1.trans (plK_long _ k (by omega))
                have HR := Lib.hid hr
                subst hb128
                clear hr hall
                go_wp2
                (try simp only [Exit.inBlock, Exit.then])
                refine bodyPost_ret (v := plV ([], [], 60) ?plx5) ?plr5 rfl ⟨?plx5, by rw [HR.out], ?plb5⟩
                case plr5 => rw [results_cell_tmp2 rfl]; go_simp; rfl
                case plb5 => exact HB0.out _
              · have i2 : (i : Int) < 128 := by omega
                obtain ⟨c, hc⟩ : ∃ c, s[i]'his = c := ⟨_, rfl⟩
                have hget := list_get s i his
                rw [hc] at hget
                obtain ⟨j, hj⟩ : ∃ j, i + 1 = j := ⟨_, rfl⟩
                have f1 : (i : Int) + 1 = (j : Int) := by omega
                have hx := ext_1 s i j hj his c hc
                have k2 : (i : Int) ≤ (j : Int) := by omega
                have k3 : (j : Int) ≤ (s.size : Int) := by omega
                have hwj := w64j j (le_oo j s.size (by omega) hs)
                cases hst : isSg c with
                | true =>
                  have hx2 := all_take isSg _ i c hget hall hst
                  have HS := Lib.hid (And.intro hx2 (And.intro hst hj))
                  clear hx2 hst hget hall hj hc hb128
                  go_wp2_with fail
                  refine (otoken_any ⟨#[c]⟩ _ (show 1 ≤ 1099511627776 from by decide) (HG.out _)).mono ?_
                  rintro e wr ⟨rfl, hwr⟩
                  rw [hwr, show (⟨#[c]⟩ : ByteArray).data.toList = [c] from rfl, isTok1, HS.out.2.1]
                  clear hwr
                  go_wp2
                  go_roundw
                  case rel => exact ⟨j, rfl, by have := HS.out.2.2; omega, by have := HS.out.2.2; omega, by rw [← HS.out.2.2]; exact HS.out.1, by first | rfl | trivial⟩
                  case measure => simp [intOf]; omega
                | false =>
                  have hr := HPK.out.1.trans (plK_sign _ k i c hlt hget hst)
                  have HR := Lib.hid (hr)
                  have HS := Lib.hid (hst)
                  clear hr hst hget hall hj hc hb128
                  go_wp2_with fail
                  refine (otoken_any ⟨#[c]⟩ _ (show 1 ≤ 1099511627776 from by decide) (HG.out _)).mono ?_
                  rintro e wr ⟨rfl, hwr⟩
                  rw [hwr, show (⟨#[c]⟩ : ByteArray).data.toList = [c] from rfl, isTok1, HS.out]
                  clear hwr
                  go_wp2
                  (try simp only [Exit.inBlock, Exit.then])
                  refine bodyPost_ret (v := plV ([], [], 60) ?plx6) ?plr6 rfl ⟨?plx6, by rw [HR.out], ?plb6⟩
                  case plr6 => rw [results_cell_tmp2 rfl]; go_simp; rfl
                  case plb6 => exact HB0.out _
            · obtain rfl : i = k := by omega
              have hd : decide (i < i) = false := decide_eq_false (Nat.lt_irrefl _)
              obtain ⟨j, hj⟩ : ∃ j, i + 1 = j := ⟨_, rfl⟩
              have f1 : (i : Int) + 1 = (j : Int) := by omega
              have hjs : j ≤ s.size := by omega
              have hwj := w64j j (le_oo j s.size hjs hs)
              have HA := Lib.hid (And.intro hall (And.intro h128 hj))
              clear hall hj
              go_wp2
              go_loopw [7] (fun mv wr => ∃ m : Nat, mv = .int .i64 m ∧ i < m ∧ m ≤ s.size ∧ (∀ x d, i < x → x < m → s.data.toList[x]? = some d → isFb d = true) ∧ wr = w.alloc (.cells #[.string ByteArray.empty, .string ByteArray.empty] 103)) (fun mv _ => s.size - (intOf mv).toNat)
              case atStart => exact ⟨j, rfl, by have := HA.out.2.2; omega, hjs, fun x d h1 h2 => by have := HA.out.2.2; omega, rfl⟩
              case round =>
                obtain ⟨m, rfl, him, hms, hfb, rfl⟩ := hrel
                have HFB := Lib.hid hfb; clear hfb
                have m0 : (0 : Int) ≤ (m : Int) := Int.natCast_nonneg _
                by_cases hlt2 : m < s.size
                · have m1 : (m : Int) < (s.size : Int) := by omega
                  obtain ⟨c, hc⟩ : ∃ c, s[m]'hlt2 = c := ⟨_, rfl⟩
                  have hget := list_get s m hlt2
                  rw [hc] at hget
                  obtain ⟨n, hn⟩ : ∃ n, m + 1 = n := ⟨_, rfl⟩
                  have f2 : (m : Int) + 1 = (n : Int) := by omega
                  have hx := ext_1 s m n hn hlt2 c hc
                  have k2 : (m : Int) ≤ (n : Int) := by omega
                  have k3 : (n : Int) ≤ (s.size : Int) := by omega
                  have hns : n ≤ s.size := by omega
                  have hwn := w64j n (le_oo n s.size hns hs)
                  cases hst : isFb c with
                  | true =>
                    have hx2 := fb_more _ i m c HFB.out hget hst
                    have HS := Lib.hid (And.intro hx2 (And.intro hst hn))
                    clear hx2 hst hget hn hc
                    go_wp2_with fail
                    refine (oisfield_any ⟨#[c]⟩ _ (show 1 ≤ 1099511627776 from by decide)).mono ?_
                    rintro e wr ⟨rfl, hwr⟩
                    rw [hwr, show (⟨#[c]⟩ : ByteArray).data.toList = [c] from rfl, isFld1, HS.out.2.1]
                    clear hwr
                    go_wp2
                    go_roundw
                    case rel => exact ⟨n, rfl, by omega, hns, by rw [← HS.out.2.2]; exact HS.out.1, by first | rfl | trivial⟩
                    case measure => simp [intOf]; omega
                  | false =>
                    have hr := HPK.out.1.trans (plK_field _ i m c HPK.out.2.1 HA.out.2.1 HA.out.1 him hget hst)
                    have HR := Lib.hid hr
                    have HS := Lib.hid hst
                    clear hr hst hget hn hc
                    go_wp2_with fail
                    refine (oisfield_any ⟨#[c]⟩ _ (show 1 ≤ 1099511627776 from by decide)).mono ?_
                    rintro e wr ⟨rfl, hwr⟩
                    rw [hwr, show (⟨#[c]⟩ : ByteArray).data.toList = [c] from rfl, isFld1, HS.out]
                    clear hwr
                    go_wp2
                    (try simp only [Exit.inBlock, Exit.then])
                    refine bodyPost_ret (v := plV ([], [], 61) ?plx7) ?plr7 rfl ⟨?plx7, by rw [HR.out], ?plb7⟩
                    case plr7 => rw [results_cell_tmp2 rfl]; go_simp; rfl
                    case plb7 => exact HB0.out _
                · obtain rfl : m = s.size := by omega
                  have hd2 : decide (s.size < s.size) = false := decide_eq_false (Nat.lt_irrefl _)
                  have hfd := fld_from _ i (fun x d h1 h2 => HFB.out x d h1 (by have := (List.getElem?_eq_some_iff.1 h2).1; rwa [size_list] at this) h2)
                  have hx := ext_back s j
                  have k3 : (j : Int) ≤ (s.size : Int) := by omega
                  have j0 : (0 : Int) ≤ (j : Int) := Int.natCast_nonneg _
                  have hx0 := ext_front s i
                  have k4 : (i : Int) ≤ (s.size : Int) := by omega
                  have hbk := (HB0.out (.cells #[.string ByteArray.empty, .string ByteArray.empty] 103))
                  obtain ⟨V, hV⟩ : ∃ V, trimL (s.data.toList.drop j) = V := ⟨_, rfl⟩
                  have hVl : V.length ≤ s.size := by rw [← hV]; exact Nat.le_trans (trimL_len _) (by rw [List.length_drop, size_list]; omega)
                  have htc := otrim_any ⟨(s.data.toList.drop j).toArray⟩ (w.alloc (.cells #[.string ByteArray.empty, .string ByteArray.empty] 103)) (by rw [size_mk, List.length_drop, size_list]; omega)
                  rw [show (⟨(s.data.toList.drop j).toArray⟩ : ByteArray).data.toList = s.data.toList.drop j from rfl, hV] at htc
                  have HTC := Lib.hid htc
                  have hle := trimLeft_call ⟨(s.data.toList.drop j).toArray⟩
                  have HLE := Lib.hid hle
                  have hj2 := HA.out.2.2
                  rw [← hj2] at hV
                  have hVr : ∀ r, plK s.data.toList i = r → plR s.data.toList = r := fun r h => HPK.out.1.trans h
                  by_cases hbig : 8192 < V.length
                  · have hr := hVr _ (plK_big _ i HPK.out.2.1 HA.out.2.1 HA.out.1 (by rw [hV]; exact hbig))
                    have HR := Lib.hid hr
                    have b1 : (8192 : Int) < (V.length : Int) := by omega
                    have hz : (⟨(s.data.toList.drop j).toArray⟩ : ByteArray).size ≤ 1099511627776 := by rw [size_mk, List.length_drop, size_list]; omega
                    have HZ := Lib.hid hz
                    clear htc hle hr hV hVr hz hfd hVl hx0
                    go_wp2_with fail
                    refine (HTC.out).mono ?_
                    rintro e w2 ⟨rfl, hb2⟩
                    go_wp2_with fail
                    refine (HLE.out _ HZ.out).mono ?_
                    rintro e w3 ⟨t, rfl, hb3⟩
                    have hb4 := hb2.trans (hb3.mono hb2.size)
                    have lt4 : w.heap.size < (w.alloc (.cells #[.string ByteArray.empty, .string ByteArray.empty] 103)).heap.size := by simp
                    have c0 : w3.cell? ⟨w.heap.size, 0, none⟩ = some (.string ByteArray.empty) := (hb4.cell (p := ⟨w.heap.size, 0, none⟩) lt4).trans (by simp)
                    have c1 : w3.cell? ⟨w.heap.size, 1, none⟩ = some (.string ByteArray.empty) := (hb4.cell (p := ⟨w.heap.size, 1, none⟩) lt4).trans (by simp)
                    have g0 : w3.frozen? ⟨w.heap.size, 0, none⟩ = false := (hb4.frozen (p := ⟨w.heap.size, 0, none⟩) lt4).trans (by simp)
                    have g1 : w3.frozen? ⟨w.heap.size, 1, none⟩ = false := (hb4.frozen (p := ⟨w.heap.size, 1, none⟩) lt4).trans (by simp)
                    have lt5 : w.heap.size < w3.heap.size := Nat.lt_of_lt_of_le lt4 hb4.size
                    have hbW := (HB0.out (.cells #[.string ByteArray.empty, .string ByteArray.empty] 103)).trans (hb4.mono (Nat.le_of_lt lt4))
                    have HBW := Lib.hid hbW
                    clear hbW hb4 hb3 hb2 lt4
                    go_wp2
                    (try simp only [Exit.inBlock, Exit.then])
                    refine bodyPost_ret (v := plV ([], [], 61) ?pxa) ?pxar rfl ⟨?pxa, by rw [HR.out], ?pxab⟩
                    case pxar => rw [results_cell_tmp2 rfl]; simp [go_sem, c0, c1, g0, g1, lt5]; rfl
                    case pxab => exact (HBW.out.setCell (p := ⟨w.heap.size, 0, none⟩) (Nat.le_refl _) _).setCell (p := ⟨w.heap.size, 1, none⟩) (Nat.le_refl _) _
                  · have hr := hVr _ (plK_ok _ i HPK.out.2.1 HA.out.2.1 HA.out.1 hfd (by rw [hV]; omega))
                    rw [hV] at hr
                    have HR := Lib.hid hr
                    have b1 : (V.length : Int) ≤ 8192 := by omega
                    have lt4 : w.heap.size < (w.alloc (.cells #[.string ByteArray.empty, .string ByteArray.empty] 103)).heap.size := by simp
                    clear htc hle hr hV hVr hfd hVl
                    go_wp2_with fail
                    refine (HTC.out).mono ?_
                    rintro e w2 ⟨rfl, hb2⟩
                    have c0 : w2.cell? ⟨w.heap.size, 0, none⟩ = some (.string ByteArray.empty) := (hb2.cell (p := ⟨w.heap.size, 0, none⟩) lt4).trans (by simp)
                    have c1 : w2.cell? ⟨w.heap.size, 1, none⟩ = some (.string ByteArray.empty) := (hb2.cell (p := ⟨w.heap.size, 1, none⟩) lt4).trans (by simp)
                    have g0 : w2.frozen? ⟨w.heap.size, 0, none⟩ = false := (hb2.frozen (p := ⟨w.heap.size, 0, none⟩) lt4).trans (by simp)
                    have g1 : w2.frozen? ⟨w.heap.size, 1, none⟩ = false := (hb2.frozen (p := ⟨w.heap.size, 1, none⟩) lt4).trans (by simp)
                    have lt5 : w.heap.size < w2.heap.size := Nat.lt_of_lt_of_le lt4 hb2.size
                    have hbW := (HB0.out (.cells #[.string ByteArray.empty, .string ByteArray.empty] 103)).trans (hb2.mono (Nat.le_of_lt lt4))
                    have HBW := Lib.hid hbW
                    clear hbW hb2 lt4
                    go_wp2
                    (try simp only [Exit.inBlock, Exit.then])
                    refine bodyPost_ret (v := plV (s.data.toList.take i, V, 0) ?pxb) ?pxbr rfl ⟨?pxb, by rw [HR.out], ?pxbb⟩
                    case pxbr => rw [results_cell_tmp2 rfl]; simp [go_sem, c0, c1, g0, g1, lt5]; rfl
                    case pxbb => exact (HBW.out.setCell (p := ⟨w.heap.size, 0, none⟩) (Nat.le_refl _) _).setCell (p := ⟨w.heap.size, 1, none⟩) (Nat.le_refl _) _
end Go.Proofs.YtlfdeenekjklgaaGreatDoor
namespace Go.Proofs.YtlfdeenekjklgaaGreatDoor
open Go.RowKit
set_option linter.unusedSimpArgs false
set_option linter.unusedVariables false

def txCheck (ops : Array Oper) : List (Nat × Bool) → Array Bool → Bool
  | [], L => Region.ready .any ops L == []
  | (i, true) :: r, L => Region.free .any ops L i && (Region.ready .any ops L).contains i && txCheck ops r (L.setIfInBounds i true)
  | (i, false) :: r, L => Region.ready .any ops L == [i] && txCheck ops r (L.setIfInBounds i true)

def wpTx (P : Program) (ops : Array Oper) (Q : Exit → Act → World → Prop) : List (Nat × Bool) → Act → World → Prop
  | [], a, w => Q .normal a w
  | (i, true) :: r, a, w => ∃ o v, ops[i]? = some o ∧ Yields P ops o v a ∧ wpTx P ops Q r (a.put o.dst v) w
  | (i, false) :: r, a, w => ∃ o, ops[i]? = some o ∧ ∀ K : Act → World → Prop, (∀ a w, wpTx P ops Q r a w → K a w) → if Region.wanted o (yielded ops a.tmps) = true then Oper.wp P o a w K Q else K (a.put o.dst undef) w

theorem wpTx_sound {P : Program} {ops : Array Oper} {Q : Exit → Act → World → Prop} (hs : Region.noSelect ops = true)
    (hQ : ∀ c d v a w, Q (.panic c) (Act.put a d v) w → Q (.panic c) a w) :
    ∀ (l : List (Nat × Bool)) (L : Array Bool) (a : Act) (w : World), txCheck ops l L = true → wpTx P ops Q l a w → wpAny P .any ops Q l.length L a w := by
  intro l
  induction l with
  | nil =>
    intro L a w hc h
    exact wpAny_done (by simpa [txCheck] using hc) h 0
  | cons x r ih =>
    intro L a w hc h
    obtain ⟨i, b⟩ := x
    cases b with
    | true =>
      obtain ⟨o, v, ho, hy, h⟩ := h
      simp only [txCheck, Bool.and_eq_true] at hc
      exact wpAny_take ho hs hc.1.1 hc.1.2 (fun c a w => hQ c _ _ a w) hy (ih _ _ _ hc.2 h)
    | false =>
      obtain ⟨o, ho, h⟩ := h
      simp only [txCheck, Bool.and_eq_true, beq_iff_eq] at hc
      exact wpAny_ready hc.1 (by simp) (AllReady.cons ho (fun K hK => h K (fun a w h' => hK a w (ih _ _ _ hc.2 h'))) AllReady.nil)

/-- Q, but False at a panic. -/
def offPanic (Q : Exit → Act → World → Prop) : Exit → Act → World → Prop
  | .panic _, _, _ => False
  | e, a, w => Q e a w
/-- A REGION THAT DRAWS, IN ONE ORDER: 'true': the operation yields in whatever world and is taken first; 'false': no other one may come up. -/
theorem wp_region_text {P : Program} {id : Nat} {ops : Array Oper} {Q : Exit → Act → World → Prop} {a : Act} {w : World} (l : List (Nat × Bool)) (hm : P.follows .mixedOrders = true) (hs : Region.noSelect ops = true) (hl : l.length = ops.size) (hc : txCheck ops l (Array.replicate ops.size false) = true)
    (h : wpTx P ops (offPanic Q) l a w.drew) : (Code.region id ops true).wp P Q a w := by
  refine Code.wp_mono (Q := offPanic Q) (fun e a w h => ?_) (wp_region_any hm ?_)
  · cases e <;> first | exact h | exact (h : False).elim
  · have := wpTx_sound (P := P) (Q := offPanic Q) hs (fun _ _ _ _ _ h => h) l _ a w.drew hc h
    rw [hl] at this
    exact this
theorem wpTx_take {P : Program} {ops : Array Oper} {Q : Exit → Act → World → Prop} {i : Nat} {o : Oper} {r : List (Nat × Bool)} {a : Act} {w : World} {v : Value} (ho : ops[i]? = some o) (hw : Region.wanted o (yielded ops a.tmps) = true)
    (hv : ∀ w, (execOp a.eval o).run P w = .ok (.value v) w) (h : wpTx P ops Q r (a.put o.dst v) w) : wpTx P ops Q ((i, true) :: r) a w := ⟨o, v, ho, .inl ⟨hw, hv⟩, h⟩
theorem wpTx_pass {P : Program} {ops : Array Oper} {Q : Exit → Act → World → Prop} {i : Nat} {o : Oper} {r : List (Nat × Bool)} {a : Act} {w : World} (ho : ops[i]? = some o) (hw : Region.wanted o (yielded ops a.tmps) = false)
    (h : wpTx P ops Q r (a.put o.dst undef) w) : wpTx P ops Q ((i, true) :: r) a w := ⟨o, undef, ho, .inr ⟨hw, rfl⟩, h⟩
theorem wpTx_step {P : Program} {ops : Array Oper} {Q : Exit → Act → World → Prop} {i : Nat} {o : Oper} {r : List (Nat × Bool)} {a : Act} {w : World} (ho : ops[i]? = some o)
    (h : ∀ K : Act → World → Prop, (∀ a w, wpTx P ops Q r a w → K a w) → if Region.wanted o (yielded ops a.tmps) = true then Oper.wp P o a w K Q else K (a.put o.dst undef) w) : wpTx P ops Q ((i, false) :: r) a w := ⟨o, ho, h⟩
theorem wpTx_nil {P : Program} {ops : Array Oper} {Q : Exit → Act → World → Prop} {a : Act} {w : World} (h : Q .normal a w) : wpTx P ops (offPanic Q) [] a w := h

/-- append onto a row of the call's own, as one step of a region that draws. -/
theorem step_append_own {P : Program} {ops : Array Oper} {o : Oper} {a : Act} {w : World} {K : Act → World → Prop} {Q : Exit → Act → World → Prop} {E : Prop} (hgd : o.guard = none) (s x : Operand) (t : TypeId)
    (ho : o.op = .call { callee := .builtin .append, args := #[s, x], argTypes := #[t, t] })
    (base : Nat) (e : TypeId) (i : TypeInfo) (z : Value) (size bytes : Nat) (ht : P.underlying t = some (.slice e)) (hi : P.info? e = some i) (hz : i.zero = some z)
    (hsize : i.size = size) (hby : i.bytes = bytes) (hzs : z.cells.size = size) (hsz : 0 < size)
    (v : Value) (n : Nat) (xs : List Value) (hs : a.eval s = v) (hown : w.ownsRow base e size v n xs)
    (ad : Addr) (m c : Nat) (news : List Value) (hx : a.eval x = .slice (some ad) m c) (hl : news.length = m * size) (hnews : ∀ j u, news[j]? = some u → w.cell? (ad.add j) = some u) (h1 : ∀ u ∈ news, u.oneCell' = true)
    (h63 : n + m ≤ maxLen) (hbytes : (n + m) * bytes ≤ 140737488355328) (hbase : base ≤ w.heap.size)
    (h : ∀ v' w', w'.ownsRow base e size v' (n + m) (xs ++ news) → w.grownBy w' v.ownBlock → K (a.put o.dst v') w') :
    if Region.wanted o (yielded ops a.tmps) = true then Oper.wp P o a w K Q else E := by
  have hw : Region.wanted o (yielded ops a.tmps) = true := by simp [Region.wanted, hgd]
  rw [if_pos hw]
  exact wp_append_own w s x t ho base e i z size bytes ht hi hz hsize hby hzs hsz v n xs hs hown ad m c news hx hl hnews h1 h63 hbytes hbase fun v' w' h2 h3 _ => h v' w' h2 h3
end Go.Proofs.YtlfdeenekjklgaaGreatDoor
namespace Go.Proofs.YtlfdeenekjklgaaGreatDoor
open Go.RowKit
set_option linter.unusedSimpArgs false
set_option linter.unusedVariables false
def wpTxH (P : Program) (ops : Array Oper) (S : World → Prop) (Q : Exit → Act → World → Prop) : List (Nat × Bool) → Act → World → Prop
  | [], a, w => Q .normal a w
  | (i, true) :: r, a, w => ∃ o v, ops[i]? = some o ∧ YieldsIf P ops S o v a ∧ wpTxH P ops S Q r (a.put o.dst v) w
  | (i, false) :: r, a, w => ∃ o, ops[i]? = some o ∧ ∀ K : Act → World → Prop, (∀ a w, S w → wpTxH P ops S Q r a w → K a w) → if Region.wanted o (yielded ops a.tmps) = true then Oper.wp P o a w K Q else K (a.put o.dst undef) w
theorem wpTxH_sound {P : Program} {ops : Array Oper} {S : World → Prop} {Q : Exit → Act → World → Prop} (hs : Region.noSelect ops = true)
    (hQ : ∀ c d v a w, Q (.panic c) (Act.put a d v) w → Q (.panic c) a w) :
    ∀ (l : List (Nat × Bool)) (L : Array Bool) (a : Act) (w : World), S w → txCheck ops l L = true → wpTxH P ops S Q l a w → wpAnyH P .any ops Q S l.length L a w := by
  intro l
  induction l with
  | nil =>
    intro L a w _ hc h
    exact wpAnyH_done (by simpa [txCheck] using hc) h 0
  | cons x r ih =>
    intro L a w hS hc h
    obtain ⟨i, b⟩ := x
    cases b with
    | true =>
      obtain ⟨o, v, ho, hy, h⟩ := h
      simp only [txCheck, Bool.and_eq_true] at hc
      exact wpAnyH_take ho hs hc.1.1 hc.1.2 (fun c a w => hQ c _ _ a w) hy hS (ih _ _ _ hS hc.2 h)
    | false =>
      obtain ⟨o, ho, h⟩ := h
      simp only [txCheck, Bool.and_eq_true, beq_iff_eq] at hc
      refine wpAnyH_all hc.1 (by simp) (fun j hj => ?_)
      obtain rfl : j = i := by simpa using hj
      exact wpOp_step ho (fun K hK => h K (fun a w hS' h' => hK a w ⟨hS', ih _ _ _ hS' hc.2 h'⟩))
theorem wp_region_textH {P : Program} {id : Nat} {ops : Array Oper} {Q : Exit → Act → World → Prop} {a : Act} {w : World} (S : World → Prop) (l : List (Nat × Bool)) (hm : P.follows .mixedOrders = true) (hs : Region.noSelect ops = true) (hl : l.length = ops.size) (hc : txCheck ops l (Array.replicate ops.size false) = true)
    (hS : S w.drew) (h : wpTxH P ops S (offPanic Q) l a w.drew) : (Code.region id ops true).wp P Q a w := by
  refine Code.wp_mono (Q := offPanic Q) (fun e a w h => ?_) (wp_region_held (S := S) hm ?_)
  · cases e <;> first | exact h | exact (h : False).elim
  · have := wpTxH_sound (P := P) (Q := offPanic Q) hs (fun _ _ _ _ _ h => h) l _ a w.drew hS hc h
    rw [hl] at this
    exact this
theorem wpTxH_take {P : Program} {ops : Array Oper} {S : World → Prop} {Q : Exit → Act → World → Prop} {i : Nat} {o : Oper} {r : List (Nat × Bool)} {a : Act} {w : World} {v : Value} (ho : ops[i]? = some o) (hw : Region.wanted o (yielded ops a.tmps) = true)
    (hv : ∀ w, S w → (execOp a.eval o).run P w = .ok (.value v) w) (h : wpTxH P ops S Q r (a.put o.dst v) w) : wpTxH P ops S Q ((i, true) :: r) a w := ⟨o, v, ho, .inl ⟨hw, hv⟩, h⟩
theorem wpTxH_step {P : Program} {ops : Array Oper} {S : World → Prop} {Q : Exit → Act → World → Prop} {i : Nat} {o : Oper} {r : List (Nat × Bool)} {a : Act} {w : World} (ho : ops[i]? = some o)
    (h : ∀ K : Act → World → Prop, (∀ a w, S w → wpTxH P ops S Q r a w → K a w) → if Region.wanted o (yielded ops a.tmps) = true then Oper.wp P o a w K Q else K (a.put o.dst undef) w) : wpTxH P ops S Q ((i, false) :: r) a w := ⟨o, ho, h⟩
theorem wpTxH_nil {P : Program} {ops : Array Oper} {S : World → Prop} {Q : Exit → Act → World → Prop} {a : Act} {w : World} (h : Q .normal a w) : wpTxH P ops S (offPanic Q) [] a w := h
end Go.Proofs.YtlfdeenekjklgaaGreatDoor
