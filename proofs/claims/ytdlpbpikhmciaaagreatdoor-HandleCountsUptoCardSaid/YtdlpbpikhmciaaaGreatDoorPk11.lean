/- CkS, CkU, Num: texts of the seat, one behind the other (a claim holds at most sixty). Conditions: each theorem names its own. -/
import Derived.Test.YtdlpbpikhmciaaaGreatDoorPk05
import Derived.Deep.AppendSrc
import Derived.Test.YtdlpbpikhmciaaaGreatDoorPa10
import Derived.Test.YtdlpbpikhmciaaaGreatDoorPk08
import Derived.Test.YtdlpbpikhmciaaaGreatDoorPk04
import Derived.Test.YtdlpbpikhmciaaaGreatDoorPk01
namespace Go.Proofs.YtdlpbpikhmciaaaGreatDoor
open Go.RowKit
set_option linter.unusedSimpArgs false
set_option linter.unusedVariables false
set_option maxRecDepth 1000000
theorem infoCK : (Tryz.prog.info? 128).map (fun i => (i.zero, i.size, i.bytes)) = some (some (.agg #[.string ByteArray.empty, .string ByteArray.empty]), 2, 32) := by kernel_rfl
theorem infoCK_parts : ∃ i, Tryz.prog.info? 128 = some i ∧ i.zero = some (.agg #[.string ByteArray.empty, .string ByteArray.empty]) ∧ i.size = 2 ∧ i.bytes = 32 := by
  obtain ⟨i, hi, he⟩ := Option.map_eq_some_iff.1 infoCK
  injection he with h1 h2
  injection h2 with h2 h3
  exact ⟨i, hi, h1, h2, h3⟩
theorem ck_byt {a b : ByteArray} (h : a.data.toList = b.data.toList) : a = b := by
  cases a; cases b
  simpa using h
/-- The pieces in a new row. -/
theorem cksplit (n ds : List UInt8) (hn : n.all isSg = true) (hd : ds.all qdg = true) (hl : n.length + ds.length ≤ 4096) (m : Int) (w : World) (hm : w.cell? ⟨4, 0, none⟩ = some (.int .i64 m)) :
    Calls Tryz.prog 119 #[.string ⟨(hdL n ds).toArray⟩, .string ⟨#[59]⟩] w fun e w' => e = .returned (.slice (some ⟨w.heap.size, 0, none⟩) 2 2) ∧ w' = w.alloc (.cells #[.string ⟨#[111, 116, 104, 101, 114]⟩, .string ⟨(32 :: ckL n ds).toArray⟩] 9) := by
  have h := Tryz.strings_Split ⟨(hdL n ds).toArray⟩ ⟨#[59]⟩ m w (by rw [size_mk]; simp [hdL, ckL, otL]; omega) hm (show 1 ≤ 1 from Nat.le_refl 1)
  have hlen := Lib.splitB_all ⟨#[59]⟩ (show 1 ≤ 1 from Nat.le_refl 1) 0 _ (⟨(hdL n ds).toArray⟩ : ByteArray) rfl
  have hdat := Lib.splitB_data ⟨#[59]⟩ 0 (Lib.countB ⟨(hdL n ds).toArray⟩ ⟨#[59]⟩) ⟨(hdL n ds).toArray⟩
  have hpc : Lib.split (hdL n ds) [59] = (Lib.splitB ⟨#[59]⟩ 0 (Lib.countB ⟨(hdL n ds).toArray⟩ ⟨#[59]⟩) ⟨(hdL n ds).toArray⟩).map (·.data.toList) := hdat.symm
  rw [ck_split n ds hn hd] at hpc
  have e2 : Lib.splitB ⟨#[59]⟩ 0 (Lib.countB ⟨(hdL n ds).toArray⟩ ⟨#[59]⟩) ⟨(hdL n ds).toArray⟩ = [⟨#[111, 116, 104, 101, 114]⟩, ⟨(32 :: ckL n ds).toArray⟩] := by
    generalize Lib.splitB ⟨#[59]⟩ 0 (Lib.countB ⟨(hdL n ds).toArray⟩ ⟨#[59]⟩) ⟨(hdL n ds).toArray⟩ = l at hpc
    match l, hpc with
    | [a, b], hpc =>
      simp only [List.map_cons, List.map_nil, List.cons.injEq, and_true] at hpc
      rw [ck_byt (a := a) (b := ⟨#[111, 116, 104, 101, 114]⟩) hpc.1.symm, ck_byt (a := b) (b := ⟨(32 :: ckL n ds).toArray⟩) hpc.2.symm]
    | [], hpc => simp at hpc
    | [_], hpc => simp at hpc
    | _ :: _ :: _ :: _, hpc => simp at hpc
  rw [e2] at h hlen
  have e3 : Lib.countB ⟨(hdL n ds).toArray⟩ ⟨#[59]⟩ = 1 := by simpa using hlen.symm
  rw [e3] at h
  exact h
/-- One cookie in a row. -/
def CkIs (W : World) (v : Value) (n ds : List UInt8) : Prop := ∃ g cap, v = .slice (some ⟨g, 0, none⟩) 1 cap ∧ W.cell? ⟨g, 0, none⟩ = some (.string ⟨n.toArray⟩) ∧ W.cell? ⟨g, 1, none⟩ = some (.string ⟨ds.toArray⟩)
theorem ckIs_of {W : World} {b : Nat} {v : Value} {n ds : List UInt8} (h : W.ownsRow b 128 2 v 1 [.string ⟨n.toArray⟩, .string ⟨ds.toArray⟩]) : CkIs W v n ds := by
  obtain ⟨g, c, rfl, _, _⟩ := own1 h (by decide)
  exact ⟨g, c, rfl, own_at h 0 _ rfl, own_at h 1 _ rfl⟩
def CkPost (n ds : List UInt8) (w : World) (e : Ending) (w' : World) : Prop := ∃ v, e = .returned (.tuple #[v, .int .i64 1]) ∧ CkIs w' v n ds ∧ Below w.heap.size w w'
/-- What holds ahead of a piece. -/
def CkR (n ds : List UInt8) (PB : ByteArray) (L : Nat) (w : World) (B : Nat) (iv lv nv : Value) (wr : World) : Prop :=
  Below L w wr ∧ BlkIs wr B #[.string ⟨#[111, 116, 104, 101, 114]⟩, .string PB] 9 ∧
  ((iv = .int .i64 0 ∧ lv = .slice none 0 0 ∧ nv = .int .i64 0) ∨ (iv = .int .i64 1 ∧ lv = .slice none 0 0 ∧ nv = .int .i64 1) ∨ (iv = .int .i64 2 ∧ nv = .int .i64 1 ∧ CkIs wr lv n ds))
set_option maxHeartbeats 8000000 in
theorem ckparse_any (n ds : List UInt8) (hn : isTok n = true) (hd : ds.all qdg = true) (hl : n.length + ds.length ≤ 4096) (m : Int) (w : World) (hm : w.cell? ⟨4, 0, none⟩ = some (.int .i64 m)) (hg : SgAt w) :
    Calls Tryz.prog 91 #[.string ⟨(hdL n ds).toArray⟩] w (CkPost n ds w) := by
  have hn2 : n.all isSg = true := by unfold isTok at hn; rw [Bool.and_eq_true] at hn; exact hn.2
  obtain ⟨i0, hi0, hz0, hz1, hz2⟩ := infoCK_parts
  obtain ⟨B, hB⟩ : ∃ B, w.heap.size = B := ⟨_, rfl⟩
  obtain ⟨PB, hPB⟩ : ∃ P, (⟨(32 :: ckL n ds).toArray⟩ : ByteArray) = P := ⟨_, rfl⟩
  obtain ⟨W0, hW0⟩ : ∃ W, w.alloc (.cells #[.string ⟨#[111, 116, 104, 101, 114]⟩, .string PB] 9) = W := ⟨_, rfl⟩
  have hsp := cksplit n ds hn2 hd hl m w hm
  rw [hPB, hW0, hB] at hsp
  have hb0 : Below w.heap.size w W0 := by rw [← hW0]; exact ck_below _ _
  have hk0 : BlkIs W0 B #[.string ⟨#[111, 116, 104, 101, 114]⟩, .string PB] 9 := by rw [← hW0, ← hB]; exact blkIs_new _ _ _
  have hpn := fun (W : World) (h : Below w.heap.size w W) => ckpair_no m W (ck_cell hm h)
  have hpy := fun (W : World) (h : Below w.heap.size w W) => ckpair_yes n ds hn hd hl m W (ck_cell hm h) (hg.below h)
  have ht1 := fun W => cktrim ⟨#[111, 116, 104, 101, 114]⟩ W (by decide)
  have ht2 := fun W => cktrim ⟨(32 :: ckL n ds).toArray⟩ W (by rw [size_mk]; simp [ckL]; omega)
  rw [show (⟨(32 :: ckL n ds).toArray⟩ : ByteArray).data.toList = 32 :: ckL n ds from rfl, trim_ck n ds hn2 hd] at ht2
  rw [hPB] at hpy ht2
  have hne : ckL n ds ≠ [] := by simp [ckL]
  have hem : (ckL n ds).isEmpty = false := by cases h : ckL n ds with
    | nil => exact absurd h hne
    | cons => rfl
  obtain ⟨C, hC⟩ : ∃ C, ckL n ds = C := ⟨_, rfl⟩
  rw [hC] at ht2 hne hem
  obtain ⟨S, hS⟩ : ∃ S, (⟨(hdL n ds).toArray⟩ : ByteArray) = S := ⟨_, rfl⟩
  rw [hS] at hsp ⊢
  have HSP := Lib.hid hsp; have HPN := Lib.hid hpn; have HPY := Lib.hid hpy; have HT1 := Lib.hid ht1; have HT2 := Lib.hid ht2; have HI := Lib.hid (And.intro hb0 hk0); have HSB := Lib.hid hB
  clear hsp hpn hpy ht1 ht2 hb0 hk0 hB hC hW0 hn2 hn hd hl hm hg hPB hS
  go_enter Tryz.func91, Tryz.ntmps91
  go_wp2_with fail
  refine (HSP.out).mono ?_
  rintro e w1 ⟨rfl, rfl⟩
  go_wp2
  go_loopw [13, 4, 5] (fun iv lv nv wr => CkR n ds PB w.heap.size w B iv lv nv wr) (fun iv _ _ _ => 2 - (intOf iv).toNat)
  case atStart => exact ⟨HI.out.1, HI.out.2, .inl ⟨rfl, rfl, rfl⟩⟩
  case round =>
    clear HI
    obtain ⟨hb, hk, hcase⟩ := hrel
    have c0 := hk.cell 0 _ rfl
    have c1 := hk.cell 1 _ rfl
    have HR := Lib.hid (And.intro hb hk)
    rcases hcase with ⟨rfl, rfl, rfl⟩ | ⟨rfl, rfl, rfl⟩ | ⟨rfl, rfl, hck⟩
    · clear hb hk c1
      go_wp2_with fail
      refine (HT1.out _).mono ?_
      rintro e w2 ⟨rfl, hb2⟩
      have HR2 := Lib.hid (And.intro (HR.out.1.trans (hb2.mono HR.out.1.size)) (HR.out.2.later hb2))
      have HP2 := Lib.hid (HPN.out _ HR2.out.1)
      clear hb2
      go_wp2_with fail
      refine (HP2.out).mono ?_
      rintro e w3 ⟨rfl, hb3⟩
      have HR3 := Lib.hid (And.intro (HR2.out.1.trans (hb3.mono HR2.out.1.size)) (HR2.out.2.later hb3))
      clear hb3
      go_wp2
      go_roundw
      case rel => exact ⟨HR3.out.1.alloc HR3.out.1.size _, HR3.out.2.alloc _, .inr (.inl ⟨rfl, rfl, rfl⟩)⟩
      case measure => simp [intOf]
    · clear hb hk c0
      go_wp2_with fail
      refine (HT2.out _).mono ?_
      rintro e w2 ⟨rfl, hb2⟩
      have HR2 := Lib.hid (And.intro (HR.out.1.trans (hb2.mono HR.out.1.size)) (HR.out.2.later hb2))
      have HP2 := Lib.hid (HPY.out _ HR2.out.1)
      clear hb2
      go_wp2_with fail
      refine (HP2.out).mono ?_
      rintro e w3 ⟨rfl, hb3⟩
      have HR3 := Lib.hid (And.intro (HR2.out.1.trans (hb3.mono HR2.out.1.size)) (HR2.out.2.later hb3))
      have hs3 := HR3.out.1.size
      clear hb3
      go_wp2_with (at_builtin; refine wpList_append_own_at _ rfl (.tmp 26) (.tmp 28) 125 rfl w.heap.size 128 i0 (.agg #[.string ByteArray.empty, .string ByteArray.empty]) 2 32 Tryz.underlying125 hi0 hz0 hz1 hz2 rfl (by decide) _ 0 [] rfl (World.ownsRow_nil _ _ _ _) ⟨w3.heap.size + 1, 0, none⟩ 1 1 [.string ⟨n.toArray⟩, .string ⟨ds.toArray⟩] rfl rfl (cells_new2 _ _ _ _) (by simp [Value.oneCell']) (by unfold maxLen; decide) (by decide) ?d0 ?_)
      case d0 => (try simp); omega
      intro v1 w7 hI1 hg7 _ hloc
      have hb7 := ((HR3.out.1.alloc HR3.out.1.size _).alloc (alloc_le HR3.out.1.size _) _).grown hg7 (by simp; omega) (fun j hj => by simp [Value.ownBlock] at hj)
      have hk7 := ((HR3.out.2.alloc _).alloc _).grown hg7 (by simp [Value.ownBlock])
      have HX := Lib.hid (And.intro hb7 (And.intro hk7 (ckIs_of (by simpa using hI1))))
      clear hI1 hg7 hloc hb7 hk7 hs3
      go_wp2
      go_roundw
      case rel => exact ⟨HX.out.1, HX.out.2.1, .inr (.inr ⟨rfl, rfl, HX.out.2.2⟩)⟩
      case measure => simp [intOf]
    · have HX := Lib.hid hck
      clear hck hb hk c0 c1
      go_wp2
      go_ret2
      exact ⟨_, rfl, HX.out, HR.out.1⟩
end Go.Proofs.YtdlpbpikhmciaaaGreatDoor
namespace Go.Proofs.YtdlpbpikhmciaaaGreatDoor
open Go.RowKit
set_option linter.unusedSimpArgs false
set_option linter.unusedVariables false
set_option maxRecDepth 1000000
set_option maxHeartbeats 2000000 in
theorem ckpath_any (w : World) : Calls Tryz.prog 143 #[.string ⟨#[47]⟩] w fun e w' => e = .returned (.bool true) ∧ w' = w := by
  have hp := Tryz.strings_HasPrefix ⟨#[47]⟩ ⟨#[47]⟩
  have HP := Lib.hid hp; clear hp
  go_enter Tryz.func143, Tryz.ntmps143
  go_wp2
  go_loopw [6] (fun iv wr => (iv = .int .i64 0 ∨ iv = .int .i64 1) ∧ wr = w) (fun iv _ => 1 - (intOf iv).toNat)
  case atStart => exact ⟨.inl rfl, rfl⟩
  case round =>
    obtain ⟨rfl | rfl, rfl⟩ := hrel
    · go_wp2
      go_roundw
      case rel => exact ⟨.inr rfl, by first | rfl | trivial⟩
      case measure => simp [intOf]
    · go_wp2_with fail
      refine (HP.out _).mono ?_
      rintro e w ⟨rfl, rfl⟩
      go_wp2
      go_ret
      exact ⟨rfl, rfl⟩
/-- The closure that says an attribute: where there is none. -/
theorem cksay_no (t : ByteArray) (p : Option Addr) (w : World) : Calls Tryz.prog 145 #[.bool false, .string t, .pointer p] w fun e w' => e = .returned (.tuple #[]) ∧ w' = w := by
  go_enter Tryz.func145, Tryz.ntmps145
  go_wp2
  go_returns
  exact ⟨rfl, rfl⟩
theorem cksay_yes (a t y d : ByteArray) (b : Nat) (w : World) (cs : Array Value) (T : TypeId) (h : BlkIs w b cs T) (h0 : cs[0]? = some (.string a)) (hy : (⟨#[59, 32]⟩ : ByteArray) ++ t = y) (hd : a ++ y = d) (hl : a.size + y.size ≤ 100000) (hl2 : t.size ≤ 10000) :
    Calls Tryz.prog 145 #[.bool true, .string t, .pointer (some ⟨b, 0, none⟩)] w fun e w' => e = .returned (.tuple #[]) ∧ w' = w.setCell ⟨b, 0, none⟩ (.string d) := by
  have c0 := h.cell 0 _ h0
  have g0 := h.free 0
  have lt := h.lt
  have n1 : ¬ 9223372036854775807 < 2 + t.size := by omega
  have n2 : ¬ 9223372036854775807 < a.size + y.size := by omega
  clear h hl hl2
  go_enter Tryz.func145, Tryz.ntmps145
  go_wp2
  go_returns
  exact ⟨rfl, rfl⟩
abbrev scC (n d : ByteArray) : Array Value := #[.string n, .string d, .string ⟨#[47]⟩, .string ⟨#[]⟩, .int .i64 0, .bool false, .int .i64 0, .bool false, .bool false, .bool false, .int .i64 0]
def pthL : List UInt8 := [80, 97, 116, 104, 61, 47]
def ckSet (n d : List UInt8) : List UInt8 := ckL n d ++ ([59, 32] ++ pthL)
theorem ck_ba (l m r : List UInt8) (h : l ++ m = r) : (⟨l.toArray⟩ : ByteArray) ++ ⟨m.toArray⟩ = ⟨r.toArray⟩ := by
  subst h; exact ck_byt (by simp)
set_option maxHeartbeats 16000000 in
theorem ckprintset_any (n ds : List UInt8) (hn : isTok n = true) (hd : ds.all qdg = true) (hl : n.length + ds.length ≤ 4096) (w : World) (hg : SgAt w) (hP : PowAt w) (hD : DaysAt w) :
    Calls Tryz.prog 93 #[.agg (scC ⟨n.toArray⟩ ⟨ds.toArray⟩)] w fun e w' => e = .returned (.tuple #[.string ⟨(ckSet n ds).toArray⟩, .int .i64 0]) ∧ Below w.heap.size w w' := by
  obtain ⟨B, hB⟩ : ∃ B, w.heap.size = B := ⟨_, rfl⟩
  obtain ⟨W0, hW0⟩ : ∃ W, w.alloc (.cells (scC ⟨n.toArray⟩ ⟨ds.toArray⟩) 133) = W := ⟨_, rfl⟩
  have hb0 : Below w.heap.size w W0 := by rw [← hW0]; exact ck_below _ _
  have hk0 : BlkIs W0 B (scC ⟨n.toArray⟩ ⟨ds.toArray⟩) 133 := by rw [← hW0, ← hB]; exact blkIs_new _ _ _
  have hrt := ckright_any ⟨n.toArray⟩ ⟨ds.toArray⟩ W0 hn (by rw [size_mk, size_mk]; exact hl) hd (hg.below hb0)
  have hpr := ckprint0 W0 (hP.below hb0) (hD.below hb0)
  have hit := fun (W : World) (h : Below w.heap.size w W) => oitoa_any 0 W (by decide) (by decide) (hP.below h)
  rw [itoa_0] at hit
  obtain ⟨A, hA⟩ : ∃ A, n ++ [61] = A := ⟨_, rfl⟩
  obtain ⟨C, hC⟩ : ∃ C, ckL n ds = C := ⟨_, rfl⟩
  obtain ⟨PT, hPT⟩ : ∃ P, (⟨#[80, 97, 116, 104, 61]⟩ : ByteArray) ++ ⟨#[47]⟩ = P := ⟨_, rfl⟩
  have hPz : PT.size = 6 := by rw [← hPT]; rfl
  have hPe : PT = ⟨pthL.toArray⟩ := by rw [← hPT]; rfl
  obtain ⟨Y, hY⟩ : ∃ Y, (⟨#[59, 32]⟩ : ByteArray) ++ PT = Y := ⟨_, rfl⟩
  have hYz : Y.size = 8 := by rw [← hY, ByteArray.size_append, hPz]; rfl
  obtain ⟨D, hD2⟩ : ∃ D, ckSet n ds = D := ⟨_, rfl⟩
  have hAl : A.length = n.length + 1 := by rw [← hA]; simp
  have hCl : C.length = n.length + 1 + ds.length := by rw [← hC]; simp [ckL]; omega
  have e1 : (⟨n.toArray⟩ : ByteArray) ++ ⟨#[61]⟩ = ⟨A.toArray⟩ := ck_ba n [61] A hA
  have e2 : (⟨A.toArray⟩ : ByteArray) ++ ⟨ds.toArray⟩ = ⟨C.toArray⟩ := ck_ba A ds C (by rw [← hA, ← hC]; simp [ckL])
  have hd2 : (⟨C.toArray⟩ : ByteArray) ++ Y = ⟨D.toArray⟩ := by rw [← hY, hPe, ← hC, ← hD2]; exact ck_byt (by simp [ckSet])
  rw [hD2]
  have n1 : ¬ 9223372036854775807 < n.length + 1 := by omega
  have n2 : ¬ 9223372036854775807 < A.length + ds.length := by omega
  have HSY := Lib.hid (fun (W : World) (b : Nat) (h : BlkIs W b #[.string ⟨C.toArray⟩] 9) => cksay_yes ⟨C.toArray⟩ PT Y ⟨D.toArray⟩ b W _ _ h rfl hY hd2 (by rw [size_mk, hYz]; omega) (by rw [hPz]; decide))
  have HSN := Lib.hid cksay_no
  have HRT := Lib.hid hrt; have HPR := Lib.hid hpr; have HIT := Lib.hid hit
  have HW0 := Lib.hid hW0; have HI := Lib.hid (And.intro hb0 hk0); have HSB := Lib.hid hB
  clear hW0 hb0 hk0 hrt hpr hit hA hC hY hAl hCl hYz hPz hPe hd2 hn hd hl hg hP hD hD2
  go_enter Tryz.func93, Tryz.ntmps93
  go_upto_region 1 with fail
  rw [HW0.out]
  have c0 := HI.out.2.cell 0 _ rfl
  have c1 := HI.out.2.cell 1 _ rfl
  have c6 := HI.out.2.cell 6 _ rfl
  go_wp2_with fail
  refine (HRT.out).mono ?_
  rintro e w1 ⟨rfl, rfl⟩
  go_wp2_with fail
  refine (HPR.out).mono ?_
  rintro e w2 ⟨dt, rfl, hdt, hb2⟩
  have HI2 := Lib.hid (And.intro (HI.out.1.trans (hb2.mono HI.out.1.size)) (HI.out.2.later hb2))
  clear hb2 c0 c1 c6 HI
  have c0 := HI2.out.2.cell 0 _ rfl
  have c1 := HI2.out.2.cell 1 _ rfl
  have c2 := HI2.out.2.cell 2 _ rfl
  have c3 := HI2.out.2.cell 3 _ rfl
  have c4 := HI2.out.2.cell 4 _ rfl
  have c5 := HI2.out.2.cell 5 _ rfl
  have c6 := HI2.out.2.cell 6 _ rfl
  have c7 := HI2.out.2.cell 7 _ rfl
  have c8 := HI2.out.2.cell 8 _ rfl
  have c9 := HI2.out.2.cell 9 _ rfl
  have c10 := HI2.out.2.cell 10 _ rfl
  go_wp2_with fail
  refine (ckpath_any _).mono ?_
  rintro e wq ⟨rfl, rfl⟩
  obtain ⟨O, hO⟩ : ∃ O, wq.heap.size = O := ⟨_, rfl⟩
  obtain ⟨W3, hW3⟩ : ∃ W, wq.alloc (.cells #[.string ⟨C.toArray⟩] 9) = W := ⟨_, rfl⟩
  have hOB : B ≠ O := by have := HI2.out.2.lt; omega
  have hwO : w.heap.size ≤ O := by have := HI2.out.1.size; omega
  have hb3 : Below w.heap.size w W3 := by rw [← hW3]; exact HI2.out.1.alloc HI2.out.1.size _
  have hB3 : BlkIs W3 B (scC ⟨n.toArray⟩ ⟨ds.toArray⟩) 133 := by rw [← hW3]; exact HI2.out.2.alloc _
  have hO3 : BlkIs W3 O #[.string ⟨C.toArray⟩] 9 := by rw [← hW3, ← hO]; exact blkIs_new _ _ _
  have hY3 := HSY.out W3 O hO3
  obtain ⟨W4, hW4⟩ : ∃ W, W3.setCell ⟨O, 0, none⟩ (.string ⟨D.toArray⟩) = W := ⟨_, rfl⟩
  rw [hW4] at hY3
  have hb4 : Below w.heap.size w W4 := by rw [← hW4]; exact hb3.setCell (p := ⟨O, 0, none⟩) hwO _
  have hB4 : BlkIs W4 B (scC ⟨n.toArray⟩ ⟨ds.toArray⟩) 133 := by rw [← hW4]; exact hB3.setOther _ _ hOB
  have hO4 : BlkIs W4 O #[.string ⟨D.toArray⟩] 9 := by rw [← hW4]; exact hO3.set 0 _
  have HW3 := Lib.hid hW3; have HI3 := Lib.hid hB3; have HY3 := Lib.hid hY3; have HI4 := Lib.hid (And.intro hb4 (And.intro hB4 hO4))
  clear hW3 hOB hwO hb3 hB3 hO3 hY3 hW4 hb4 hB4 hO4 HSY
  go_upto_region 16 with fail
  rw [HW3.out]
  clear c0 c1 c2 c3 c4 c5 c6 c7 c8 c9 c10 HI2
  have c2 := HI3.out.cell 2 _ rfl
  go_wp2_with fail
  refine (HY3.out).mono ?_
  rintro e w5 ⟨rfl, rfl⟩
  clear c2
  have c3 := HI4.out.2.1.cell 3 _ rfl
  go_wp2_with fail
  refine (HSN.out _ _ _).mono ?_
  rintro e w6 ⟨rfl, rfl⟩
  clear c3
  go_upto_region 18 with fail
  refine wp_region_textH (fun W => BlkIs W B (scC ⟨n.toArray⟩ ⟨ds.toArray⟩) 133) [(0, true), (1, true), (2, true), (3, true), (4, true), (5, false), (6, true), (7, false)] (by kernel_rfl) (by kernel_rfl) (by kernel_rfl) (by kernel_rfl) HI4.out.2.1 ?_
  iterate 5 (refine wpTxH_take rfl (by kernel_rfl) (v := ?_) ?_ ?_; rotate_left; · (intro W hS; have t4 := hS.cell 4 _ rfl; have t5 := hS.cell 5 _ rfl; clear hS; go_simp; with_reducible rfl))
  refine wpTxH_step rfl (fun K hK => ?_)
  go_simp
  refine (HIT.out _ HI4.out.1.drew).mono ?_
  rintro e w7 ⟨rfl, hb7⟩
  have hbd := HI4.out.1.drew.trans (hb7.mono HI4.out.1.drew.size)
  have hBd := BlkIs.later (show BlkIs w6.drew B (scC ⟨n.toArray⟩ ⟨ds.toArray⟩) 133 from HI4.out.2.1) hb7
  have hOd := BlkIs.later (show BlkIs w6.drew O #[.string ⟨D.toArray⟩] 9 from HI4.out.2.2) hb7
  have HI7 := Lib.hid (And.intro hbd (And.intro hBd hOd))
  clear hbd hBd hOd hb7 HI4
  refine hK _ _ HI7.out.2.1 ?_
  clear hK K
  refine wpTxH_take rfl (by kernel_rfl) (v := ?_) ?_ ?_; rotate_left; · (intro W hS; clear hS; go_simp; with_reducible rfl)
  refine wpTxH_step rfl (fun K hK => ?_)
  go_simp
  refine (HSN.out _ _ _).mono ?_
  rintro e w8 ⟨rfl, rfl⟩
  refine hK _ _ HI7.out.2.1 ?_
  clear hK K
  refine wpTxH_nil ?_
  go_simp
  have c7 := HI7.out.2.1.cell 7 _ rfl
  have n8 : ¬ 9223372036854775807 < 8 + dt.size := by omega
  go_wp2_with fail
  refine (HSN.out _ _ _).mono ?_
  rintro e w9 ⟨rfl, rfl⟩
  have c8 := HI7.out.2.1.cell 8 _ rfl
  go_wp2_with fail
  refine (HSN.out _ _ _).mono ?_
  rintro e w10 ⟨rfl, rfl⟩
  have c9 := HI7.out.2.1.cell 9 _ rfl
  go_wp2_with fail
  refine (HSN.out _ _ _).mono ?_
  rintro e w11 ⟨rfl, rfl⟩
  have c10 := HI7.out.2.1.cell 10 _ rfl
  go_wp2_with fail
  refine (HSN.out _ _ _).mono ?_
  rintro e w12 ⟨rfl, rfl⟩
  go_wp2_with fail
  refine (HSN.out _ _ _).mono ?_
  rintro e w13 ⟨rfl, rfl⟩
  go_wp2_with fail
  refine (HSN.out _ _ _).mono ?_
  rintro e w14 ⟨rfl, rfl⟩
  have o0 := HI7.out.2.2.cell 0 _ rfl
  go_wp2
  go_ret2
  exact ⟨rfl, HI7.out.1⟩
end Go.Proofs.YtdlpbpikhmciaaaGreatDoor
namespace Go.Proofs.YtdlpbpikhmciaaaGreatDoor
open Go.RowKit
set_option linter.unusedSimpArgs false
set_option linter.unusedVariables false
set_option maxRecDepth 1000000
def numV (l : List UInt8) : Value := if l.all qdg = true then .tuple #[.int .i64 ((decV l : Nat) : Int), .int .i64 0] else .tuple #[.int .i64 0, .int .i64 11]
theorem numV_yes (l : List UInt8) (h : l.all qdg = true) : numV l = .tuple #[.int .i64 ((decV l : Nat) : Int), .int .i64 0] := by unfold numV; rw [if_pos h]
theorem numV_no (l : List UInt8) (h : l.all qdg = false) : numV l = .tuple #[.int .i64 0, .int .i64 11] := by unfold numV; rw [if_neg (by rw [h]; simp)]
theorem lower_1 (c d : UInt8) (hd : low c = d) (w : World) : Calls Tryz.prog 148 #[.string ⟨#[c]⟩] w fun e w' => e = .returned (.string ⟨#[d]⟩) ∧ Below w.heap.size w w' := by
  have h := olower_any ⟨#[c]⟩ w (show 1 ≤ 1099511627776 from by decide)
  rwa [show lowL (⟨#[c]⟩ : ByteArray).data.toList = [low c] from rfl, hd] at h
theorem hex_call (d : UInt8) (z : Int) (hz : Lib.indexByte hexT d = z) (w : World) : Calls Tryz.prog 163 #[.string ⟨#[48, 49, 50, 51, 52, 53, 54, 55, 56, 57, 97, 98, 99, 100, 101, 102]⟩, .int .u8 (d.toNat : Int)] w fun e w' => e = .returned (.int .i64 z) ∧ w' = w := by
  have h := Tryz.strings_IndexByte ⟨#[48, 49, 50, 51, 52, 53, 54, 55, 56, 57, 97, 98, 99, 100, 101, 102]⟩ (d.toNat : Int) w
  rw [show ((d.toNat : Int).toNat).toUInt8 = d from by simp] at h
  rwa [show (⟨#[48, 49, 50, 51, 52, 53, 54, 55, 56, 57, 97, 98, 99, 100, 101, 102]⟩ : ByteArray).data.toList = hexT from rfl, hz] at h
theorem ext_1n (t : ByteArray) (i j : Nat) (hj : i + 1 = j) (h : i < t.size) (c : UInt8) (hc : t[i]'h = c) : t.extract i j = ⟨#[c]⟩ := by
  rw [ext_mk, ← hj, Nat.add_sub_cancel_left, drop_get t i h, hc]; rfl
theorem decV_take (l : List UInt8) (i : Nat) (c : UInt8) (h : l[i]? = some c) : decV (l.take (i + 1)) = decV (l.take i) * 10 + (c.toNat - 48) := by
  rw [List.take_add_one, h, Option.toList_some, decV_snoc]
theorem decV_99 (l : List UInt8) (i : Nat) (hl : l.length = 3) (hi : i < 3) (h : (l.take i).all qdg = true) : decV (l.take i) ≤ 99 := by
  have h1 := decV_lt i (l.take i) (by rw [List.length_take]; omega) h
  have h2 : 10 ^ i ≤ 10 ^ 2 := Nat.pow_le_pow_right (by decide) (by omega)
  omega
theorem w64n (n : Nat) (h : n ≤ 2199023255552) : wrap64 (n : Int) = (n : Int) := by unfold wrap64; omega
theorem qdg_9 (c : UInt8) (h : qdg c = true) : c.toNat - 48 ≤ 9 := by
  unfold qdg at h
  rw [decide_eq_true_eq] at h
  omega
set_option maxHeartbeats 4000000 in
theorem number_3 (s : ByteArray) (w : World) (hs : s.size = 3) :
    Calls Tryz.prog 141 #[.string s, .int .i64 1000, .int .i64 10] w fun e w' => e = .returned (numV s.data.toList) ∧ Below w.heap.size w w' := by
  have hne := full_o s (by omega)
  have hne2 := full_o2 s (by omega)
  have hl3 : s.data.toList.length = 3 := by rw [size_list]; exact hs
  have HL3 := Lib.hid hl3; clear hl3
  have s3 : (s.size : Int) = 3 := by omega
  have HS := Lib.hid hs
  clear hs
  go_enter Tryz.func141, Tryz.ntmps141
  go_wp2
  go_loopw [18, 8, 9] (fun iv nv bv wr => ∃ i : Nat, iv = .int .i64 i ∧ i ≤ 3 ∧ (s.data.toList.take i).all qdg = true ∧ nv = .int .i64 ((decV (s.data.toList.take i) : Nat) : Int) ∧ bv = .bool false ∧ Below w.heap.size w wr) (fun iv _ _ _ => 3 - (intOf iv).toNat)
  case atStart => exact ⟨0, rfl, Nat.zero_le _, rfl, rfl, rfl, Below.refl _ _⟩
  case round =>
    obtain ⟨i, rfl, hi, hall, rfl, rfl, hb⟩ := hrel
    by_cases hlt : i < 3
    · have his : i < s.size := by rw [HS.out]; exact hlt
      obtain ⟨c, hc⟩ : ∃ c, s[i]'his = c := ⟨_, rfl⟩
      have hget := list_get s i his
      rw [hc] at hget
      obtain ⟨j, hj⟩ : ∃ j, i + 1 = j := ⟨_, rfl⟩
      have f1 : (i : Int) + 1 = (j : Int) := by omega
      have hx := ext_1n s i j hj his c hc
      have k0 : (0 : Int) ≤ (i : Int) := Int.natCast_nonneg _
      have k1 : (i : Int) < 3 := by omega
      have k2 : (i : Int) ≤ (j : Int) := by omega
      have k3 : (j : Int) ≤ 3 := by omega
      have hjb : j ≤ 2199023255552 := by omega
      obtain ⟨d, hd⟩ : ∃ d, low c = d := ⟨_, rfl⟩
      have hl1 := lower_1 c d hd
      have HL1 := Lib.hid hl1
      have hn99 := decV_99 s.data.toList i HL3.out hlt hall
      have hdv := decV_take s.data.toList i c hget
      obtain ⟨N, hN⟩ : ∃ N, decV (s.data.toList.take i) = N := ⟨_, rfl⟩
      rw [hN] at hn99 hdv ⊢
      clear hl1 hN hc
      cases hq : qdg c with
      | true =>
        have hz := hex_yes c hq
        rw [hd] at hz
        have h9 := qdg_9 c hq
        have hall2 := all_take qdg _ i c hget hall hq
        obtain ⟨x, hxx⟩ : ∃ x, c.toNat - 48 = x := ⟨_, rfl⟩
        rw [hxx] at hz h9 hdv
        have hhc := hex_call d x hz
        have HDV := Lib.hid hdv
        clear hz hdv
        have n1 : (N : Int) ≤ 100 := by omega
        have n2 : (N : Int) * 10 ≤ 1000 - (x : Int) := by omega
        have n3 : decide ((1000 : Int) - (x : Int) < (N : Int) * 10) = false := decide_eq_false (by omega)
        have x0 : (0 : Int) ≤ (x : Int) := Int.natCast_nonneg _
        have x1 : (x : Int) < 10 := by omega
        have hwj := w64n j hjb
        have HX := Lib.hid (And.intro hall2 (And.intro HDV.out (And.intro hj hb)))
        have HHC := Lib.hid hhc
        clear hall2 hj hb hhc h9 hall hget hq hd hxx hn99 hjb
        go_wp2_with fail
        refine (HL1.out _).mono ?_
        rintro e w1 ⟨rfl, hb1⟩
        have hb2 := HX.out.2.2.2.trans (hb1.mono HX.out.2.2.2.size)
        have HB2 := Lib.hid hb2
        clear hb1 hb2
        go_wp2_with fail
        refine (HHC.out _).mono ?_
        rintro e w2 ⟨rfl, rfl⟩
        go_wp2
        clear hwj
        go_roundw
        case rel => exact ⟨j, rfl, by have := HX.out.2.2.1; omega, by rw [← HX.out.2.2.1]; exact HX.out.1, by rw [← HX.out.2.2.1, HX.out.2.1]; first | rfl | (congr 1; omega) | simp, by first | rfl | trivial, HB2.out⟩
        case measure => simp [intOf]; omega
      | false =>
        have hz := hex_no c hq
        obtain ⟨z, hzz⟩ : ∃ z, Lib.indexByte hexT (low c) = z := ⟨_, rfl⟩
        rw [hzz] at hz
        rw [hd] at hzz
        have hhc := hex_call d z hzz
        have hr := numV_no s.data.toList (all_not qdg _ i c hget hq)
        have hwj := w64n j hjb
        have HX := Lib.hid (And.intro hr hb)
        have HHC := Lib.hid hhc
        clear hr hb hhc hzz hall hget hq hd hdv hn99
        go_wp2_with fail
        refine (HL1.out _).mono ?_
        rintro e w1 ⟨rfl, hb1⟩
        have hb2 := HX.out.2.trans (hb1.mono HX.out.2.size)
        have HB2 := Lib.hid hb2
        clear hb1 hb2
        go_wp2_with fail
        refine (HHC.out _).mono ?_
        rintro e w2 ⟨rfl, rfl⟩
        rcases hz with hz | hz
        · go_wp2
          go_ret2
          rw [HX.out.1]
          exact ⟨rfl, HB2.out⟩
        · have hz2 : ¬ z < 0 := by omega
          have hz3 : decide (z < 0) = false := decide_eq_false hz2
          go_wp2
          go_ret2
          rw [HX.out.1]
          exact ⟨rfl, HB2.out⟩
    · obtain rfl : i = 3 := by omega
      rw [List.take_of_length_le (by rw [HL3.out]; exact Nat.le_refl _)] at hall ⊢
      have hr := numV_yes _ hall
      have HX := Lib.hid (And.intro hr hb)
      clear hr hb hall
      go_wp2
      go_ret2
      rw [HX.out.1]
      exact ⟨rfl, HX.out.2⟩
theorem decimal_3 (s : ByteArray) (w : World) (hs : s.size = 3) :
    Calls Tryz.prog 92 #[.string s, .int .i64 1000] w fun e w' => e = .returned (numV s.data.toList) ∧ Below w.heap.size w w' := by
  have h := number_3 s w hs
  have hv : ∃ a b : Value, numV s.data.toList = .tuple #[a, b] := by
    unfold numV
    split
    · exact ⟨_, _, rfl⟩
    · exact ⟨_, _, rfl⟩
  obtain ⟨a, b, hv⟩ := hv
  rw [hv] at h ⊢
  have H := Lib.hid h
  clear h hv
  go_enter Tryz.func92, Tryz.ntmps92
  go_wp2_with fail
  refine (H.out).mono ?_
  rintro e w1 ⟨rfl, hb⟩
  go_wp2
  go_ret2
  exact ⟨rfl, hb⟩
end Go.Proofs.YtdlpbpikhmciaaaGreatDoor
