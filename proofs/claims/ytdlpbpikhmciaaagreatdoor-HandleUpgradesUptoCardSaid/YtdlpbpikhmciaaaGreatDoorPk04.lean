/- HdQ, Build, WrK, Oct4: texts of the seat, one behind the other (a claim holds at most sixty). Conditions: each theorem names its own. -/
import Derived.Test.YtdlpbpikhmciaaaGreatDoorPk01
import Derived.Test.YtdlpbpikhmciaaaGreatDoorProg
import Derived.WalkKit
import Derived.WalkSpells
import Derived.WalkLawsBesides
import Derived.Lib.Hide
import Derived.Lib.Builder
import Derived.Shelf.Strings.Builder1
import Derived.Test.YtdlpbpikhmciaaaGreatDoorPk00
import Derived.Lib.AppendStr
import Derived.Lib.OthersKept
import Derived.Test.YtdlpbpikhmciaaaGreatDoorPk03
namespace Go.Proofs.YtdlpbpikhmciaaaGreatDoor
open Go.RowKit
set_option linter.unusedSimpArgs false
set_option linter.unusedVariables false
set_option maxRecDepth 100000
def seg (l : List UInt8) (a b : Nat) : List UInt8 := (l.drop a).take (b - a)
theorem seg_len (l : List UInt8) (a b : Nat) (hb : b ≤ l.length) (h : a ≤ b) : (seg l a b).length = b - a := by
  unfold seg; rw [List.length_take, List.length_drop]; omega
theorem seg_nil (l : List UInt8) (a : Nat) : seg l a a = [] := by unfold seg; rw [Nat.sub_self]; rfl
theorem seg_app (l : List UInt8) (a b n : Nat) (h : a ≤ b) : seg l a (b + n) = seg l a b ++ (l.drop b).take n := by
  unfold seg
  rw [show b + n - a = (b - a) + n by omega, List.take_add, List.drop_drop, show a + (b - a) = b by omega]
theorem seg_one (l : List UInt8) (a b : Nat) (c : UInt8) (h : a ≤ b) (hc : l[b]? = some c) : seg l a (b + 1) = seg l a b ++ [c] := by
  rw [seg_app l a b 1 h]
  have hlt := (List.getElem?_eq_some_iff.1 hc).1
  have he := (List.getElem?_eq_some_iff.1 hc).2
  rw [List.drop_eq_getElem_cons hlt, he]
  rfl
theorem drop_c (l : List UInt8) (b : Nat) (c : UInt8) (hc : l[b]? = some c) : l.drop b = c :: l.drop (b + 1) := by
  have hlt := (List.getElem?_eq_some_iff.1 hc).1
  have he := (List.getElem?_eq_some_iff.1 hc).2
  rw [List.drop_eq_getElem_cons hlt, he]
theorem mulK (a p n : Nat) (h : a ≤ p * 1048577) : a ≤ (p + n) * 1048577 := Nat.le_trans h (Nat.mul_le_mul_right _ (Nat.le_add_right _ _))
/-- Up to a place: what is written, and what stands open. -/
def RfR (ps : List Par) (l : List UInt8) (fv av : Int) (pos : Nat) (acc : List UInt8) : Prop :=
  (∃ a : Nat, fv = -1 ∧ av = a ∧ a ≤ pos ∧ acc.length + (pos - a) ≤ pos * 1048577 ∧ rf ps none l = (rf ps none (l.drop pos)).map ((acc ++ seg l a pos) ++ ·)) ∨
  (∃ f a : Nat, fv = f ∧ av = a ∧ f ≤ pos ∧ a ≤ pos ∧ acc.length ≤ pos * 1048577 ∧ rf ps none l = (rf ps (some (seg l f pos)) (l.drop pos)).map (acc ++ ·))
theorem rfr_start (ps : List Par) (l : List UInt8) : RfR ps l (-1) 0 0 [] :=
  .inl ⟨0, rfl, rfl, Nat.le_refl _, by simp, by rw [seg_nil]; simp⟩
theorem map_map (o : Option (List UInt8)) (a b : List UInt8) : (o.map (b ++ ·)).map (a ++ ·) = o.map ((a ++ b) ++ ·) := by
  cases o <;> simp
theorem rfr_skip (ps : List Par) (l : List UInt8) (fv av : Int) (pos n : Nat) (acc a : List UInt8) (h : RfR ps l fv av pos acc) (hd : l.drop pos = a ++ l.drop (pos + n)) (ha : a = (l.drop pos).take n) (hl : a.length = n) (hh : ∀ c ∈ a, c.toNat ≠ 125 ∧ c.toNat ≠ 123)
    (hs : ∀ r, rf ps none (a ++ r) = (rf ps none r).map (a ++ ·)) (ht : ∀ m r, rf ps (some m) (a ++ r) = rf ps (some (m ++ a)) r) : RfR ps l fv av (pos + n) acc := by
  rcases h with ⟨x, h1, h2, h3, h4, h5⟩ | ⟨f, x, h1, h2, h3, h3', h4, h5⟩
  · refine .inl ⟨x, h1, h2, by omega, by omega, ?_⟩
    rw [h5, hd, hs, map_map, seg_app l x pos n h3, ← ha, List.append_assoc]
  · refine .inr ⟨f, x, h1, h2, by omega, by omega, mulK _ _ _ h4, ?_⟩
    rw [h5, hd, ht, seg_app l f pos n h3, ← ha]
theorem rfr_text (ps : List Par) (l : List UInt8) (fv av : Int) (pos : Nat) (acc : List UInt8) (c : UInt8) (h : RfR ps l fv av pos acc) (hc : l[pos]? = some c) (h1 : c.toNat ≠ 125) (h2 : c.toNat ≠ 123) : RfR ps l fv av (pos + 1) acc := by
  have hd := drop_c l pos c hc
  refine rfr_skip ps l fv av pos 1 acc [c] h ?_ ?_ rfl ?_ ?_ ?_
  · rw [hd]; rfl
  · rw [hd]; rfl
  · intro d hdm
    obtain rfl : d = c := by simpa using hdm
    exact ⟨h1, h2⟩
  · intro r
    exact rf_none ps c r h1 h2
  · intro m r
    exact rf_some ps m c r h1 h2
theorem rfr_high (ps : List Par) (l : List UInt8) (fv av : Int) (pos n : Nat) (acc a : List UInt8) (h : RfR ps l fv av pos acc) (hd : l.drop pos = a ++ l.drop (pos + n)) (ha : a = (l.drop pos).take n) (hl : a.length = n) (hh : ∀ c ∈ a, 128 ≤ c.toNat) : RfR ps l fv av (pos + n) acc :=
  rfr_skip ps l fv av pos n acc a h hd ha hl (fun c hc => by have := hh c hc; omega) (fun r => rf_none_skip ps a r hh) (fun m r => rf_some_skip ps a r m hh)
theorem rfr_open (ps : List Par) (l : List UInt8) (av : Int) (pos : Nat) (acc : List UInt8) (c : UInt8) (h : RfR ps l (-1) av pos acc) (hc : l[pos]? = some c) (h1 : c.toNat = 123) (hb : pos ≤ l.length) :
    ∃ a : Nat, av = a ∧ a ≤ pos ∧ acc.length + (pos - a) ≤ pos * 1048577 ∧ RfR ps l ((pos + 1 : Nat) : Int) av (pos + 1) (acc ++ seg l a pos) := by
  rcases h with ⟨a, _, h2, h3, h4, h5⟩ | ⟨f, a, h1, _⟩
  · refine ⟨a, h2, h3, h4, .inr ⟨pos + 1, a, rfl, h2, Nat.le_refl _, by omega, ?_, ?_⟩⟩
    · rw [List.length_append, seg_len l a pos hb h3]; exact mulK _ _ _ h4
    · rw [h5, drop_c l pos c hc, rf_open ps c _ h1, seg_nil]
  · omega
theorem rfr_openbad (ps : List Par) (l : List UInt8) (f : Nat) (av : Int) (pos : Nat) (acc : List UInt8) (c : UInt8) (h : RfR ps l f av pos acc) (hc : l[pos]? = some c) (h1 : c.toNat = 123) : rf ps none l = none := by
  rcases h with ⟨a, h1, _⟩ | ⟨f', a, h2, _, _, _, _, h5⟩
  · omega
  · rw [h5, drop_c l pos c hc, rf_twice ps _ c _ h1]; rfl
theorem rfr_stray (ps : List Par) (l : List UInt8) (av : Int) (pos : Nat) (acc : List UInt8) (c : UInt8) (h : RfR ps l (-1) av pos acc) (hc : l[pos]? = some c) (h1 : c.toNat = 125) : rf ps none l = none := by
  rcases h with ⟨a, _, _, _, _, h5⟩ | ⟨f', a, h2, _⟩
  · rw [h5, drop_c l pos c hc, rf_stray ps c _ h1]; rfl
  · omega
theorem rfr_shut (ps : List Par) (l : List UInt8) (f : Nat) (av : Int) (pos : Nat) (acc : List UInt8) (c : UInt8) (h : RfR ps l f av pos acc) (hc : l[pos]? = some c) (h1 : c.toNat = 125) (hn : isNm (seg l f pos) = true) (hv : (valL ps (seg l f pos)).length ≤ 1048576) :
    acc.length ≤ pos * 1048577 ∧ RfR ps l (-1) ((pos + 1 : Nat) : Int) (pos + 1) (acc ++ valL ps (seg l f pos)) := by
  rcases h with ⟨a, h2, _⟩ | ⟨f', a, h2, _, _, _, h4, h5⟩
  · omega
  · obtain rfl : f = f' := by omega
    refine ⟨h4, .inl ⟨pos + 1, rfl, rfl, Nat.le_refl _, ?_, ?_⟩⟩
    · rw [List.length_append]; omega
    · rw [h5, drop_c l pos c hc, rf_shut ps _ c _ h1 hn, map_map, seg_nil, List.append_nil]
theorem rfr_badname (ps : List Par) (l : List UInt8) (f : Nat) (av : Int) (pos : Nat) (acc : List UInt8) (c : UInt8) (h : RfR ps l f av pos acc) (hc : l[pos]? = some c) (h1 : c.toNat = 125) (hn : isNm (seg l f pos) = false) : rf ps none l = none := by
  rcases h with ⟨a, h2, _⟩ | ⟨f', a, h2, _, _, _, h4, h5⟩
  · omega
  · obtain rfl : f = f' := by omega
    rw [h5, drop_c l pos c hc, rf_badname ps _ c _ h1 hn]; rfl
theorem rfr_le (ps : List Par) (l : List UInt8) (f : Nat) (av : Int) (pos : Nat) (acc : List UInt8) (h : RfR ps l f av pos acc) : f ≤ pos := by
  rcases h with ⟨a, h2, _⟩ | ⟨f', a, h2, _, h3, _⟩ <;> omega
theorem rfr_end (ps : List Par) (l : List UInt8) (av : Int) (pos : Nat) (acc : List UInt8) (h : RfR ps l (-1) av pos acc) (hp : pos = l.length) :
    ∃ a : Nat, av = a ∧ a ≤ pos ∧ acc.length + (pos - a) ≤ pos * 1048577 ∧ rf ps none l = some (acc ++ l.drop a) := by
  rcases h with ⟨a, _, h2, h3, h4, h5⟩ | ⟨f', a, h2, _⟩
  · refine ⟨a, h2, h3, h4, ?_⟩
    rw [h5, hp, List.drop_length]
    simp only [rf, Option.map_some, List.append_nil]
    unfold seg
    rw [List.take_of_length_le (by rw [List.length_drop]; exact Nat.le_refl _)]
  · omega
theorem rfr_endbad (ps : List Par) (l : List UInt8) (f : Nat) (av : Int) (pos : Nat) (acc : List UInt8) (h : RfR ps l f av pos acc) (hp : pos = l.length) : rf ps none l = none := by
  rcases h with ⟨a, h2, _⟩ | ⟨f', a, h2, _, _, _, h4, h5⟩
  · omega
  · rw [h5, hp, List.drop_length]; rfl
theorem rfr_cases (ps : List Par) (l : List UInt8) (fv av : Int) (pos : Nat) (acc : List UInt8) (h : RfR ps l fv av pos acc) : fv = -1 ∨ ∃ f : Nat, fv = f := by
  rcases h with ⟨a, h, _⟩ | ⟨f, a, h, _⟩
  · exact .inl h
  · exact .inr ⟨f, h⟩
/-- What Refer answers. -/
def rfT (ps : List Par) (l : List UInt8) : List UInt8 × Nat := match refR ps l with | some x => (x, 0) | none => ([], 180)
theorem rfT_bad (ps : List Par) (l : List UInt8) (h : refR ps l = none) : rfT ps l = ([], 180) := by unfold rfT; rw [h]
theorem rfT_good (ps : List Par) (l x : List UInt8) (h : refR ps l = some x) : rfT ps l = (x, 0) := by unfold rfT; rw [h]
theorem refR_go (ps : List Par) (l : List UInt8) (h0 : l.isEmpty = false) (h1 : isFld l = true) (h2 : (trimL l == l) = true) : refR ps l = rf ps none l := by
  unfold refR; rw [h0, h1, h2]; rfl
theorem refR_empty (ps : List Par) (l : List UInt8) (h0 : l.isEmpty = true) : refR ps l = none := by
  unfold refR; rw [h0]; rfl
theorem refR_nofld (ps : List Par) (l : List UInt8) (h1 : isFld l = false) : refR ps l = none := by
  unfold refR; rw [h1]; simp
theorem refR_notrim (ps : List Par) (l : List UInt8) (h2 : (trimL l == l) = false) : refR ps l = none := by
  unfold refR; rw [h2]; simp
theorem valL_len (n : List UInt8) : ∀ (ps : List Par), (valL ps n).length ≤ totP ps
  | [] => by simp [valL]
  | p :: r => by
    have := valL_len n r
    unfold valL totP
    split <;> omega
end Go.Proofs.YtdlpbpikhmciaaaGreatDoor
namespace Go.Proofs.YtdlpbpikhmciaaaGreatDoor
open Go.RowKit
set_option linter.unusedSimpArgs false
set_option linter.unusedVariables false
set_option maxRecDepth 1000000

theorem infoByte : (Tryz.prog.info? 5).map (fun i => (i.zero, i.size, i.bytes)) = some (some (.int .u8 0), 1, 1) := by kernel_rfl
theorem infoBuilderSize : (Tryz.prog.info? 83).map (fun i => i.size) = some 2 := by kernel_rfl
theorem liesBuilder : liesAt Tryz.prog Tryz.prog.depth 83 (2 / Tryz.prog.cellsOf 83) 0 83 1 = true := by kernel_rfl

theorem copyCheck_used (b : Nat) (w : World) (h0 : w.cell? ⟨b, 0, none⟩ = some (.pointer (some ⟨b, 0, none⟩))) :
    Calls Tryz.prog 70 #[.pointer (some ⟨b, 0, none⟩)] w fun e w' => e = .returned (.tuple #[]) ∧ w' = w := by
  obtain ⟨j, hj, _⟩ := Option.map_eq_some_iff.1 infoBuilderSize
  go_enter Tryz.func70, Tryz.ntmps70
  go_wp2
  rw [Lib.run_neq_ptr_same w _ Tryz.underlying80 hj]
  go_wp2
  go_end0
  exact ⟨rfl, rfl⟩

theorem copyCheck_fresh (b : Nat) (w : World) (h0 : w.cell? ⟨b, 0, none⟩ = some (.pointer none)) (hsh : w.shape? b = some (83, 2)) (hfz : w.frozen? ⟨b, 0, none⟩ = false) :
    Calls Tryz.prog 70 #[.pointer (some ⟨b, 0, none⟩)] w fun e w' => e = .returned (.tuple #[]) ∧ w' = w.setCell ⟨b, 0, none⟩ (.pointer (some ⟨b, 0, none⟩)) := by
  obtain ⟨j, hj, hjs⟩ := Option.map_eq_some_iff.1 infoBuilderSize
  go_enter Tryz.func70, Tryz.ntmps70
  go_wp2
  rw [Lib.run_to_unsafe w ⟨b, 0, none⟩ Tryz.underlying80 Tryz.underlying142 hj (by rw [hjs]; decide) hsh (Nat.zero_lt_succ 1)]
  simp only [Result.andThen]
  rw [Oper.upon_value]
  go_wp2
  rw [run_callFunc_extern Tryz.func105 (by kernel_rfl) (by kernel_rfl) (by kernel_rfl) (e := Extern.AbiNoEscape.same) (by kernel_rfl)]
  rw [Lib.run_noEscape]
  simp only [Result.andThen]
  rw [Oper.upon_value]
  go_wp2
  rw [Lib.run_from_unsafe w ⟨b, 0, none⟩ Tryz.underlying142 Tryz.underlying80 hj hsh liesBuilder]
  simp only [Result.andThen]
  rw [Oper.upon_value]
  go_wp2
  go_end0
  exact ⟨rfl, rfl⟩

theorem copyCheck_any (B b : Nat) (bs : List Value) (w : World) (h : Lib.IsBuilder 83 5 B b bs w) :
    Calls Tryz.prog 70 #[.pointer (some ⟨b, 0, none⟩)] w fun e w' => e = .returned (.tuple #[]) ∧ (Lib.BuilderAt 83 5 B b (.pointer (some ⟨b, 0, none⟩)) bs w' ∧ Below B w w') := by
  rcases h with h | h
  · refine (copyCheck_fresh b w h.cell0 h.shape h.frozen0).mono ?_
    rintro e w' ⟨rfl, rfl⟩
    exact ⟨rfl, h.used _, (Below.refl B w).setCell (p := ⟨b, 0, none⟩) h.1 _⟩
  · refine (copyCheck_used b w h.cell0).mono ?_
    rintro e w' ⟨rfl, rfl⟩
    exact ⟨rfl, h, Below.refl B _⟩

theorem writeByte_any (B b : Nat) (bs : List Value) (c : Int) (w : World) (h : Lib.IsBuilder 83 5 B b bs w) (hlen : bs.length + 1 ≤ 140737488355328) (hBw : B ≤ w.heap.size) :
    Calls Tryz.prog 113 #[.pointer (some ⟨b, 0, none⟩), .int .u8 c] w fun e w' => e = .returned .nilIface ∧ (Lib.IsBuilder 83 5 B b (bs ++ [.int .u8 c]) w' ∧ Below B w w') := by
  obtain ⟨i0, hi, hz0, hz1, hz2⟩ := info_parts infoByte
  go_enter Tryz.func113, Tryz.ntmps113
  go_wp2_with (go_at_call 70; refine (copyCheck_any B b bs _ h).mono ?_)
  rintro e w1 ⟨rfl, h1, hb1⟩
  obtain ⟨hB, v, hbk, hown, hne⟩ := h1
  have c0 : w1.cell? ⟨b, 0, none⟩ = some (.pointer (some ⟨b, 0, none⟩)) := by rw [Lib.cell_of_heap hbk]; rfl
  have c1 : w1.cell? ⟨b, 1, none⟩ = some v := by rw [Lib.cell_of_heap hbk]; rfl
  go_wp2_with (at_builtin; refine wpList_append_own _ rfl _ _ 81 rfl B 5 i0 (.int .u8 0) 1 1 Tryz.underlying81 hi hz0 hz1 hz2 rfl (by decide) _ _ _ rfl (hown.alloc _) ⟨w1.heap.size, 0, none⟩ 1 1 [.int .u8 c] rfl rfl ?c1 ?c2 ?c3 ?c4 ?c5 ?_)
  case c1 =>
    intro j u hj
    match j, hj with
    | 0, hj => simp at hj; subst hj; simp [Addr.add]
  case c2 => intro u hu; simp at hu; subst hu; rfl
  case c3 => unfold maxLen; omega
  case c4 => omega
  case c5 => have := hb1.size; simp; omega
  intro v' w2 hown' hgrow _
  have hlt : b < w1.heap.size := by
    rcases Nat.lt_or_ge b w1.heap.size with h' | h'
    · exact h'
    · simp [Array.getElem?_eq_none h'] at hbk
  have hb2 : w2.heap[b]? = some (.cells #[.pointer (some ⟨b, 0, none⟩), v] 83 (0, 0)) := by
    rw [hgrow.block b (by simp; omega) (fun e => hne e.symm), Lib.alloc_old w1 _ b hlt]
    exact hbk
  have d0 : w2.cell? ⟨b, 0, none⟩ = some (.pointer (some ⟨b, 0, none⟩)) := by rw [Lib.cell_of_heap hb2]; rfl
  have d1 : w2.cell? ⟨b, 1, none⟩ = some v := by rw [Lib.cell_of_heap hb2]; rfl
  have f1 : w2.frozen? ⟨b, 1, none⟩ = false := Lib.frozen_of_heap hb2 1
  obtain ⟨g, cap, rfl⟩ : ∃ g cap, v' = .slice (some ⟨g, 0, none⟩) (bs.length + 1) cap := by
    rcases hown'.2 with ⟨_, h0⟩ | ⟨g, cap, cur, hv, _⟩
    · omega
    · exact ⟨g, cap, hv⟩
  go_wp2
  go_ret
  refine ⟨rfl, ?_, ?_⟩
  · exact Or.inr (Lib.BuilderAt.put (T := 83) (e := 5) hB hb2 (bs' := bs ++ [.int .u8 c]) (by simpa using hown') (by decide))
  · exact ((hb1.alloc (by have := hb1.size; omega) _).grown hgrow (by have := hb1.size; simp; omega) (fun k hk => (hown.lt k hk).1)).setCell (p := ⟨b, 1, none⟩) hB _
theorem writeByte_u8 (B b : Nat) (acc : List UInt8) (c : UInt8) (w : World) (h : Lib.IsBuilder 83 5 B b (Lib.byteCells acc) w) (hlen : acc.length + 1 ≤ 140737488355328) (hBw : B ≤ w.heap.size) :
    Calls Tryz.prog 113 #[.pointer (some ⟨b, 0, none⟩), .int .u8 (c.toNat : Int)] w fun e w' => e = .returned .nilIface ∧ (Lib.IsBuilder 83 5 B b (Lib.byteCells (acc ++ [c])) w' ∧ Below B w w') := by
  rw [byteCells_snoc]; exact writeByte_any B b _ _ w h (by rw [Lib.byteCells_length]; exact hlen) hBw
theorem writeByte_61 (B b : Nat) (acc : List UInt8) (w : World) (h : Lib.IsBuilder 83 5 B b (Lib.byteCells acc) w) (hlen : acc.length + 1 ≤ 140737488355328) (hBw : B ≤ w.heap.size) :
    Calls Tryz.prog 113 #[.pointer (some ⟨b, 0, none⟩), .int .u8 61] w fun e w' => e = .returned .nilIface ∧ (Lib.IsBuilder 83 5 B b (Lib.byteCells (acc ++ [61])) w' ∧ Below B w w') := writeByte_u8 B b acc 61 w h hlen hBw
end Go.Proofs.YtdlpbpikhmciaaaGreatDoor
namespace Go.Proofs.YtdlpbpikhmciaaaGreatDoor
open Go.RowKit
set_option linter.unusedSimpArgs false
set_option linter.unusedVariables false
set_option maxRecDepth 1000000
theorem own_kind {w : World} {B : Nat} {v : Value} {n : Nat} {xs : List Value} (h : w.ownsRow B 5 1 v n xs) : ∀ g, v.ownBlock = some g → ∃ c fz, w.heap[g]? = some (.cells c 5 fz) := by
  intro g hg
  rcases h.2 with ⟨rfl, _⟩ | ⟨g', cap, cur, rfl, _, hgg, _⟩
  · simp [Value.ownBlock] at hg
  · simp [Value.ownBlock] at hg
    subst hg
    exact ⟨cur, _, hgg⟩
theorem copyCheck_k (B b : Nat) (bs : List Value) (w : World) (h : Lib.IsBuilder 83 5 B b bs w) :
    Calls Tryz.prog 70 #[.pointer (some ⟨b, 0, none⟩)] w fun e w' => e = .returned (.tuple #[]) ∧ Lib.BuilderAt 83 5 B b (.pointer (some ⟨b, 0, none⟩)) bs w' ∧ Below B w w' ∧ Lib.OthersKept 5 (some b) w w' := by
  rcases h with h | h
  · refine (copyCheck_fresh b w h.cell0 h.shape h.frozen0).mono ?_
    rintro e w' ⟨rfl, rfl⟩
    exact ⟨rfl, h.used _, (Below.refl B w).setCell (p := ⟨b, 0, none⟩) h.1 _, (Lib.OthersKept.refl _ _ w).setCell ⟨b, 0, none⟩ rfl _⟩
  · refine (copyCheck_used b w h.cell0).mono ?_
    rintro e w' ⟨rfl, rfl⟩
    exact ⟨rfl, h, Below.refl B _, Lib.OthersKept.refl _ _ _⟩
/-- A builder stays while an iterator moves on. -/
theorem bld_iterAt {B b : Nat} {bs : List Value} {w : World} (h : Lib.IsBuilder 83 5 B b bs w) {k : Nat} {s : ByteArray} {pos : Nat} (hk : w.heap[k]? = some (.stringIter s pos)) (pos' : Nat) : Lib.IsBuilder 83 5 B b bs (w.iterAt k s pos') := by
  have key : ∀ p, Lib.BuilderAt 83 5 B b p bs w → Lib.BuilderAt 83 5 B b p bs (w.iterAt k s pos') := fun p ⟨hB, v, hb, hown, hne⟩ => by
    have hkb : b ≠ k := by
      intro e1
      rw [e1, hk] at hb
      cases hb
    refine ⟨hB, v, (Lib.iterAt_other w k b s pos' hkb).trans hb, ⟨hown.1, ?_⟩, hne⟩
    rcases hown.2 with hn | ⟨g, cap, cur, hv, hbg, hg, rest⟩
    · exact .inl hn
    · have hkg : g ≠ k := by
        intro e1
        rw [e1, hk] at hg
        cases hg
      exact .inr ⟨g, cap, cur, hv, hbg, (Lib.iterAt_other w k g s pos' hkg).trans hg, rest⟩
  rcases h with h | h
  · exact .inl (key _ h)
  · exact .inr (key _ h)
theorem bld_laterK {B b : Nat} {T e : TypeId} {bs : List Value} {w w' : World} (h : Lib.IsBuilder T e B b bs w) (hb : Below w.heap.size w w') : Lib.IsBuilder T e B b bs w' := by
  have key : ∀ p, Lib.BuilderAt T e B b p bs w → Lib.BuilderAt T e B b p bs w' := fun p ⟨h1, v, h2, h3, h4⟩ =>
    ⟨h1, v, by rw [hb.block b (Array.getElem?_eq_some_iff.1 h2).1]; exact h2, own_later h3 hb, h4⟩
  rcases h with h | h
  · exact Or.inl (key _ h)
  · exact Or.inr (key _ h)
theorem heap_laterK {w w' : World} {k : Nat} {o : Obj} (h : w.heap[k]? = some o) (hb : Below w.heap.size w w') : w'.heap[k]? = some o := by
  rw [hb.block k (Array.getElem?_eq_some_iff.1 h).1]; exact h
theorem strCells_k (s : ByteArray) : Lib.strCells s = Lib.byteCells s.data.toList := by
  unfold Lib.strCells Lib.byteCells
  rfl
theorem writeString_k (B b : Nat) (acc : List UInt8) (s : ByteArray) (w : World) (h : Lib.IsBuilder 83 5 B b (Lib.byteCells acc) w) (hlen : acc.length + s.size ≤ 140737488355328) (hBw : B ≤ w.heap.size) :
    Calls Tryz.prog 32 #[.pointer (some ⟨b, 0, none⟩), .string s] w fun e w' => e = .returned (.tuple #[.int .i64 (s.size : Int), .nilIface]) ∧ (Lib.IsBuilder 83 5 B b (Lib.byteCells (acc ++ s.data.toList)) w' ∧ Below B w w' ∧ Lib.OthersKept 5 (some b) w w') := by
  obtain ⟨i0, hi, hz0, hz1, hz2⟩ := info_parts infoByte
  have hbl : (Lib.byteCells acc).length + s.size ≤ 140737488355328 := by rw [Lib.byteCells_length]; exact hlen
  rw [Lib.byteCells_append, ← strCells_k]
  generalize Lib.byteCells acc = bs at h hbl ⊢
  clear hlen
  go_enter Tryz.func32, Tryz.ntmps32
  go_wp2_with (go_at_call 70; refine (copyCheck_k B b bs _ h).mono ?_)
  rintro e w1 ⟨rfl, h1, hb1, hk1⟩
  obtain ⟨hB, v, hbk, hown, hne⟩ := h1
  have c0 : w1.cell? ⟨b, 0, none⟩ = some (.pointer (some ⟨b, 0, none⟩)) := by rw [Lib.cell_of_heap hbk]; rfl
  have c1 : w1.cell? ⟨b, 1, none⟩ = some v := by rw [Lib.cell_of_heap hbk]; rfl
  have hbs := hb1.size
  go_wp2_with (at_builtin; refine Lib.wpList_append_own_string _ rfl (.tmp 12) (.tmp 13) 81 9 rfl B 5 i0 Tryz.underlying81 Tryz.underlying9 hi hz0 hz1 hz2 _ _ _ rfl hown _ rfl ?c3 ?c4 ?c5 ?_)
  case c3 => unfold maxLen; omega
  case c4 => exact hbl
  case c5 => omega
  intro v' w2 hown' hgrow _
  have hlt : b < w1.heap.size := (Array.getElem?_eq_some_iff.1 hbk).1
  have hb2 : w2.heap[b]? = some (.cells #[.pointer (some ⟨b, 0, none⟩), v] 83 (0, 0)) := by
    rw [hgrow.block b hlt (fun e => hne e.symm)]
    exact hbk
  have d0 : w2.cell? ⟨b, 0, none⟩ = some (.pointer (some ⟨b, 0, none⟩)) := by rw [Lib.cell_of_heap hb2]; rfl
  have d1 : w2.cell? ⟨b, 1, none⟩ = some v := by rw [Lib.cell_of_heap hb2]; rfl
  have f1 : w2.frozen? ⟨b, 1, none⟩ = false := Lib.frozen_of_heap hb2 1
  have hsl : ∃ a n c, v' = .slice a n c := by
    rcases hown'.2 with ⟨rfl, _⟩ | ⟨g, cap, cur, hv, _⟩
    · exact ⟨_, _, _, rfl⟩
    · exact ⟨_, _, _, hv⟩
  obtain ⟨a, n, cp, rfl⟩ := hsl
  have hput := Lib.BuilderAt.put (T := 83) (e := 5) (p := .pointer (some ⟨b, 0, none⟩)) hB hb2 (bs' := bs ++ Lib.strCells s) (by rw [List.length_append, Lib.strCells_length]; exact hown') (by decide)
  have hbw := ((hb1.grown hgrow (by omega) (fun k hk => (hown.lt k hk).1))).setCell (p := ⟨b, 1, none⟩) hB (.slice a n cp)
  have hkp := (hk1.grown hgrow (own_kind hown)).setCell ⟨b, 1, none⟩ rfl (.slice a n cp)
  have HP := Lib.hid (And.intro hput (And.intro hbw hkp))
  clear hput hbw hkp hk1 hown hown' hgrow hb1 hb2 hbk
  go_wp2
  go_ret2
  exact ⟨rfl, Or.inr HP.out.1, HP.out.2.1, HP.out.2.2⟩
end Go.Proofs.YtdlpbpikhmciaaaGreatDoor
namespace Go.Proofs.YtdlpbpikhmciaaaGreatDoor
open Go.RowKit
set_option linter.unusedSimpArgs false
set_option linter.unusedVariables false
set_option maxRecDepth 1000000
theorem w64j (j : Nat) (h : j ≤ 2199023255552) : wrap64 (j : Int) = (j : Int) := by unfold wrap64; omega
theorem drop_at (s : ByteArray) (a n j : Nat) (hj : a + n = j) (h : j < s.size) : (s.data.toList.drop a)[n]? = some (s[j]'h) := by
  subst hj; rw [List.getElem?_drop]; exact list_get s _ h
theorem drop_len (s : ByteArray) (a n : Nat) (h : s.size ≤ a + n) : (s.data.toList.drop a).length ≤ n := by rw [List.length_drop, size_list]; omega
theorem runL_at (p : UInt8 → Bool) (s : ByteArray) (a : Nat) : runL p (s.data.toList.drop a) ≤ s.size - a := by
  have := runL_le p (s.data.toList.drop a); rw [List.length_drop, size_list] at this; exact this
set_option maxHeartbeats 2000000 in
theorem orunb_any (s : ByteArray) (a : Nat) (w : World) (hs : s.size ≤ 1099511627776) (ha : a ≤ s.size) :
    Calls Tryz.prog 229 #[.string s, .int .i64 (a : Int), .func (Fn.func 230) #[] #[]] w fun e w' => e = .returned (.int .i64 (runL isBl (s.data.toList.drop a) : Nat)) ∧ w' = w := by
  go_enter Tryz.func229, Tryz.ntmps229
  go_wp2
  go_loopw [7] (fun nv wr => ∃ n : Nat, nv = .int .i64 n ∧ n ≤ runL isBl (s.data.toList.drop a) ∧ wr = w) (fun nv _ => s.size - (intOf nv).toNat)
  case atStart => exact ⟨0, rfl, Nat.zero_le _, rfl⟩
  case round =>
    obtain ⟨n, rfl, hn, rfl⟩ := hrel
    have hle := runL_at isBl s a
    obtain ⟨j, hj⟩ : ∃ j, a + n = j := ⟨_, rfl⟩
    have f1 : (a : Int) + (n : Int) = (j : Int) := by omega
    have hjs : j ≤ s.size := by omega
    have hjw := w64j j (le_oo j s.size hjs hs)
    by_cases hlt : j < s.size
    · obtain ⟨c, hc⟩ : ∃ c, s[j]'hlt = c := ⟨_, rfl⟩
      have hget := drop_at s a n j hj hlt
      rw [hc] at hget
      have k0 : (0 : Int) ≤ (j : Int) := Int.natCast_nonneg _
      have k1 : (j : Int) < (s.size : Int) := by omega
      have hns : n < s.size := by omega
      have HJ := Lib.hid hj
      clear hj
      cases hst : isBl c with
      | true =>
        have hx := runL_more isBl _ n c hn hget hst
        have HS := Lib.hid (And.intro hx hst)
        clear hx hst hget hn hle
        go_wp2_with fail
        refine (oblank_any c _).mono ?_
        rintro e w ⟨rfl, rfl⟩
        rw [HS.out.2]
        clear hjw f1
        have hwi := w64o n (le_oo n s.size (Nat.le_of_lt hns) hs)
        go_wp2
        go_roundw
        case rel => (try rw [hwi]); clear hwi; exact ⟨n + 1, by go_num, HS.out.1, by first | rfl | trivial⟩
        case measure => (try rw [hwi]); clear hwi; simp [intOf]; omega
      | false =>
        have hx := runL_stop isBl _ n c hn hget hst
        have HS := Lib.hid (And.intro hx hst)
        clear hx hst hget hn hle
        go_wp2_with fail
        refine (oblank_any c _).mono ?_
        rintro e w ⟨rfl, rfl⟩
        rw [HS.out.2]
        go_wp2
        go_ret
        refine ⟨?_, rfl⟩
        rw [← HS.out.1]; rfl
    · obtain rfl : j = s.size := by omega
      have hx := runL_end isBl _ n hn (drop_len s a n (by omega))
      have HX := Lib.hid hx
      clear hx hn hle hj
      go_wp2
      go_ret
      refine ⟨?_, rfl⟩
      rw [← HX.out]; rfl
set_option maxHeartbeats 2000000 in
theorem oruns_any (s : ByteArray) (a : Nat) (w : World) (hs : s.size ≤ 1099511627776) (ha : a ≤ s.size) (hg : SgAt w) :
    Calls Tryz.prog 229 #[.string s, .int .i64 (a : Int), .func (Fn.func 94) #[] #[]] w fun e w' => e = .returned (.int .i64 (runL isSg (s.data.toList.drop a) : Nat)) ∧ w' = w := by
  have HG := Lib.hid hg; clear hg
  go_enter Tryz.func229, Tryz.ntmps229
  go_wp2
  go_loopw [7] (fun nv wr => ∃ n : Nat, nv = .int .i64 n ∧ n ≤ runL isSg (s.data.toList.drop a) ∧ wr = w) (fun nv _ => s.size - (intOf nv).toNat)
  case atStart => exact ⟨0, rfl, Nat.zero_le _, rfl⟩
  case round =>
    obtain ⟨n, rfl, hn, rfl⟩ := hrel
    have hle := runL_at isSg s a
    obtain ⟨j, hj⟩ : ∃ j, a + n = j := ⟨_, rfl⟩
    have f1 : (a : Int) + (n : Int) = (j : Int) := by omega
    have hjs : j ≤ s.size := by omega
    have hjw := w64j j (le_oo j s.size hjs hs)
    by_cases hlt : j < s.size
    · obtain ⟨c, hc⟩ : ∃ c, s[j]'hlt = c := ⟨_, rfl⟩
      have hget := drop_at s a n j hj hlt
      rw [hc] at hget
      have k0 : (0 : Int) ≤ (j : Int) := Int.natCast_nonneg _
      have k1 : (j : Int) < (s.size : Int) := by omega
      have hns : n < s.size := by omega
      have HJ := Lib.hid hj
      clear hj
      cases hst : isSg c with
      | true =>
        have hx := runL_more isSg _ n c hn hget hst
        have HS := Lib.hid (And.intro hx hst)
        clear hx hst hget hn hle
        go_wp2_with fail
        refine (osign_any c _ HG.out).mono ?_
        rintro e w ⟨rfl, rfl⟩
        rw [HS.out.2]
        clear hjw f1
        have hwi := w64o n (le_oo n s.size (Nat.le_of_lt hns) hs)
        go_wp2
        go_roundw
        case rel => (try rw [hwi]); clear hwi; exact ⟨n + 1, by go_num, HS.out.1, by first | rfl | trivial⟩
        case measure => (try rw [hwi]); clear hwi; simp [intOf]; omega
      | false =>
        have hx := runL_stop isSg _ n c hn hget hst
        have HS := Lib.hid (And.intro hx hst)
        clear hx hst hget hn hle
        go_wp2_with fail
        refine (osign_any c _ HG.out).mono ?_
        rintro e w ⟨rfl, rfl⟩
        rw [HS.out.2]
        go_wp2
        go_ret
        refine ⟨?_, rfl⟩
        rw [← HS.out.1]; rfl
    · obtain rfl : j = s.size := by omega
      have hx := runL_end isSg _ n hn (drop_len s a n (by omega))
      have HX := Lib.hid hx
      clear hx hn hle hj
      go_wp2
      go_ret
      refine ⟨?_, rfl⟩
      rw [← HX.out]; rfl
end Go.Proofs.YtdlpbpikhmciaaaGreatDoor
