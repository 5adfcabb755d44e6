/- References, step by step: plain functions on lists of bytes. No program is named. No conditions. -/
import Derived.Test.YtdlpbpikhmciaaaGreatDoorHdP
namespace Go.Proofs.YtdlpbpikhmciaaaGreatDoor
open Go.RowKit
set_option linter.unusedSimpArgs false
set_option linter.unusedVariables false
set_option maxRecDepth 100000
def seg (l : List UInt8) (a b : Nat) : List UInt8 := (l.drop a).take (b - a)
theorem seg_len (l : List UInt8) (a b : Nat) (hb : b ≤ l.length) (h : a ≤ b) : (seg l a b).length = b - a := by
  unfold seg; rw [List.length_take, List.length_drop]; omega
theorem seg_nil (l : List UInt8) (a : Nat) : seg l a a = [] := by unfold seg; rw [Nat.sub_self]; rfl
theorem seg_app (l : List UInt8) (a b n : Nat) (h : a ≤ b) : seg l a (b + n) = seg l a b ++ (l.drop b).take n := by
  unfold seg
  rw [show b + n - a = (b - a) + n by omega, List.take_add, List.drop_drop, show a + (b - a) = b by omega]
theorem seg_one (l : List UInt8) (a b : Nat) (c : UInt8) (h : a ≤ b) (hc : l[b]? = some c) : seg l a (b + 1) = seg l a b ++ [c] := by
  rw [seg_app l a b 1 h]
  have hlt := (List.getElem?_eq_some_iff.1 hc).1
  have he := (List.getElem?_eq_some_iff.1 hc).2
  rw [List.drop_eq_getElem_cons hlt, he]
  rfl
theorem drop_c (l : List UInt8) (b : Nat) (c : UInt8) (hc : l[b]? = some c) : l.drop b = c :: l.drop (b + 1) := by
  have hlt := (List.getElem?_eq_some_iff.1 hc).1
  have he := (List.getElem?_eq_some_iff.1 hc).2
  rw [List.drop_eq_getElem_cons hlt, he]
theorem mulK (a p n : Nat) (h : a ≤ p * 1048577) : a ≤ (p + n) * 1048577 := Nat.le_trans h (Nat.mul_le_mul_right _ (Nat.le_add_right _ _))
/-- Up to a place: what is written, and what stands open. -/
def RfR (ps : List Par) (l : List UInt8) (fv av : Int) (pos : Nat) (acc : List UInt8) : Prop :=
  (∃ a : Nat, fv = -1 ∧ av = a ∧ a ≤ pos ∧ acc.length + (pos - a) ≤ pos * 1048577 ∧ rf ps none l = (rf ps none (l.drop pos)).map ((acc ++ seg l a pos) ++ ·)) ∨
  (∃ f a : Nat, fv = f ∧ av = a ∧ f ≤ pos ∧ a ≤ pos ∧ acc.length ≤ pos * 1048577 ∧ rf ps none l = (rf ps (some (seg l f pos)) (l.drop pos)).map (acc ++ ·))
theorem rfr_start (ps : List Par) (l : List UInt8) : RfR ps l (-1) 0 0 [] :=
  .inl ⟨0, rfl, rfl, Nat.le_refl _, by simp, by rw [seg_nil]; simp⟩
theorem map_map (o : Option (List UInt8)) (a b : List UInt8) : (o.map (b ++ ·)).map (a ++ ·) = o.map ((a ++ b) ++ ·) := by
  cases o <;> simp
theorem rfr_skip (ps : List Par) (l : List UInt8) (fv av : Int) (pos n : Nat) (acc a : List UInt8) (h : RfR ps l fv av pos acc) (hd : l.drop pos = a ++ l.drop (pos + n)) (ha : a = (l.drop pos).take n) (hl : a.length = n) (hh : ∀ c ∈ a, c.toNat ≠ 125 ∧ c.toNat ≠ 123)
    (hs : ∀ r, rf ps none (a ++ r) = (rf ps none r).map (a ++ ·)) (ht : ∀ m r, rf ps (some m) (a ++ r) = rf ps (some (m ++ a)) r) : RfR ps l fv av (pos + n) acc := by
  rcases h with ⟨x, h1, h2, h3, h4, h5⟩ | ⟨f, x, h1, h2, h3, h3', h4, h5⟩
  · refine .inl ⟨x, h1, h2, by omega, by omega, ?_⟩
    rw [h5, hd, hs, map_map, seg_app l x pos n h3, ← ha, List.append_assoc]
  · refine .inr ⟨f, x, h1, h2, by omega, by omega, mulK _ _ _ h4, ?_⟩
    rw [h5, hd, ht, seg_app l f pos n h3, ← ha]
theorem rfr_text (ps : List Par) (l : List UInt8) (fv av : Int) (pos : Nat) (acc : List UInt8) (c : UInt8) (h : RfR ps l fv av pos acc) (hc : l[pos]? = some c) (h1 : c.toNat ≠ 125) (h2 : c.toNat ≠ 123) : RfR ps l fv av (pos + 1) acc := by
  have hd := drop_c l pos c hc
  refine rfr_skip ps l fv av pos 1 acc [c] h ?_ ?_ rfl ?_ ?_ ?_
  · rw [hd]; rfl
  · rw [hd]; rfl
  · intro d hdm
    obtain rfl : d = c := by simpa using hdm
    exact ⟨h1, h2⟩
  · intro r
    exact rf_none ps c r h1 h2
  · intro m r
    exact rf_some ps m c r h1 h2
theorem rfr_high (ps : List Par) (l : List UInt8) (fv av : Int) (pos n : Nat) (acc a : List UInt8) (h : RfR ps l fv av pos acc) (hd : l.drop pos = a ++ l.drop (pos + n)) (ha : a = (l.drop pos).take n) (hl : a.length = n) (hh : ∀ c ∈ a, 128 ≤ c.toNat) : RfR ps l fv av (pos + n) acc :=
  rfr_skip ps l fv av pos n acc a h hd ha hl (fun c hc => by have := hh c hc; omega) (fun r => rf_none_skip ps a r hh) (fun m r => rf_some_skip ps a r m hh)
theorem rfr_open (ps : List Par) (l : List UInt8) (av : Int) (pos : Nat) (acc : List UInt8) (c : UInt8) (h : RfR ps l (-1) av pos acc) (hc : l[pos]? = some c) (h1 : c.toNat = 123) (hb : pos ≤ l.length) :
    ∃ a : Nat, av = a ∧ a ≤ pos ∧ acc.length + (pos - a) ≤ pos * 1048577 ∧ RfR ps l ((pos + 1 : Nat) : Int) av (pos + 1) (acc ++ seg l a pos) := by
  rcases h with ⟨a, _, h2, h3, h4, h5⟩ | ⟨f, a, h1, _⟩
  · refine ⟨a, h2, h3, h4, .inr ⟨pos + 1, a, rfl, h2, Nat.le_refl _, by omega, ?_, ?_⟩⟩
    · rw [List.length_append, seg_len l a pos hb h3]; exact mulK _ _ _ h4
    · rw [h5, drop_c l pos c hc, rf_open ps c _ h1, seg_nil]
  · omega
theorem rfr_openbad (ps : List Par) (l : List UInt8) (f : Nat) (av : Int) (pos : Nat) (acc : List UInt8) (c : UInt8) (h : RfR ps l f av pos acc) (hc : l[pos]? = some c) (h1 : c.toNat = 123) : rf ps none l = none := by
  rcases h with ⟨a, h1, _⟩ | ⟨f', a, h2, _, _, _, _, h5⟩
  · omega
  · rw [h5, drop_c l pos c hc, rf_twice ps _ c _ h1]; rfl
theorem rfr_stray (ps : List Par) (l : List UInt8) (av : Int) (pos : Nat) (acc : List UInt8) (c : UInt8) (h : RfR ps l (-1) av pos acc) (hc : l[pos]? = some c) (h1 : c.toNat = 125) : rf ps none l = none := by
  rcases h with ⟨a, _, _, _, _, h5⟩ | ⟨f', a, h2, _⟩
  · rw [h5, drop_c l pos c hc, rf_stray ps c _ h1]; rfl
  · omega
theorem rfr_shut (ps : List Par) (l : List UInt8) (f : Nat) (av : Int) (pos : Nat) (acc : List UInt8) (c : UInt8) (h : RfR ps l f av pos acc) (hc : l[pos]? = some c) (h1 : c.toNat = 125) (hn : isNm (seg l f pos) = true) (hv : (valL ps (seg l f pos)).length ≤ 1048576) :
    acc.length ≤ pos * 1048577 ∧ RfR ps l (-1) ((pos + 1 : Nat) : Int) (pos + 1) (acc ++ valL ps (seg l f pos)) := by
  rcases h with ⟨a, h2, _⟩ | ⟨f', a, h2, _, _, _, h4, h5⟩
  · omega
  · obtain rfl : f = f' := by omega
    refine ⟨h4, .inl ⟨pos + 1, rfl, rfl, Nat.le_refl _, ?_, ?_⟩⟩
    · rw [List.length_append]; omega
    · rw [h5, drop_c l pos c hc, rf_shut ps _ c _ h1 hn, map_map, seg_nil, List.append_nil]
theorem rfr_badname (ps : List Par) (l : List UInt8) (f : Nat) (av : Int) (pos : Nat) (acc : List UInt8) (c : UInt8) (h : RfR ps l f av pos acc) (hc : l[pos]? = some c) (h1 : c.toNat = 125) (hn : isNm (seg l f pos) = false) : rf ps none l = none := by
  rcases h with ⟨a, h2, _⟩ | ⟨f', a, h2, _, _, _, h4, h5⟩
  · omega
  · obtain rfl : f = f' := by omega
    rw [h5, drop_c l pos c hc, rf_badname ps _ c _ h1 hn]; rfl
theorem rfr_le (ps : List Par) (l : List UInt8) (f : Nat) (av : Int) (pos : Nat) (acc : List UInt8) (h : RfR ps l f av pos acc) : f ≤ pos := by
  rcases h with ⟨a, h2, _⟩ | ⟨f', a, h2, _, h3, _⟩ <;> omega
theorem rfr_end (ps : List Par) (l : List UInt8) (av : Int) (pos : Nat) (acc : List UInt8) (h : RfR ps l (-1) av pos acc) (hp : pos = l.length) :
    ∃ a : Nat, av = a ∧ a ≤ pos ∧ acc.length + (pos - a) ≤ pos * 1048577 ∧ rf ps none l = some (acc ++ l.drop a) := by
  rcases h with ⟨a, _, h2, h3, h4, h5⟩ | ⟨f', a, h2, _⟩
  · refine ⟨a, h2, h3, h4, ?_⟩
    rw [h5, hp, List.drop_length]
    simp only [rf, Option.map_some, List.append_nil]
    unfold seg
    rw [List.take_of_length_le (by rw [List.length_drop]; exact Nat.le_refl _)]
  · omega
theorem rfr_endbad (ps : List Par) (l : List UInt8) (f : Nat) (av : Int) (pos : Nat) (acc : List UInt8) (h : RfR ps l f av pos acc) (hp : pos = l.length) : rf ps none l = none := by
  rcases h with ⟨a, h2, _⟩ | ⟨f', a, h2, _, _, _, h4, h5⟩
  · omega
  · rw [h5, hp, List.drop_length]; rfl
theorem rfr_cases (ps : List Par) (l : List UInt8) (fv av : Int) (pos : Nat) (acc : List UInt8) (h : RfR ps l fv av pos acc) : fv = -1 ∨ ∃ f : Nat, fv = f := by
  rcases h with ⟨a, h, _⟩ | ⟨f, a, h, _⟩
  · exact .inl h
  · exact .inr ⟨f, h⟩
/-- What Refer answers. -/
def rfT (ps : List Par) (l : List UInt8) : List UInt8 × Nat := match refR ps l with | some x => (x, 0) | none => ([], 180)
theorem rfT_bad (ps : List Par) (l : List UInt8) (h : refR ps l = none) : rfT ps l = ([], 180) := by unfold rfT; rw [h]
theorem rfT_good (ps : List Par) (l x : List UInt8) (h : refR ps l = some x) : rfT ps l = (x, 0) := by unfold rfT; rw [h]
theorem refR_go (ps : List Par) (l : List UInt8) (h0 : l.isEmpty = false) (h1 : isFld l = true) (h2 : (trimL l == l) = true) : refR ps l = rf ps none l := by
  unfold refR; rw [h0, h1, h2]; rfl
theorem refR_empty (ps : List Par) (l : List UInt8) (h0 : l.isEmpty = true) : refR ps l = none := by
  unfold refR; rw [h0]; rfl
theorem refR_nofld (ps : List Par) (l : List UInt8) (h1 : isFld l = false) : refR ps l = none := by
  unfold refR; rw [h1]; simp
theorem refR_notrim (ps : List Par) (l : List UInt8) (h2 : (trimL l == l) = false) : refR ps l = none := by
  unfold refR; rw [h2]; simp
theorem valL_len (n : List UInt8) : ∀ (ps : List Par), (valL ps n).length ≤ totP ps
  | [] => by simp [valL]
  | p :: r => by
    have := valL_len n r
    unfold valL totP
    split <;> omega
end Go.Proofs.YtdlpbpikhmciaaaGreatDoor
