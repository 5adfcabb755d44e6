/- Small contracts in the words of lists, for the two walks of Print. Conditions: as those of the contracts that they turn. -/
import Derived.Test.YtlfdeenekjklgaaGreatDoorPk10
import Derived.Test.YtlfdeenekjklgaaGreatDoorPk20
import Derived.Test.YtlfdeenekjklgaaGreatDoorPk16
import Derived.Test.YtlfdeenekjklgaaGreatDoorPk12
import Derived.Test.YtlfdeenekjklgaaGreatDoorPk23
namespace Go.Proofs.YtlfdeenekjklgaaGreatDoor
open Go.RowKit
set_option linter.unusedSimpArgs false
set_option linter.unusedVariables false
set_option maxRecDepth 1000000
/-- A part in a block of its own. -/
def P5 (T : TypeId) (g : Nat) (p : Prt) (w : World) : Prop := w.heap[g]? = some (.cells #[.string ⟨p.name.toArray⟩, .string ⟨p.file.toArray⟩, .string ⟨p.media.toArray⟩, .string ⟨p.body.toArray⟩, .bool p.has] T (0, 0))
theorem P5.new (p : Prt) (w : World) (T : TypeId) : P5 T w.heap.size p (w.alloc (.cells #[.string ⟨p.name.toArray⟩, .string ⟨p.file.toArray⟩, .string ⟨p.media.toArray⟩, .string ⟨p.body.toArray⟩, .bool p.has] T)) := heap_alloc_new w _
theorem P5.cells {T : TypeId} {g : Nat} {p : Prt} {w : World} (h : P5 T g p w) : w.cell? ⟨g, 0, none⟩ = some (.string ⟨p.name.toArray⟩) ∧ w.cell? ⟨g, 1, none⟩ = some (.string ⟨p.file.toArray⟩) ∧ w.cell? ⟨g, 2, none⟩ = some (.string ⟨p.media.toArray⟩) ∧ w.cell? ⟨g, 3, none⟩ = some (.string ⟨p.body.toArray⟩) ∧ w.cell? ⟨g, 4, none⟩ = some (.bool p.has) ∧ g < w.heap.size :=
  ⟨by rw [Lib.cell_of_heap h]; rfl, by rw [Lib.cell_of_heap h]; rfl, by rw [Lib.cell_of_heap h]; rfl, by rw [Lib.cell_of_heap h]; rfl, by rw [Lib.cell_of_heap h]; rfl, (Array.getElem?_eq_some_iff.1 h).1⟩
theorem P5.keeps {T : TypeId} {g : Nat} {p : Prt} {w w' : World} (h : P5 T g p w) (hk : Keeps w w') (h1 : T ≠ 5) (h2 : T ≠ 98) : P5 T g p w' := hk g _ T _ h h1 h2
theorem P5.below {T : TypeId} {g : Nat} {p : Prt} {w w' : World} (h : P5 T g p w) (hb : Below w.heap.size w w') : P5 T g p w' := by
  unfold P5 at h ⊢
  rw [hb.block g (Array.getElem?_eq_some_iff.1 h).1]; exact h
/-- A row of texts. -/
def RowS (g : Nat) (l : List (List UInt8)) (w : World) : Prop := ∃ cur : Array Value, w.heap[g]? = some (.cells cur 9 (0, 0)) ∧ cur.toList.take l.length = strV l
theorem RowS.keeps {g : Nat} {l : List (List UInt8)} {w w' : World} (h : RowS g l w) (hk : Keeps w w') : RowS g l w' := by
  obtain ⟨cur, h1, h2⟩ := h
  exact ⟨cur, hk g _ 9 _ h1 (by decide) (by decide), h2⟩
theorem RowS.below {g : Nat} {l : List (List UInt8)} {w w' : World} (h : RowS g l w) (hb : Below w.heap.size w w') : RowS g l w' := h.keeps (Keeps.of_below hb)
theorem RowS.cell {g : Nat} {l : List (List UInt8)} {w : World} (h : RowS g l w) (j : Nat) (x : List UInt8) (hj : l[j]? = some x) : w.cell? ⟨g, j, none⟩ = some (.string ⟨x.toArray⟩) := by
  obtain ⟨cur, h1, h2⟩ := h
  rw [Lib.cell_of_heap h1]
  have hl : j < l.length := (List.getElem?_eq_some_iff.1 hj).1
  have h3 : (cur.toList.take l.length)[j]? = some (.string ⟨x.toArray⟩) := by rw [h2]; simp [strV, hj]
  rw [List.getElem?_take_of_lt hl] at h3
  simpa using h3
theorem rowS_one (w : World) (x : List UInt8) : RowS w.heap.size [x] (w.alloc (.cells #[.string ⟨x.toArray⟩] 9)) := ⟨_, heap_alloc_new w _, rfl⟩
theorem rowS_own {w : World} {B : Nat} {v : Value} {l : List (List UInt8)} (h : w.ownsRow B 9 1 v l.length (strV l)) (hn : l ≠ []) : ∃ g cap, v = .slice (some ⟨g, 0, none⟩) l.length cap ∧ RowS g l w := by
  have hl : 0 < l.length := List.length_pos_iff.2 hn
  rcases h.2 with ⟨_, h0⟩ | ⟨g, cap, cur, rfl, hb, hg, _, _, _, ht⟩
  · omega
  · exact ⟨g, cap, rfl, cur, hg, by rw [← ht, Nat.mul_one]⟩
theorem qtR_ok (l : List UInt8) (h : isFld l = true) : qtR l = (qtL l, 0) := by unfold qtR; rw [if_pos h]
theorem qtR_bad (l : List UInt8) (h : isFld l = false) : qtR l = ([], 13) := by unfold qtR; rw [if_neg (by rw [h]; simp)]
theorem oquote_ok (l : List UInt8) (w : World) (hs : l.length ≤ 1099511627776) (h : isFld l = true) :
    Calls Tryz.prog 48 #[.string ⟨l.toArray⟩] w fun e w' => e = .returned (.tuple #[.string ⟨(qtL l).toArray⟩, .int .i64 0]) ∧ Below w.heap.size w w' := by
  have := oquote_any ⟨l.toArray⟩ w (by rw [size_mk]; exact hs)
  rw [show (⟨l.toArray⟩ : ByteArray).data.toList = l from rfl, qtR_ok l h] at this
  exact this
theorem oquote_bad (l : List UInt8) (w : World) (hs : l.length ≤ 1099511627776) (h : isFld l = false) :
    Calls Tryz.prog 48 #[.string ⟨l.toArray⟩] w fun e w' => e = .returned (.tuple #[.string ⟨#[]⟩, .int .i64 13]) ∧ Below w.heap.size w w' := by
  have := oquote_any ⟨l.toArray⟩ w (by rw [size_mk]; exact hs)
  rw [show (⟨l.toArray⟩ : ByteArray).data.toList = l from rfl, qtR_bad l h] at this
  exact this
theorem rquote_ok (l : List UInt8) (w : World) (hs : l.length ≤ 1099511627776) (h : isFld l = true) :
    Calls Tryz.prog 54 #[.string ⟨l.toArray⟩] w fun e w' => e = .returned (.tuple #[.string ⟨(qtL l).toArray⟩, .int .i64 0]) ∧ Below w.heap.size w w' := by
  have := rquote_any ⟨l.toArray⟩ w (by rw [size_mk]; exact hs)
  rw [show (⟨l.toArray⟩ : ByteArray).data.toList = l from rfl, qtR_ok l h] at this
  exact this
theorem rquote_bad (l : List UInt8) (w : World) (hs : l.length ≤ 1099511627776) (h : isFld l = false) :
    Calls Tryz.prog 54 #[.string ⟨l.toArray⟩] w fun e w' => e = .returned (.tuple #[.string ⟨#[]⟩, .int .i64 13]) ∧ Below w.heap.size w w' := by
  have := rquote_any ⟨l.toArray⟩ w (by rw [size_mk]; exact hs)
  rw [show (⟨l.toArray⟩ : ByteArray).data.toList = l from rfl, qtR_bad l h] at this
  exact this
theorem oisfield_l (l : List UInt8) (b : Bool) (hb : isFld l = b) (w : World) (hs : l.length ≤ 1099511627776) :
    Calls Tryz.prog 49 #[.string ⟨l.toArray⟩] w fun e w' => e = .returned (.bool b) ∧ w' = w := by
  have := oisfield_any ⟨l.toArray⟩ w (by rw [size_mk]; exact hs)
  rwa [show (⟨l.toArray⟩ : ByteArray).data.toList = l from rfl, hb] at this
theorem risfield_l (l : List UInt8) (b : Bool) (hb : isFld l = b) (w : World) (hs : l.length ≤ 1099511627776) :
    Calls Tryz.prog 55 #[.string ⟨l.toArray⟩] w fun e w' => e = .returned (.bool b) ∧ w' = w := by
  have := risfield_any ⟨l.toArray⟩ w (by rw [size_mk]; exact hs)
  rwa [show (⟨l.toArray⟩ : ByteArray).data.toList = l from rfl, hb] at this
theorem otrim_l (l t : List UInt8) (ht : trimL l = t) (w : World) (hs : l.length ≤ 1099511627776) :
    Calls Tryz.prog 42 #[.string ⟨l.toArray⟩] w fun e w' => e = .returned (.string ⟨t.toArray⟩) ∧ Below w.heap.size w w' := by
  have := otrim_any ⟨l.toArray⟩ w (by rw [size_mk]; exact hs)
  rwa [show (⟨l.toArray⟩ : ByteArray).data.toList = l from rfl, ht] at this
theorem rtrim_l (l t : List UInt8) (ht : trimL l = t) (w : World) (hs : l.length ≤ 1099511627776) :
    Calls Tryz.prog 33 #[.string ⟨l.toArray⟩] w fun e w' => e = .returned (.string ⟨t.toArray⟩) ∧ w' = w := by
  have := rtrim_any ⟨l.toArray⟩ w (by rw [size_mk]; exact hs)
  rwa [show (⟨l.toArray⟩ : ByteArray).data.toList = l from rfl, ht] at this
theorem pl_0 (l : List UInt8) (w : World) (hs : l.length ≤ 1099511627776) (hg : SgAt w) (h : (plR l).2.2 = 0) :
    Calls Tryz.prog 51 #[.string ⟨l.toArray⟩] w fun e w' => ∃ (a b : ByteArray) (x : Int), e = .returned (.tuple #[.agg #[.string a, .string b], .int .i64 x, .int .i64 0]) ∧ Below w.heap.size w w' :=
  (pl_any ⟨l.toArray⟩ w (by rw [size_mk]; exact hs) hg).mono fun e w' ⟨x, he, hb⟩ => by
    refine ⟨⟨(plR l).1.toArray⟩, ⟨(plR l).2.1.toArray⟩, x, ?_, hb⟩
    rw [he]
    unfold plV
    rw [show (⟨l.toArray⟩ : ByteArray).data.toList = l from rfl, h]
    rfl
theorem pl_61 (l : List UInt8) (w : World) (hs : l.length ≤ 1099511627776) (hg : SgAt w) (h : (plR l).2.2 = 61) :
    Calls Tryz.prog 51 #[.string ⟨l.toArray⟩] w fun e w' => ∃ (a b : ByteArray) (x : Int), e = .returned (.tuple #[.agg #[.string a, .string b], .int .i64 x, .int .i64 61]) ∧ Below w.heap.size w w' :=
  (pl_any ⟨l.toArray⟩ w (by rw [size_mk]; exact hs) hg).mono fun e w' ⟨x, he, hb⟩ => by
    refine ⟨⟨(plR l).1.toArray⟩, ⟨(plR l).2.1.toArray⟩, x, ?_, hb⟩
    rw [he]
    unfold plV
    rw [show (⟨l.toArray⟩ : ByteArray).data.toList = l from rfl, h]
    rfl
theorem writeString_l (B b : Nat) (acc x : List UInt8) (w : World) (h : Lib.IsBuilder 98 5 B b (Lib.byteCells acc) w) (hlen : acc.length + x.length ≤ 140737488355328) (hBw : B ≤ w.heap.size) :
    Calls Tryz.prog 50 #[.pointer (some ⟨b, 0, none⟩), .string ⟨x.toArray⟩] w fun e w' => ∃ n : Int, e = .returned (.tuple #[.int .i64 n, .nilIface]) ∧ Lib.IsBuilder 98 5 B b (Lib.byteCells (acc ++ x)) w' ∧ Below B w w' ∧ Keeps w w' :=
  (writeString_any B b acc ⟨x.toArray⟩ w h (by rw [size_mk]; exact hlen) hBw).mono fun e w' ⟨he, h1, h2, h3⟩ => ⟨_, he, h1, h2, h3⟩
theorem cat_ll (a b : List UInt8) : (⟨a.toArray⟩ : ByteArray) ++ (⟨b.toArray⟩ : ByteArray) = ⟨(a ++ b).toArray⟩ := by
  refine ba_ext ?_
  simp
theorem cat_sl (s : ByteArray) (b : List UInt8) : s ++ (⟨b.toArray⟩ : ByteArray) = ⟨(s.data.toList ++ b).toArray⟩ := by
  refine ba_ext ?_
  simp
theorem cat_ls (a : List UInt8) (s : ByteArray) : (⟨a.toArray⟩ : ByteArray) ++ s = ⟨(a ++ s.data.toList).toArray⟩ := by
  refine ba_ext ?_
  simp
theorem wtxH_pass {P : Program} {ops : Array Oper} {S : World → Prop} {Q : Exit → Act → World → Prop} {i : Nat} {o : Oper} {r : List (Nat × Bool)} {a : Act} {w : World} (ho : ops[i]? = some o) (hw : Region.wanted o (yielded ops a.tmps) = false)
    (h : wpTxH P ops S Q r (a.put o.dst undef) w) : wpTxH P ops S Q ((i, true) :: r) a w := ⟨o, undef, ho, .inr ⟨hw, rfl⟩, h⟩
end Go.Proofs.YtlfdeenekjklgaaGreatDoor
