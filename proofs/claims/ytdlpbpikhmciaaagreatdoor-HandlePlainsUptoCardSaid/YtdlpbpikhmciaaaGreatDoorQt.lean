/- Quoted texts: plain, and the walks of octet.Quote and the reference's IsField and Quote. Conditions: fewer than 2^40 bytes. -/
import Derived.Test.YtdlpbpikhmciaaaGreatDoorOct5
namespace Go.Proofs.YtdlpbpikhmciaaaGreatDoor
open Go.RowKit
set_option linter.unusedSimpArgs false
set_option linter.unusedVariables false
set_option maxRecDepth 1000000
/-- A byte of a quoted text. -/
def esc (c : UInt8) : List UInt8 := if c = 34 ∨ c = 92 then [92, c] else [c]
def escL (l : List UInt8) : List UInt8 := l.flatMap esc
def qtL (l : List UInt8) : List UInt8 := 34 :: (escL l ++ [34])
def qtR (l : List UInt8) : List UInt8 × Nat := if isFld l then (qtL l, 0) else ([], 13)
theorem escL_take (l : List UInt8) (i : Nat) (c : UInt8) (h : l[i]? = some c) : escL (l.take (i + 1)) = escL (l.take i) ++ esc c := by
  unfold escL
  rw [List.take_add_one, h, Option.toList_some, List.flatMap_append]
  simp
theorem escL_len (l : List UInt8) : (escL l).length ≤ 2 * l.length := by
  induction l with
  | nil => simp [escL]
  | cons c r ih =>
    have e : escL (c :: r) = esc c ++ escL r := rfl
    have h1 : (esc c).length ≤ 2 := by unfold esc; split <;> simp
    rw [e, List.length_append, List.length_cons]
    omega
theorem qtL_len (l : List UInt8) : (qtL l).length ≤ 2 * l.length + 2 := by
  have := escL_len l
  unfold qtL
  rw [List.length_cons, List.length_append, List.length_singleton]
  omega
theorem esc_take_len (l : List UInt8) (i : Nat) (n : Nat) (hi : i ≤ n) (hn : n ≤ 1099511627776) : (34 :: escL (l.take i)).length + 2 ≤ 140737488355328 := by
  have h1 := escL_len (l.take i)
  have h2 : (l.take i).length ≤ i := by rw [List.length_take]; omega
  rw [List.length_cons]
  omega
theorem writeByte_34 (B b : Nat) (acc : List UInt8) (w : World) (h : Lib.IsBuilder 83 5 B b (Lib.byteCells acc) w) (hlen : acc.length + 1 ≤ 140737488355328) (hBw : B ≤ w.heap.size) :
    Calls Tryz.prog 113 #[.pointer (some ⟨b, 0, none⟩), .int .u8 34] w fun e w' => e = .returned .nilIface ∧ Lib.IsBuilder 83 5 B b (Lib.byteCells (acc ++ [34])) w' ∧ Below B w w' :=
  writeByte_u8 B b acc 34 w h hlen hBw
theorem writeByte_92 (B b : Nat) (acc : List UInt8) (w : World) (h : Lib.IsBuilder 83 5 B b (Lib.byteCells acc) w) (hlen : acc.length + 1 ≤ 140737488355328) (hBw : B ≤ w.heap.size) :
    Calls Tryz.prog 113 #[.pointer (some ⟨b, 0, none⟩), .int .u8 92] w fun e w' => e = .returned .nilIface ∧ Lib.IsBuilder 83 5 B b (Lib.byteCells (acc ++ [92])) w' ∧ Below B w w' :=
  writeByte_u8 B b acc 92 w h hlen hBw
end Go.Proofs.YtdlpbpikhmciaaaGreatDoor
