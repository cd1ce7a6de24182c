/- digest.Hex. -/
import Derived.Test.YtlegmhmmoadggaaDoorBldW
import Derived.Test.YtlegmhmmoadggaaDoorShelf
import Derived.Test.YtlegmhmmoadggaaDoorDigCrc
namespace Go.Proofs.YtlegmhmmoadggaaDoor
open Go.RowKit Dg
theorem hexL_snoc (l : List UInt8) (c : UInt8) : hexL (l ++ [c]) = hexL l ++ [hexDigits.getD (c.toNat / 16) 0] ++ [hexDigits.getD (c.toNat % 16) 0] := by
  simp [hexL, List.flatMap_append]
theorem hexL_len (l : List UInt8) : (hexL l).length = 2 * l.length := by
  induction l with
  | nil => rfl
  | cons a l ih => simp only [hexL, List.flatMap_cons, List.length_append, List.length_cons, List.length_nil] at *; omega
theorem hexGet (n : Nat) (h : n < (⟨#[48, 49, 50, 51, 52, 53, 54, 55, 56, 57, 97, 98, 99, 100, 101, 102]⟩ : ByteArray).size) :
    (⟨#[48, 49, 50, 51, 52, 53, 54, 55, 56, 57, 97, 98, 99, 100, 101, 102]⟩ : ByteArray)[n] = hexDigits.getD n 0 := by
  rw [List.getD_eq_getElem?_getD, List.getElem?_eq_getElem (by exact h)]; rfl
end Go.Proofs.YtlegmhmmoadggaaDoor
