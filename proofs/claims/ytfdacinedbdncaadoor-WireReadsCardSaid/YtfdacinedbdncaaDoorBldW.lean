/- (*strings.Builder).Write at this translation. -/
import Derived.Test.YtfdacinedbdncaaDoorBld
namespace Go.Proofs.YtfdacinedbdncaaDoor
open Go.RowKit
theorem Bld.drewN {b : Nat} {l : List UInt8} {w : World} (h : Bld b l w) (n : Nat) : Bld b l (w.drewN n) := by
  rcases h with h | h
  · exact .inl h
  · exact .inr h
end Go.Proofs.YtfdacinedbdncaaDoor
