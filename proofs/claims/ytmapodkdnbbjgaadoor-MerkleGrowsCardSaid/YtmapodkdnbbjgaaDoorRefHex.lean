/- missiveref03.digit, Hex, value, Unhex, mixed. -/
import Derived.Test.YtmapodkdnbbjgaaDoorDigMac
import Derived.Test.YtmapodkdnbbjgaaDoorOwnStep
import Derived.WalkSmall
import Derived.IntWalk
import Derived.Sort.AtCall
namespace Go.Proofs.YtmapodkdnbbjgaaDoor
open Go.RowKit Dg
theorem below_own {B : Nat} {w w' : World} {v : Value} {n : Nat} {l : List UInt8} {w0 : World} (h : w.grownBy w' v.ownBlock) (ho : OB w0 B v n l) (hB : B ≤ w.heap.size) : Below B w w' :=
  ⟨h.os, h.tape, h.output, h.size, fun i hi => h.block i (by omega) (fun e => by have := (Own.block_ge ho i e.symm).1; omega)⟩
end Go.Proofs.YtmapodkdnbbjgaaDoor
