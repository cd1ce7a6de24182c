/- missiveref03.Short, Mac: the walks, from a contract of Sum. -/
import Derived.Test.YtmapodkdnbbjgaaDoorRefMix
namespace Go.Proofs.YtmapodkdnbbjgaaDoor
open Go.RowKit Dg
/-- the contract of the reference's Sum -/
def RSum : Prop := ∀ (s : ByteArray) (w : World), s.size ≤ 1000000 → Calls Tryd.prog 32 #[.string s] w fun e w' => e = .returned (.string (bs (sumL s.data.toList))) ∧ Below w.heap.size w w'
end Go.Proofs.YtmapodkdnbbjgaaDoor
