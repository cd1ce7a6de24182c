/- missiveref03.mixed: the walk. -/
import Derived.Test.YtmapodkdnbbjgaaDoorRefUnhex
import Derived.Test.YtmapodkdnbbjgaaDoorRefBits
namespace Go.Proofs.YtmapodkdnbbjgaaDoor
open Go.RowKit Dg
theorem maskL_at (key : List UInt8) (m : UInt8) (k : Nat) (h : k < 64) : (maskL key m).take (k + 1) = (maskL key m).take k ++ [key.getD k 0 ^^^ m] := by
  rw [List.take_succ_eq_append_getElem (by rw [maskL_len]; exact h)]
  congr 1
  congr 1
  have e : (maskL key m)[k]? = some (key.getD k 0 ^^^ m) := by
    unfold maskL
    rw [List.getElem?_map, List.getElem?_range h]; rfl
  exact Option.some.inj ((List.getElem?_eq_getElem _).symm.trans e)
theorem xor64_8 (x m : UInt8) : bits .xor .i64 (x.toNat : Int) (m.toNat : Int) = ((x ^^^ m).toNat : Int) := by
  rw [j64_xor _ _ (by have := w8_lt x; omega) (by have := w8_lt m; omega), UInt8.toNat_xor]
end Go.Proofs.YtmapodkdnbbjgaaDoor
