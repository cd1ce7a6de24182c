/- A list of one value that the call lays. -/
import Derived.Test.YtfdacinedbdncaaDoorWrFewX
namespace Go.Proofs.YtfdacinedbdncaaDoor
open Go.RowKit
namespace Wr
abbrev vcells1 (x : Vl) (p1 p2 : Option Addr) (c1 c2 : Nat) : Array Value := #[.int .i64 x.kind, .int .i64 x.n, .string (bs x.s), .slice p1 x.li.length c1, .slice p2 x.lt.length c2]
theorem one_lvs1 {w : World} {x : Vl} {p1 p2 : Option Addr} {c1 c2 : Nat} (hli : LV vi w (.slice p1 x.li.length c1) x.li) (hlt : LV vs w (.slice p2 x.lt.length c2) x.lt) (ho : x.Ok) :
    LVs (w.alloc (.cells (vcells1 x p1 p2 c1 c2) 25)) (.slice (some ⟨w.heap.size, 0, none⟩) 1 1) [x] := by
  refine ⟨_, 1, rfl, Nat.le_refl _, by unfold maxLen; omega, .inr ⟨w.heap.size, 0, rfl, fun i y hy => ?_⟩⟩
  match i, hy with
  | 0, hy =>
    simp at hy
    subst hy
    have hh := heap_alloc_new w (.cells (vcells1 x p1 p2 c1 c2) 25)
    have hb : Below w.heap.size w (w.alloc (.cells (vcells1 x p1 p2 c1 c2) 25)) := (Below.refl _ _).alloc (Nat.le_refl _) _
    refine ⟨p1, p2, c1, c2, ?_, ?_, ?_, ?_, ?_, hli.below hb (Nat.le_refl _), hlt.below hb (Nat.le_refl _), ho⟩
    · rw [Lib.cell_of_heap hh]; rfl
    · rw [Lib.cell_of_heap hh]; rfl
    · rw [Lib.cell_of_heap hh]; rfl
    · rw [Lib.cell_of_heap hh]; rfl
    · rw [Lib.cell_of_heap hh]; rfl
end Wr
end Go.Proofs.YtfdacinedbdncaaDoor
