/- verp: what its calls want of the package-level variables; strings.Cut at a plus sign. -/
import Derived.Test.YtlegmhmmoadggaaDoorVpSpec
import Derived.Test.YtlegmhmmoadggaaDoorWrWalk3
import Derived.Test.YtlegmhmmoadggaaDoorWrEnc1
import Derived.Lib.IndexMore
namespace Go.Proofs.YtlegmhmmoadggaaDoor
open Go.RowKit
namespace Vp
open Wr Dg
def NV : Nat := max (max NG (4 + 1)) (max (0 + 1) (1 + 1))
structure VE (w : World) : Prop where
  env : Env w
  kok : KOK w
  w0 : w.cell? ⟨0, 0, none⟩ = some (.string (Wr.bs (word 0)))
  w1 : w.cell? ⟨0, 1, none⟩ = some (.string (Wr.bs (word 1)))
  w2 : w.cell? ⟨0, 2, none⟩ = some (.string (Wr.bs (word 2)))
  w3 : w.cell? ⟨0, 3, none⟩ = some (.string (Wr.bs (word 3)))
  mx : ∃ m, w.cell? ⟨1, 0, none⟩ = some (.int .i64 m)
  lt : NV ≤ w.heap.size
namespace VE
variable {w w' : World}
theorem of_block (h : VE w) (hs : w.heap.size ≤ w'.heap.size) (hk : ∀ i, i < NV → w'.heap[i]? = w.heap[i]?) : VE w' := by
  have cell : ∀ (b j : Nat) v, b < NV → w.cell? ⟨b, j, none⟩ = some v → w'.cell? ⟨b, j, none⟩ = some v := fun b j v hb hc =>
    (World.cell?_of_block (w := w) (a := ⟨b, j, none⟩) (hk b hb)).trans hc
  obtain ⟨m, hm⟩ := h.mx
  exact ⟨h.env.of_block hs (fun i hi => hk i (by unfold NV; omega)), fun i hi => cell _ _ _ (by unfold NV; omega) (h.kok i hi),
    cell _ _ _ (by unfold NV; omega) h.w0, cell _ _ _ (by unfold NV; omega) h.w1, cell _ _ _ (by unfold NV; omega) h.w2, cell _ _ _ (by unfold NV; omega) h.w3,
    ⟨m, cell _ _ _ (by unfold NV; omega) hm⟩, Nat.le_trans h.lt hs⟩
theorem below (h : VE w) {B : Nat} (hb : Below B w w') (hB : NV ≤ B) : VE w' := h.of_block hb.size fun i hi => hb.block i (by omega)
theorem step (h : VE w) (hb : Below w.heap.size w w') : VE w' := h.below hb h.lt
theorem drewN (h : VE w) (n : Nat) : VE (w.drewN n) := h.of_block (Nat.le_refl _) fun _ _ => rfl
theorem drew (h : VE w) : VE w.drew := h.of_block (Nat.le_refl _) fun _ _ => rfl
theorem kg (h : VE w) : 4 < w.heap.size := by have := h.lt; unfold NV at this; omega
end VE
theorem pre1 (c x : UInt8) (l : List UInt8) : ([c] : List UInt8).isPrefixOf (x :: l) = (c == x) := by simp [List.isPrefixOf]
theorem index_plus (c : UInt8) : ∀ l : List UInt8, Lib.index l [c] = match cutAt c l with | some (h, _) => (h.length : Int) | none => -1
  | [] => rfl
  | x :: r => by
    unfold Lib.index cutAt
    rw [pre1]
    by_cases hx : x = c
    · simp [hx]
    · have hx2 : (c == x) = false := beq_false_of_ne (fun e => hx e.symm)
      rw [index_plus c r, hx2]
      simp only [hx, if_false, Bool.false_eq_true]
      cases cutAt c r with
      | none => rfl
      | some p =>
        obtain ⟨a, b⟩ := p
        show (if (((a.length : Int)) == -1) = true then (-1 : Int) else a.length + 1) = ((x :: a).length : Int)
        rw [if_neg (by simp)]; simp
theorem cut_plus (c : UInt8) (l : List UInt8) : Lib.cut l [c] = match cutAt c l with | some (h, t) => (h, t, true) | none => (l, [], false) := by
  unfold Lib.cut
  rw [index_plus]
  cases hc : cutAt c l with
  | none => simp
  | some p =>
    obtain ⟨h, t⟩ := p
    obtain ⟨e, _⟩ := cutAt_some hc
    simp only
    rw [if_pos (by omega)]
    have h1 : ((h.length : Int)).toNat = h.length := by omega
    rw [h1, e]
    simp
end Vp
end Go.Proofs.YtlegmhmmoadggaaDoor
