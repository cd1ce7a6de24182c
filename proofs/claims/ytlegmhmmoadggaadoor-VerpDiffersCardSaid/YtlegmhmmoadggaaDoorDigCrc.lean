/- digest.Crc and math/bits.RotateLeft32: what each returns. -/
import Derived.Test.YtlegmhmmoadggaaDoorDigWords
import Derived.Test.YtlegmhmmoadggaaDoorProg
import Derived.WalkSpells
import Derived.WalkLawsBesides
import Derived.Lib.Hide
namespace Go.Proofs.YtlegmhmmoadggaaDoor
open Go.RowKit Dg
theorem rot_any (x : UInt32) (k : Int) (n : Nat) (h0 : 0 < n) (h1 : n < 32) (hk : k = -(n : Int)) (w : World) :
    Calls Tryd.prog 71 #[.int .u32 (v32 x), .int .i64 k] w fun e w' => e = .returned (.int .u32 (v32 (rotr x n))) ∧ w = w' := by
  subst hk
  have e1 := wrap_neg_and n h0 h1
  have e2 : IntKind.u64.wrap (32 - ((32 - n : Nat) : Int)) = (n : Int) := by rw [IntKind.wrap_u64]; omega
  have e3 := rotr_bits x n
  go_enter Tryd.func71, Tryd.ntmps71
  go_wp2
  go_ret
  exact ⟨rfl, rfl⟩

theorem rot_lit (x : UInt32) (k : Int) (h : 0 < (-k).toNat ∧ (-k).toNat < 32 ∧ k ≤ 0) (w : World) :
    Calls Tryd.prog 71 #[.int .u32 (v32 x), .int .i64 k] w fun e w' => e = .returned (.int .u32 (v32 (rotr x (-k).toNat))) ∧ w = w' :=
  rot_any x k _ h.1 h.2.1 (by omega) w

end Go.Proofs.YtlegmhmmoadggaaDoor
