/- missiveref03's numbers: word, turn, Crc. -/
import Derived.Test.YtmapodkdnbbjgaaDoorDigCrc
import Derived.Test.YtmapodkdnbbjgaaDoorFr
import Derived.IntWalk
import Derived.BigQuiet
import Derived.WalkSmall
namespace Go.Proofs.YtmapodkdnbbjgaaDoor
open Go.RowKit Dg
theorem j64_xor (a b : Nat) (ha : a < 9223372036854775808) (hb : b < 9223372036854775808) : bits .xor .i64 (a : Int) (b : Int) = ((a ^^^ b : Nat) : Int) := by
  have hx : a ^^^ b < 2 ^ 63 := Nat.xor_lt_two_pow (by omega) (by omega)
  show IntKind.i64.wrap ((BitVec.ofInt 64 (a : Int) ^^^ BitVec.ofInt 64 (b : Int)).toNat : Int) = _
  rw [BitVec.toNat_xor, ofInt_u64 a (by omega), ofInt_u64 b (by omega)]
  exact IntWalk.i64_in _ (by omega)
theorem j64_and (a b : Nat) (ha : a < 9223372036854775808) (hb : b < 9223372036854775808) : bits .and .i64 (a : Int) (b : Int) = ((a &&& b : Nat) : Int) := by
  have hx : a &&& b < 2 ^ 63 := Nat.and_lt_two_pow _ (by omega)
  show IntKind.i64.wrap ((BitVec.ofInt 64 (a : Int) &&& BitVec.ofInt 64 (b : Int)).toNat : Int) = _
  rw [BitVec.toNat_and, ofInt_u64 a (by omega), ofInt_u64 b (by omega)]
  exact IntWalk.i64_in _ (by omega)
theorem j64_or (a b : Nat) (ha : a < 9223372036854775808) (hb : b < 9223372036854775808) : bits .or .i64 (a : Int) (b : Int) = ((a ||| b : Nat) : Int) := by
  have hx : a ||| b < 2 ^ 63 := Nat.or_lt_two_pow (by omega) (by omega)
  show IntKind.i64.wrap ((BitVec.ofInt 64 (a : Int) ||| BitVec.ofInt 64 (b : Int)).toNat : Int) = _
  rw [BitVec.toNat_or, ofInt_u64 a (by omega), ofInt_u64 b (by omega)]
  exact IntWalk.i64_in _ (by omega)
theorem jxor (x y : UInt32) : bits .xor .i64 (v32 x) (v32 y) = v32 (x ^^^ y) := by
  unfold v32; rw [j64_xor _ _ (by have := w32_lt x; omega) (by have := w32_lt y; omega), UInt32.toNat_xor]
theorem jand (x y : UInt32) : bits .and .i64 (v32 x) (v32 y) = v32 (x &&& y) := by
  unfold v32; rw [j64_and _ _ (by have := w32_lt x; omega) (by have := w32_lt y; omega), UInt32.toNat_and]
theorem jor (x y : UInt32) : bits .or .i64 (v32 x) (v32 y) = v32 (x ||| y) := by
  unfold v32; rw [j64_or _ _ (by have := w32_lt x; omega) (by have := w32_lt y; omega), UInt32.toNat_or]
theorem jword (n : Nat) (h : n < 9223372036854775808) : bits .and .i64 (n : Int) 4294967295 = ((n % 4294967296 : Nat) : Int) := by
  have e := j64_and n 4294967295 h (by decide)
  have e2 : n &&& 4294967295 = n % 4294967296 := Nat.and_two_pow_sub_one_eq_mod n 32
  rw [e2] at e
  exact e
theorem word_any (n : Nat) (h : n < 9223372036854775808) (w : World) :
    Calls Tryd.prog 52 #[.int .i64 n] w fun e w' => e = .returned (.int .i64 ((n % 4294967296 : Nat) : Int)) ∧ w = w' := by
  have r1 := jword n h
  go_enter Tryd.func52, Tryd.ntmps52
  go_wp2
  go_ret
  exact ⟨by rfl, rfl⟩
theorem turn_any (x : UInt32) (n : Nat) (h0 : 0 < n) (h1 : n < 32) (w : World) :
    Calls Tryd.prog 51 #[.int .i64 (v32 x), .int .i64 n] w fun e w' => e = .returned (.int .i64 (v32 (rotr x n))) ∧ ∃ m, w' = w.drewN m := by
  have hx := w32_lt x
  have h2 : x.toNat * 2 ^ (32 - n) < 9223372036854775808 := by
    have h3 : 2 ^ (32 - n) ≤ 2 ^ 31 := Nat.pow_le_pow_right (by decide) (by omega)
    have h4 : x.toNat * 2 ^ (32 - n) ≤ 4294967295 * 2 ^ 31 := Nat.mul_le_mul (by omega) h3
    omega
  obtain ⟨z, hz⟩ : ∃ z : Int, z = ((x.toNat * 2 ^ (32 - n) : Nat) : Int) := ⟨_, rfl⟩
  obtain ⟨y, hy⟩ : ∃ y : Int, y = ((x.toNat * 2 ^ (32 - n) % 4294967296 : Nat) : Int) := ⟨_, rfl⟩
  have HW : Hid (∀ w, Calls Tryd.prog 52 #[.int .i64 z] w fun e w' => e = .returned (.int .i64 y) ∧ w = w') := fun w => by
    rw [hz, hy]; exact word_any (x.toNat * 2 ^ (32 - n)) h2 w
  have r0 : IntKind.i64.wrap (32 - (n : Int)) = ((32 - n : Nat) : Int) := by rw [IntWalk.i64_in _ (by omega)]; omega
  have r1 : bits .or .i64 (v32 x / 2 ^ n) y = v32 (rotr x n) := by
    have e : v32 x / 2 ^ n = ((x.toNat / 2 ^ n : Nat) : Int) := by unfold v32; simp
    rw [e, hy, j64_or _ _ (Nat.lt_of_le_of_lt (Nat.div_le_self _ _) (by omega)) (by omega)]
    unfold v32; rw [rotr_toNat, Nat.or_comm]
  have r2 : IntKind.i64.wrap (v32 x * 2 ^ (32 - n)) = z := by
    have e : v32 x * 2 ^ (32 - n) = ((x.toNat * 2 ^ (32 - n) : Nat) : Int) := by unfold v32; simp
    rw [e, hz]; exact IntWalk.i64_in _ (by omega)
  clear hz hy h2 hx
  go_enter Tryd.func51, Tryd.ntmps51
  go_wp2_with fail
  go_quiet ((go_at_call 52; exact quiet_left (HW.out _)))
  go_wp2
  go_ret
  exact ⟨rfl, _, rfl⟩
theorem jbyte (x : UInt32) (b : UInt8) : bits .xor .i64 (v32 x) (wrap64 (b.toNat : Int)) = v32 (x ^^^ b.toUInt32) := by
  have hw : wrap64 (b.toNat : Int) = (b.toNat : Int) := IntWalk.wrap64_in _ (by have := w8_lt b; omega)
  rw [hw]
  have e : v32 b.toUInt32 = (b.toNat : Int) := by unfold v32; simp
  rw [← e, jxor]
theorem v32mod2 (x : UInt32) : v32 x % 2 = ((x.toNat % 2 : Nat) : Int) := by unfold v32; simp
theorem jpoly (x : UInt32) : bits .xor .i64 (v32 x) 3988292384 = v32 (x ^^^ 0xedb88320) := jxor _ 0xedb88320
theorem jones (x : UInt32) : bits .xor .i64 (v32 x) 4294967295 = v32 (~~~ x) := by
  have h := jxor x 0xffffffff
  have e : x ^^^ 0xffffffff = ~~~ x := by
    have h0 : (0xffffffff : UInt32) = ~~~ 0 := by decide
    rw [h0, UInt32.xor_not, UInt32.xor_zero]
  rw [e] at h; exact h
end Go.Proofs.YtmapodkdnbbjgaaDoor
