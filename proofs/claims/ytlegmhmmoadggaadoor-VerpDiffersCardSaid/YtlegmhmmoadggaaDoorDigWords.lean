/- The machine's operations on words of 32 bits and on bytes, as UInt32 and UInt8 have them: equations that the walks use as rules. -/
import Derived.Test.YtlegmhmmoadggaaDoorDigSpec
namespace Go.Proofs.YtlegmhmmoadggaaDoor
open Go.RowKit
namespace Dg

/-- a word as the machine holds it: behind a name, so that no rule of simp's lays it open -/
def v32 (x : UInt32) : Int := (x.toNat : Int)
theorem w32_lt (x : UInt32) : x.toNat < 4294967296 := x.toNat_lt
theorem w8_lt (x : UInt8) : x.toNat < 256 := x.toNat_lt
theorem v32_0 (x : UInt32) : 0 ≤ v32 x := Int.natCast_nonneg _
theorem v32_lt (x : UInt32) : v32 x < 4294967296 := by have := w32_lt x; unfold v32; omega
theorem of32 (n : Nat) (h : n < 4294967296) : (UInt32.ofNat n).toNat = n := by simp [UInt32.toNat_ofNat', Nat.mod_eq_of_lt h]
theorem v32_of (n : Nat) (h : n < 4294967296) : v32 (UInt32.ofNat n) = (n : Int) := by unfold v32; rw [of32 n h]
theorem v32_mk (z : Int) (h0 : 0 ≤ z) (h1 : z < 4294967296) : z = v32 (UInt32.ofNat z.toNat) := by rw [v32_of _ (by omega)]; omega
theorem xor32 (x y : UInt32) : bits .xor .u32 (v32 x) (v32 y) = v32 (x ^^^ y) := by
  unfold v32; rw [u32_xor_nat _ _ (w32_lt x) (w32_lt y), UInt32.toNat_xor]
theorem and32 (x y : UInt32) : bits .and .u32 (v32 x) (v32 y) = v32 (x &&& y) := by
  unfold v32; rw [u32_and_nat _ _ (w32_lt x) (w32_lt y), UInt32.toNat_and]
theorem or32 (x y : UInt32) : bits .or .u32 (v32 x) (v32 y) = v32 (x ||| y) := by
  unfold v32; rw [u32_or_nat _ _ (w32_lt x) (w32_lt y), UInt32.toNat_or]
theorem add32 (x y : UInt32) : (v32 x + v32 y) % 4294967296 = v32 (x + y) := by
  unfold v32; rw [UInt32.toNat_add]; omega
theorem add32w (x y : UInt32) : IntKind.u32.wrap (v32 x + v32 y) = v32 (x + y) := by rw [IntKind.wrap_u32, add32]
theorem shr_toNat (x : UInt32) (n : Nat) : (shr x n).toNat = x.toNat / 2 ^ n := of32 _ (Nat.lt_of_le_of_lt (Nat.div_le_self _ _) (w32_lt x))
theorem shr32 (x : UInt32) (n : Nat) : v32 x / 2 ^ n = v32 (shr x n) := by unfold v32; rw [shr_toNat]; simp
theorem rotr_toNat (x : UInt32) (n : Nat) : (rotr x n).toNat = (x.toNat * 2 ^ (32 - n) % 4294967296 ||| x.toNat / 2 ^ n) :=
  of32 _ (Nat.or_lt_two_pow (n := 32) (Nat.mod_lt _ (by decide)) (Nat.lt_of_le_of_lt (Nat.div_le_self _ _) (w32_lt x)))
theorem rotr_bits (x : UInt32) (n : Nat) : bits .or .u32 (v32 x * 2 ^ (32 - n) % 4294967296) (v32 x / 2 ^ n) = v32 (rotr x n) := by
  unfold v32
  rw [rotr_toNat, ← u32_or_nat _ _ (Nat.mod_lt _ (by decide)) (Nat.lt_of_le_of_lt (Nat.div_le_self _ _) (w32_lt x))]
  simp
theorem not32 (x : UInt32) : v32 (~~~x) = 4294967295 - v32 x := by
  have := w32_lt x
  have h : (~~~x).toNat = 4294967295 - x.toNat := by simp [UInt32.toNat_not]
  unfold v32; omega
theorem not_bits (x : UInt32) : bits .xor .u32 IntKind.u32.max (v32 x) = v32 (~~~x) := by
  rw [show IntKind.u32.max = v32 0xffffffff from rfl, xor32]
  congr 1
theorem wrap64_v32 (x : UInt32) : wrap64 (v32 x) = v32 x := by
  have := v32_0 x; have := v32_lt x
  exact IntWalk.wrap64_in _ ⟨by omega, by omega⟩
theorem wrap_neg_and (n : Nat) (h0 : 0 < n) (h1 : n < 32) : bits .and .u64 (IntKind.u64.wrap (-(n : Int))) 31 = ((32 - n : Nat) : Int) := by
  rw [IntKind.wrap_u64]
  have e : (-(n : Int)) % 18446744073709551616 = ((18446744073709551616 - n : Nat) : Int) := by omega
  rw [e, show (31 : Int) = ((31 : Nat) : Int) from rfl, u64_and_nat _ 31 (by omega) (by omega), nat_mask5]
  omega
theorem crcTest (X : UInt32) : bits .and .u32 (v32 X) 1 = ((X.toNat % 2 : Nat) : Int) := by
  unfold v32; rw [show (1 : Int) = ((1 : Nat) : Int) from rfl, u32_and_nat _ 1 (w32_lt X) (by decide), nat_mask1]
theorem crcXor (X : UInt32) (b : UInt8) : bits .xor .u32 (v32 X) ((b.toNat : Int) % 4294967296) = v32 (X ^^^ b.toUInt32) := by
  have hb := w8_lt b
  have e : v32 b.toUInt32 = (b.toNat : Int) := by unfold v32; simp
  rw [show ((b.toNat : Int) % 4294967296) = v32 b.toUInt32 by rw [e]; omega, xor32]
theorem crcPoly (x : UInt32) : bits .xor .u32 (v32 x) 3988292384 = v32 (x ^^^ 0xedb88320) := xor32 _ 0xedb88320
theorem take_snoc (s : ByteArray) (k : Nat) (h : k < s.size) : s.data.toList.take (k + 1) = s.data.toList.take k ++ [s[k]] := by
  rw [List.take_succ_eq_append_getElem (by simpa using h)]; rfl
theorem take_all (s : ByteArray) : s.data.toList.take s.size = s.data.toList := List.take_of_length_le (by simp)
end Dg
end Go.Proofs.YtlegmhmmoadggaaDoor
