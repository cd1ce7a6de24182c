/- Words of 64 bits as numbers modulo 2^64; digits of numbers; base 32's alphabet. -/
import Derived.Test.YtlegmhmmoadggaaDoorDigWords
namespace Go.Proofs.YtlegmhmmoadggaaDoor
open Go.RowKit
namespace Dg
/-- a number as the machine's word of 64 bits holds it -/
def w64 (N : Nat) : Int := ((N % 18446744073709551616 : Nat) : Int)
theorem w64_0 (N : Nat) : 0 ≤ w64 N := Int.natCast_nonneg _
theorem wrap_w64 (M : Nat) (z : Int) (h : z = (M : Int)) : IntKind.u64.wrap z = ((M % 18446744073709551616 : Nat) : Int) := by
  rw [IntKind.wrap_u64, h]; omega
theorem or64 (N B c j : Nat) (hB : B = 2 ^ j) (hj : j ≤ 8) (hc : c < B) :
    bits .or .u64 (IntKind.u64.wrap (w64 N * (B : Int))) (IntKind.u64.wrap (c : Int)) = w64 (N * B + c) := by
  have hB2 : B ∣ 18446744073709551616 := by rw [hB]; exact Nat.pow_dvd_pow 2 (by omega : j ≤ 64)
  obtain ⟨q, hq⟩ := hB2
  have hBp : 0 < B := by rw [hB]; exact Nat.two_pow_pos _
  have hq0 : 0 < q := by rcases Nat.eq_zero_or_pos q with h | h; simp [h] at hq; exact h
  have hc64 : c < 18446744073709551616 := by
    have : B ≤ 256 := by rw [hB]; exact Nat.pow_le_pow_right (by decide) hj
    omega
  have e1 : IntKind.u64.wrap (w64 N * (B : Int)) = (((N * B) % 18446744073709551616 : Nat) : Int) := by
    rw [wrap_w64 ((N % 18446744073709551616) * B) _ (by unfold w64; rw [Int.natCast_mul]), Nat.mod_mul_mod]
  have e2 : IntKind.u64.wrap (c : Int) = ((c % 18446744073709551616 : Nat) : Int) := wrap_w64 c _ rfl
  rw [e1, e2, Nat.mod_eq_of_lt hc64, u64_or_nat _ _ (Nat.mod_lt _ (by decide)) hc64]
  have h3 : (N * B) % 18446744073709551616 % B = 0 := by rw [hq, Nat.mod_mul_right_mod, Nat.mul_mod_left]
  rw [nat_join j _ _ (by rw [← hB]; exact h3) (by rw [← hB]; exact hc)]
  unfold w64
  congr 1
  have h4 : N * B % 18446744073709551616 + c < 18446744073709551616 := by
    have h5 : (N * B) % 18446744073709551616 < 18446744073709551616 := Nat.mod_lt _ (by decide)
    have h6 := Nat.div_add_mod ((N * B) % 18446744073709551616) B
    rw [h3, Nat.add_zero] at h6
    have h7 : (N * B) % 18446744073709551616 / B < q := by
      rw [Nat.div_lt_iff_lt_mul hBp]; rw [Nat.mul_comm] at hq; omega
    have h8 : B * ((N * B) % 18446744073709551616 / B + 1) ≤ B * q := Nat.mul_le_mul_left _ h7
    rw [Nat.mul_add, h6, Nat.mul_one, ← hq] at h8
    omega
  rw [Nat.add_mod, Nat.mod_eq_of_lt hc64, Nat.mod_eq_of_lt h4]
theorem w64_div_mod (N j m : Nat) (h : j + m ≤ 64) : N % 18446744073709551616 / 2 ^ j % 2 ^ m = N / 2 ^ j % 2 ^ m := by
  have e : (18446744073709551616 : Nat) = 2 ^ j * 2 ^ (64 - j) := by rw [← Nat.pow_add, show j + (64 - j) = 64 by omega]
  rw [e, Nat.mod_mul_right_div_self]
  exact Nat.mod_mod_of_dvd _ (Nat.pow_dvd_pow 2 (by omega))
theorem and31 (N j : Nat) (hj : j ≤ 12) : bits .and .u64 (w64 N / 2 ^ j) 31 = ((N / 2 ^ j % 32 : Nat) : Int) := by
  have e : w64 N / 2 ^ j = ((N % 18446744073709551616 / 2 ^ j : Nat) : Int) := by unfold w64; simp
  rw [e, show (31 : Int) = ((31 : Nat) : Int) from rfl, u64_and_nat _ 31 (Nat.lt_of_le_of_lt (Nat.div_le_self _ _) (Nat.mod_lt _ (by decide))) (by decide), nat_mask5]
  congr 1
  exact w64_div_mod N j 5 (by omega)
theorem shl31 (N j : Nat) : bits .and .u64 (IntKind.u64.wrap (w64 N * 2 ^ j)) 31 = ((N * 2 ^ j % 32 : Nat) : Int) := by
  have e : IntKind.u64.wrap (w64 N * 2 ^ j) = (((N * 2 ^ j) % 18446744073709551616 : Nat) : Int) := by
    rw [wrap_w64 ((N % 18446744073709551616) * 2 ^ j) _ (by unfold w64; simp), Nat.mod_mul_mod]
  rw [e, show (31 : Int) = ((31 : Nat) : Int) from rfl, u64_and_nat _ 31 (Nat.mod_lt _ (by decide)) (by decide), nat_mask5]
  congr 1
  exact Nat.mod_mod_of_dvd _ (by decide)
theorem byte64 (N j : Nat) (hj : j ≤ 12) : w64 N / 2 ^ j % 256 = ((N / 2 ^ j % 256 : Nat) : Int) := by
  have e : w64 N / 2 ^ j = ((N % 18446744073709551616 / 2 ^ j : Nat) : Int) := by unfold w64; simp
  rw [e]
  have := w64_div_mod N j 8 (by omega)
  rw [show (2 : Nat) ^ 8 = 256 from rfl] at this
  omega
theorem low64 (N j : Nat) (hj : j ≤ 12) (z : Int) (hz : z = ((2 ^ j - 1 : Nat) : Int)) : bits .and .u64 (w64 N) z = ((N % 2 ^ j : Nat) : Int) := by
  have h1 : (2 : Nat) ^ j ≤ 2 ^ 12 := Nat.pow_le_pow_right (by decide) hj
  rw [hz]; unfold w64
  rw [u64_and_nat _ _ (Nat.mod_lt _ (by decide)) (by omega), Nat.and_two_pow_sub_one_eq_mod]
  congr 1
  exact Nat.mod_mod_of_dvd _ (by rw [show (18446744073709551616 : Nat) = 2 ^ 64 from rfl]; exact Nat.pow_dvd_pow 2 (by omega))
theorem digs_len (B k : Nat) : ∀ n, (digs B k n).length = k := by
  induction k with
  | zero => intro n; rfl
  | succ k ih => intro n; simp [digs, ih]
theorem digs_succ (B k n : Nat) : digs B (k + 1) n = digs B k (n / B) ++ [n % B] := rfl
theorem num_snoc (B : Nat) (l : List Nat) (d : Nat) : num B (l ++ [d]) = num B l * B + d := by simp [num]
theorem num8_snoc (l : List UInt8) (c : UInt8) : num8 (l ++ [c]) = num8 l * 256 + c.toNat := by simp [num8, num_snoc]
theorem letGet (n : Nat) (h : n < (⟨#[97, 98, 99, 100, 101, 102, 103, 104, 105, 106, 107, 108, 109, 110, 111, 112, 113, 114, 115, 116, 117, 118, 119, 120, 121, 122, 50, 51, 52, 53, 54, 55]⟩ : ByteArray).size) :
    (⟨#[97, 98, 99, 100, 101, 102, 103, 104, 105, 106, 107, 108, 109, 110, 111, 112, 113, 114, 115, 116, 117, 118, 119, 120, 121, 122, 50, 51, 52, 53, 54, 55]⟩ : ByteArray)[n] = letter n := by
  rw [letter, List.getD_eq_getElem?_getD, List.getElem?_eq_getElem (by exact h)]; rfl
end Dg
end Go.Proofs.YtlegmhmmoadggaaDoor
