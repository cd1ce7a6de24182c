/- Decimal numerals: what is read back of them. -/
import Derived.Lib.ItoaLen
import Derived.Lib.AtoiAllCases
import Derived.Lib.Bytealg
import Derived.Lib.Strings
namespace Go.Proofs.YtlegmhmmoadggaaDoor
namespace Wr
open Go.Lib
/-- an int of 64 bits -/
def I64 (n : Int) : Prop := -9223372036854775808 ≤ n ∧ n ≤ 9223372036854775807
/-- a byte that a numeral may hold -/
def numByte (c : UInt8) : Bool := c == 45 || (48 ≤ c.toNat && c.toNat ≤ 57)
theorem parse_append (l : List UInt8) (c : UInt8) : ∀ acc, parseUint10 acc (l ++ [c]) = match parseUint10 acc l with | .ok a => parseUint10 a [c] | e => e := by
  induction l with
  | nil => intro acc; simp [parseUint10]
  | cons b r ih =>
    intro acc
    simp only [List.cons_append, parseUint10]
    split
    · split
      · rfl
      · split
        · rfl
        · exact ih _
    · rfl
theorem dig_nat (d : Nat) (h : d < 10) : (UInt8.ofNat (48 + d)).toNat = 48 + d := by rw [UInt8.toNat_ofNat']; omega
theorem parse_dec (u : Nat) : u < 18446744073709551616 → parseUint10 0 (decDigits u) = .ok u := by
  induction u using Nat.strongRecOn with
  | _ u ih =>
    intro hu
    by_cases h : u < 10
    · rw [decDigits_one h]
      simp only [parseUint10, dig_nat u h]
      rw [if_pos (by omega), if_neg (by omega), if_neg (by omega)]
      congr 1; omega
    · rw [decDigits, dif_neg h, parse_append, ih (u / 10) (by omega) (by omega)]
      simp only [parseUint10, dig_nat (u % 10) (by omega)]
      rw [if_pos (by omega), if_neg (by omega), if_neg (by omega)]
      congr 1; omega
theorem dec_ne (u : Nat) : decDigits u ≠ [] := by
  intro h
  have := decDigits_length u
  have := nDigits_pos u
  simp [h] at *
  omega
theorem mag_dec (u : Nat) (h : u < 18446744073709551616) : parseMag (decDigits u) = .ok u := by
  unfold parseMag
  rw [if_neg (dec_ne u), parse_dec u h]
theorem dec_bytes (u : Nat) : ∀ c ∈ decDigits u, 48 ≤ c.toNat ∧ c.toNat ≤ 57 := by
  induction u using Nat.strongRecOn with
  | _ u ih =>
    intro c hc
    by_cases h : u < 10
    · rw [decDigits_one h] at hc
      simp only [List.mem_singleton] at hc
      subst hc
      rw [dig_nat u h]; omega
    · rw [decDigits, dif_neg h, List.mem_append] at hc
      rcases hc with hc | hc
      · exact ih (u / 10) (by omega) c hc
      · simp only [List.mem_singleton] at hc
        subst hc
        rw [dig_nat (u % 10) (by omega)]; omega
theorem itoa_bytes (n : Int) : ∀ c ∈ itoa n, numByte c = true := by
  intro c hc
  unfold itoa at hc
  split at hc
  · simp only [List.mem_cons] at hc
    rcases hc with rfl | hc
    · rfl
    · have := dec_bytes _ c hc
      simp [numByte, this.1, this.2]
  · have := dec_bytes _ c hc
    simp [numByte, this.1, this.2]
/-- Atoi reads back what Itoa writes -/
theorem atoi_itoa (n : Int) (h : I64 n) : atoiAll (itoa n) = .ok n := by
  obtain ⟨h0, h1⟩ := h
  by_cases hn : n < 0
  · obtain ⟨u, rfl⟩ : ∃ u : Nat, n = -(u : Int) := ⟨n.natAbs, by omega⟩
    rw [itoa_neg u (by omega), atoiAll_minus, mag_dec u (by omega)]
    simp only [signed]
    rw [if_neg (by omega)]
  · obtain ⟨u, rfl⟩ : ∃ u : Nat, n = u := ⟨n.toNat, by omega⟩
    rw [itoa_nonneg]
    cases hd : decDigits u with
    | nil => exact absurd hd (dec_ne u)
    | cons c r =>
      have hc := dec_bytes u c (by rw [hd]; simp)
      rw [atoiAll_plain c r (by omega) (by omega), ← hd, mag_dec u (by omega)]
      simp only [signless]
      rw [if_neg (by omega)]
theorem itoa_inj {a b : Int} (ha : I64 a) (hb : I64 b) (h : itoa a = itoa b) : a = b := by
  have e := atoi_itoa a ha
  rw [h, atoi_itoa b hb] at e
  injection e with e
  exact e.symm
theorem nDigits_le (k : Nat) : ∀ u, 0 < k → u < 10 ^ k → nDigits u ≤ k := by
  induction k with
  | zero => intro u h; omega
  | succ k ih =>
    intro u _ hu
    by_cases h : u < 10
    · rw [nDigits_small h]; omega
    · rw [nDigits_big h]
      rw [Nat.pow_succ] at hu
      by_cases hk : k = 0
      · subst hk; simp at hu; omega
      · have := ih (u / 10) (by omega) (by omega)
        omega
theorem itoa_len (n : Int) (h : I64 n) : (itoa n).length ≤ 20 := by
  obtain ⟨h0, h1⟩ := h
  by_cases hn : n < 0
  · obtain ⟨u, rfl⟩ : ∃ u : Nat, n = -(u : Int) := ⟨n.natAbs, by omega⟩
    rw [itoa_neg u (by omega), List.length_cons, decDigits_length]
    have := nDigits_le 19 u (by omega) (by omega)
    omega
  · obtain ⟨u, rfl⟩ : ∃ u : Nat, n = u := ⟨n.toNat, by omega⟩
    rw [itoa_nonneg, decDigits_length]
    have := nDigits_le 19 u (by omega) (by omega)
    omega
theorem itoa_pos (n : Int) : itoa n ≠ [] := by
  unfold itoa
  split
  · simp
  · exact dec_ne _
/-- the int whose numeral a string is -/
def dec (s : List UInt8) : Option Int := match atoiAll s with | .ok n => if itoa n = s then some n else none | _ => none
theorem dec_itoa (n : Int) (h : I64 n) : dec (itoa n) = some n := by unfold dec; rw [atoi_itoa n h]; simp
theorem dec_some {s : List UInt8} {n : Int} (h : dec s = some n) : itoa n = s ∧ I64 n := by
  unfold dec at h
  split at h
  · rename_i m hm
    split at h
    · rename_i e
      injection h with h
      subst h
      exact ⟨e, atoiAll_bounds hm⟩
    · cases h
  · cases h
theorem dec_none {s : List UInt8} (h : dec s = none) (n : Int) (hn : I64 n) : itoa n ≠ s := by
  intro e
  rw [← e, dec_itoa n hn] at h
  cases h
end Wr
end Go.Proofs.YtlegmhmmoadggaaDoor
