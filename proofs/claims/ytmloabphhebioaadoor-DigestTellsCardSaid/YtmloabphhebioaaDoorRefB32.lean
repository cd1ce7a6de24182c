/- missiveref03.Base32: the law of its bits, and the walk. -/
import Derived.Test.YtmloabphhebioaaDoorRefBit
namespace Go.Proofs.YtmloabphhebioaaDoor
open Go.RowKit Dg
theorem num8_fold : ∀ (l : List UInt8) (n : Nat), (l.map (·.toNat)).foldl (fun n d => n * 256 + d) n = n * 256 ^ l.length + num8 l
  | [], n => by simp [num8, num]
  | c :: l, n => by
    have h0 := num8_fold l (0 * 256 + c.toNat)
    have h1 := num8_fold l (n * 256 + c.toNat)
    have e : num8 (c :: l) = (l.map (·.toNat)).foldl (fun n d => n * 256 + d) (0 * 256 + c.toNat) := rfl
    rw [e, h0, List.map_cons, List.foldl_cons, h1, List.length_cons, Nat.pow_succ]
    rw [Nat.add_mul, Nat.add_mul, Nat.mul_assoc, Nat.mul_comm 256 (256 ^ l.length)]; omega
theorem num8_app (a b : List UInt8) : num8 (a ++ b) = num8 a * 256 ^ b.length + num8 b := by
  rw [← num8_fold]
  show num 256 ((a ++ b).map (·.toNat)) = _
  unfold num
  rw [List.map_append, List.foldl_append]; rfl
theorem num8_small : ∀ (l : List UInt8), num8 l < 256 ^ l.length
  | [] => by simp [num8, num]
  | c :: l => by
    have h := num8_app [c] l
    have h2 := num8_small l
    have h3 := w8_lt c
    have h4 : num8 [c] = c.toNat := by simp [num8, num]
    rw [h4] at h
    rw [show c :: l = [c] ++ l from rfl, h]
    simp only [List.length_append, List.length_cons, List.length_nil, Nat.zero_add, Nat.pow_add, Nat.pow_one]
    calc c.toNat * 256 ^ l.length + num8 l < c.toNat * 256 ^ l.length + 256 ^ l.length := by omega
      _ = (c.toNat + 1) * 256 ^ l.length := by rw [Nat.add_mul, Nat.one_mul]
      _ ≤ 256 * 256 ^ l.length := Nat.mul_le_mul_right _ (by omega)
theorem num8_byte (l : List UInt8) (q : Nat) (h : q < l.length) : num8 l / 256 ^ (l.length - 1 - q) = num8 (l.take q) * 256 + (l[q]).toNat := by
  have e : l = (l.take q ++ [l[q]]) ++ l.drop (q + 1) := by
    rw [List.append_assoc, List.singleton_append, ← List.drop_eq_getElem_cons h, List.take_append_drop]
  have h1 : (l.drop (q + 1)).length = l.length - 1 - q := by rw [List.length_drop]; omega
  have h2 := num8_small (l.drop (q + 1))
  rw [h1] at h2
  have h3 : num8 l = (num8 (l.take q) * 256 + (l[q]).toNat) * 256 ^ (l.length - 1 - q) + num8 (l.drop (q + 1)) := by
    conv => lhs; rw [e]
    rw [num8_app, num8_snoc, h1]
  rw [h3, Nat.mul_comm, Nat.mul_add_div (Nat.pow_pos (by decide)), Nat.div_eq_of_lt h2, Nat.add_zero]
theorem bit_of (A c r : Nat) (h : r < 8) : (A * 256 + c) / 2 ^ (7 - r) % 2 = c / 2 ^ (7 - r) % 2 := by
  have e : A * 256 = 2 ^ (7 - r) * (A * 2 ^ (r + 1)) := by
    have : (256 : Nat) = 2 ^ (7 - r) * 2 ^ (r + 1) := by rw [← Nat.pow_add, show 7 - r + (r + 1) = 8 by omega]
    rw [this, Nat.mul_left_comm]
  rw [e, Nat.mul_add_div (Nat.pow_pos (by decide)), Nat.pow_succ, ← Nat.mul_assoc, Nat.mul_comm (A * 2 ^ r) 2, Nat.mul_add_mod]
theorem bitN_num (s : ByteArray) (t : Nat) (h : t < 8 * s.size) : bitN s t = num8 s.data.toList / 2 ^ (8 * s.size - 1 - t) % 2 := by
  have hq : t / 8 < s.data.toList.length := by simp; omega
  have hl : s.data.toList.length = s.size := rfl
  have hb := num8_byte s.data.toList (t / 8) hq
  rw [hl] at hb
  unfold bitN
  rw [List.getD_eq_getElem?_getD, List.getElem?_eq_getElem hq, Option.getD_some]
  have e : 8 * s.size - 1 - t = 8 * (s.size - 1 - t / 8) + (7 - t % 8) := by omega
  rw [e, Nat.pow_add, ← Nat.div_div_eq_div_mul, show (2 : Nat) ^ (8 * (s.size - 1 - t / 8)) = 256 ^ (s.size - 1 - t / 8) by rw [Nat.pow_mul], hb]
  exact (bit_of _ _ _ (Nat.mod_lt _ (by decide))).symm
/-- the bits of the whole number, filled up with zeros -/
theorem bitN_pad (s : ByteArray) (P T t : Nat) (hT : T = 8 * s.size + P) (h : t < T) : bitN s t = num8 s.data.toList * 2 ^ P / 2 ^ (T - 1 - t) % 2 := by
  by_cases ht : t < 8 * s.size
  · rw [bitN_num s t ht, show T - 1 - t = P + (8 * s.size - 1 - t) by omega, Nat.pow_add, ← Nat.div_div_eq_div_mul, Nat.mul_div_cancel _ (Nat.pow_pos (by decide))]
  · have hb : bitN s t = 0 := by
      unfold bitN
      rw [List.getD_eq_getElem?_getD, List.getElem?_eq_none (by show s.size ≤ _; omega)]; simp
    rw [hb, show P = (T - 1 - t) + (P - (T - 1 - t) - 1) + 1 by omega, Nat.pow_succ, Nat.pow_add]
    generalize P - (T - 1 - t) - 1 = z
    rw [show num8 s.data.toList * (2 ^ (T - 1 - t) * 2 ^ z * 2) = 2 ^ (T - 1 - t) * (num8 s.data.toList * 2 ^ z * 2) by ac_rfl, Nat.mul_div_cancel_left _ (Nat.pow_pos (by decide)), Nat.mul_mod_left]
theorem bits_next (M H i : Nat) : 2 * (M / 2 ^ (H + 1) % 2 ^ i) + M / 2 ^ H % 2 = M / 2 ^ H % 2 ^ (i + 1) := by
  rw [Nat.pow_succ 2 H, ← Nat.div_div_eq_div_mul]
  generalize M / 2 ^ H = y
  rw [Nat.pow_succ 2 i, Nat.mul_comm (2 ^ i) 2, Nat.mod_mul]
  omega
end Go.Proofs.YtmloabphhebioaaDoor
