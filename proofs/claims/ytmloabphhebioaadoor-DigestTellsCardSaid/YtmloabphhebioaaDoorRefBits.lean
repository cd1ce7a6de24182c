/- missiveref03's numbers: word, turn, Crc. -/
import Derived.Test.YtmloabphhebioaaDoorDigCrc
import Derived.Test.YtmloabphhebioaaDoorFr
import Derived.IntWalk
import Derived.BigQuiet
import Derived.WalkSmall
namespace Go.Proofs.YtmloabphhebioaaDoor
open Go.RowKit Dg
theorem j64_xor (a b : Nat) (ha : a < 9223372036854775808) (hb : b < 9223372036854775808) : bits .xor .i64 (a : Int) (b : Int) = ((a ^^^ b : Nat) : Int) := by
  have hx : a ^^^ b < 2 ^ 63 := Nat.xor_lt_two_pow (by omega) (by omega)
  show IntKind.i64.wrap ((BitVec.ofInt 64 (a : Int) ^^^ BitVec.ofInt 64 (b : Int)).toNat : Int) = _
  rw [BitVec.toNat_xor, ofInt_u64 a (by omega), ofInt_u64 b (by omega)]
  exact IntWalk.i64_in _ (by omega)
theorem j64_and (a b : Nat) (ha : a < 9223372036854775808) (hb : b < 9223372036854775808) : bits .and .i64 (a : Int) (b : Int) = ((a &&& b : Nat) : Int) := by
  have hx : a &&& b < 2 ^ 63 := Nat.and_lt_two_pow _ (by omega)
  show IntKind.i64.wrap ((BitVec.ofInt 64 (a : Int) &&& BitVec.ofInt 64 (b : Int)).toNat : Int) = _
  rw [BitVec.toNat_and, ofInt_u64 a (by omega), ofInt_u64 b (by omega)]
  exact IntWalk.i64_in _ (by omega)
theorem j64_or (a b : Nat) (ha : a < 9223372036854775808) (hb : b < 9223372036854775808) : bits .or .i64 (a : Int) (b : Int) = ((a ||| b : Nat) : Int) := by
  have hx : a ||| b < 2 ^ 63 := Nat.or_lt_two_pow (by omega) (by omega)
  show IntKind.i64.wrap ((BitVec.ofInt 64 (a : Int) ||| BitVec.ofInt 64 (b : Int)).toNat : Int) = _
  rw [BitVec.toNat_or, ofInt_u64 a (by omega), ofInt_u64 b (by omega)]
  exact IntWalk.i64_in _ (by omega)
theorem jxor (x y : UInt32) : bits .xor .i64 (v32 x) (v32 y) = v32 (x ^^^ y) := by
  unfold v32; rw [j64_xor _ _ (by have := w32_lt x; omega) (by have := w32_lt y; omega), UInt32.toNat_xor]
theorem jand (x y : UInt32) : bits .and .i64 (v32 x) (v32 y) = v32 (x &&& y) := by
  unfold v32; rw [j64_and _ _ (by have := w32_lt x; omega) (by have := w32_lt y; omega), UInt32.toNat_and]
theorem jor (x y : UInt32) : bits .or .i64 (v32 x) (v32 y) = v32 (x ||| y) := by
  unfold v32; rw [j64_or _ _ (by have := w32_lt x; omega) (by have := w32_lt y; omega), UInt32.toNat_or]
theorem jword (n : Nat) (h : n < 9223372036854775808) : bits .and .i64 (n : Int) 4294967295 = ((n % 4294967296 : Nat) : Int) := by
  have e := j64_and n 4294967295 h (by decide)
  have e2 : n &&& 4294967295 = n % 4294967296 := Nat.and_two_pow_sub_one_eq_mod n 32
  rw [e2] at e
  exact e
theorem word_any (n : Nat) (h : n < 9223372036854775808) (w : World) :
    Calls Tryd.prog 45 #[.int .i64 n] w fun e w' => e = .returned (.int .i64 ((n % 4294967296 : Nat) : Int)) ∧ w = w' := by
  have r1 := jword n h
  go_enter Tryd.func45, Tryd.ntmps45
  go_wp2
  go_ret
  exact ⟨by rfl, rfl⟩
theorem turn_any (x : UInt32) (n : Nat) (h0 : 0 < n) (h1 : n < 32) (w : World) :
    Calls Tryd.prog 44 #[.int .i64 (v32 x), .int .i64 n] w fun e w' => e = .returned (.int .i64 (v32 (rotr x n))) ∧ ∃ m, w' = w.drewN m := by
  have hx := w32_lt x
  have h2 : x.toNat * 2 ^ (32 - n) < 9223372036854775808 := by
    have h3 : 2 ^ (32 - n) ≤ 2 ^ 31 := Nat.pow_le_pow_right (by decide) (by omega)
    have h4 : x.toNat * 2 ^ (32 - n) ≤ 4294967295 * 2 ^ 31 := Nat.mul_le_mul (by omega) h3
    omega
  obtain ⟨z, hz⟩ : ∃ z : Int, z = ((x.toNat * 2 ^ (32 - n) : Nat) : Int) := ⟨_, rfl⟩
  obtain ⟨y, hy⟩ : ∃ y : Int, y = ((x.toNat * 2 ^ (32 - n) % 4294967296 : Nat) : Int) := ⟨_, rfl⟩
  have HW : Hid (∀ w, Calls Tryd.prog 45 #[.int .i64 z] w fun e w' => e = .returned (.int .i64 y) ∧ w = w') := fun w => by
    rw [hz, hy]; exact word_any (x.toNat * 2 ^ (32 - n)) h2 w
  have r0 : IntKind.i64.wrap (32 - (n : Int)) = ((32 - n : Nat) : Int) := by rw [IntWalk.i64_in _ (by omega)]; omega
  have r1 : bits .or .i64 (v32 x / 2 ^ n) y = v32 (rotr x n) := by
    have e : v32 x / 2 ^ n = ((x.toNat / 2 ^ n : Nat) : Int) := by unfold v32; simp
    rw [e, hy, j64_or _ _ (Nat.lt_of_le_of_lt (Nat.div_le_self _ _) (by omega)) (by omega)]
    unfold v32; rw [rotr_toNat, Nat.or_comm]
  have r2 : IntKind.i64.wrap (v32 x * 2 ^ (32 - n)) = z := by
    have e : v32 x * 2 ^ (32 - n) = ((x.toNat * 2 ^ (32 - n) : Nat) : Int) := by unfold v32; simp
    rw [e, hz]; exact IntWalk.i64_in _ (by omega)
  clear hz hy h2 hx
  go_enter Tryd.func44, Tryd.ntmps44
  go_wp2_with fail
  go_quiet ((go_at_call 45; exact quiet_left (HW.out _)))
  go_wp2
  go_ret
  exact ⟨rfl, _, rfl⟩
theorem jbyte (x : UInt32) (b : UInt8) : bits .xor .i64 (v32 x) (wrap64 (b.toNat : Int)) = v32 (x ^^^ b.toUInt32) := by
  have hw : wrap64 (b.toNat : Int) = (b.toNat : Int) := IntWalk.wrap64_in _ (by have := w8_lt b; omega)
  rw [hw]
  have e : v32 b.toUInt32 = (b.toNat : Int) := by unfold v32; simp
  rw [← e, jxor]
theorem v32mod2 (x : UInt32) : v32 x % 2 = ((x.toNat % 2 : Nat) : Int) := by unfold v32; simp
theorem jpoly (x : UInt32) : bits .xor .i64 (v32 x) 3988292384 = v32 (x ^^^ 0xedb88320) := jxor _ 0xedb88320
theorem jones (x : UInt32) : bits .xor .i64 (v32 x) 4294967295 = v32 (~~~ x) := by
  have h := jxor x 0xffffffff
  have e : x ^^^ 0xffffffff = ~~~ x := by
    have h0 : (0xffffffff : UInt32) = ~~~ 0 := by decide
    rw [h0, UInt32.xor_not, UInt32.xor_zero]
  rw [e] at h; exact h
set_option maxHeartbeats 400000 in
theorem rcrc_any (s : ByteArray) (w : World) (hs : s.size ≤ 140737488351232) :
    Calls Tryd.prog 24 #[.string s] w fun e w' => e = .returned (.int .i64 (crcN s.data.toList)) ∧ w = w' := by
  go_enter Tryd.func24, Tryd.ntmps24
  go_wp2
  go_loop [3, 4, 5] (fun x i _ => ∃ k : Nat, k ≤ s.size ∧ i = .int .i64 k ∧ x = .int .i64 (v32 (crcX (s.data.toList.take k)))) (fun _ i _ => s.size - (intOf i).toNat)
  case atStart => exact ⟨0, Nat.zero_le _, rfl, rfl⟩
  case round =>
    obtain ⟨k, hk, rfl, rfl⟩ := hrel
    by_cases hlt : k < s.size
    · have ht := take_snoc s k hlt
      have HS : Hid (crcX (s.data.toList.take (k + 1)) = crcByte (crcX (s.data.toList.take k)) s[k]) := by
        show _ = _; rw [ht]; simp [crcX, List.foldl_append]
      clear ht
      obtain ⟨X, hX⟩ : ∃ X, X = crcX (s.data.toList.take k) := ⟨_, rfl⟩
      rw [← hX] at HS ⊢
      clear hX
      have r1 := fun b => jbyte X b
      go_wp2
      go_loop [3, 5] (fun x i => ∃ j : Nat, j ≤ 8 ∧ i = .int .i64 j ∧ x = .int .i64 (v32 (crcBits j (X ^^^ s[k].toUInt32)))) (fun _ i => 8 - (intOf i).toNat)
      case atStart => exact ⟨0, by omega, rfl, rfl⟩
      case round =>
        obtain ⟨j, hj, rfl, rfl⟩ := hrel
        by_cases hlt' : j < 8
        · have HB : Hid (crcBits (j + 1) (X ^^^ s[k].toUInt32) = crcBit (crcBits j (X ^^^ s[k].toUInt32))) := rfl
          obtain ⟨Y, hY⟩ : ∃ Y, Y = crcBits j (X ^^^ s[k].toUInt32) := ⟨_, rfl⟩
          rw [← hY] at HB ⊢
          clear hY r1
          obtain ⟨y, hy⟩ : ∃ y, y = v32 Y := ⟨_, rfl⟩
          obtain ⟨q, hq⟩ : ∃ q, q = v32 (shr Y 1) := ⟨_, rfl⟩
          have b1 : 0 ≤ y := hy ▸ v32_0 Y
          have b2 : y < 4294967296 := hy ▸ v32_lt Y
          have r4 : y / 2 = q := by rw [hy, hq]; exact shr32 Y 1
          by_cases hodd : Y.toNat % 2 = 1
          · have e1 : crcBit Y = shr Y 1 ^^^ 0xedb88320 := by unfold crcBit; rw [if_pos hodd]
            have HE := Lib.hid e1
            obtain ⟨z, hz⟩ : ∃ z, z = v32 (shr Y 1 ^^^ 0xedb88320) := ⟨_, rfl⟩
            have r3 : bits .xor .i64 q 3988292384 = z := by rw [hq, hz]; exact jpoly (shr Y 1)
            have r5 : y % 2 = 1 := by rw [hy, v32mod2, hodd]; rfl
            have HZ := Lib.hid hz
            rw [← hy]
            clear e1 hodd hy hq hz
            go_wp2
            go_round
            case rel => exact ⟨j + 1, by omega, by go_num, by rw [HB.out, HE.out, ← HZ.out]⟩
            case measure => simp [intOf]; omega
          · have e1 : crcBit Y = shr Y 1 := by unfold crcBit; rw [if_neg hodd]
            have HE := Lib.hid e1
            have r5 : y % 2 = 0 := by
              have : Y.toNat % 2 = 0 := by omega
              rw [hy, v32mod2, this]; rfl
            have HQ := Lib.hid hq
            rw [← hy]
            clear e1 hodd hy hq
            go_wp2
            go_round
            case rel => exact ⟨j + 1, by omega, by go_num, by rw [HB.out, HE.out, ← HQ.out, ← r4]⟩
            case measure => simp [intOf]; omega
        · obtain rfl : j = 8 := by omega
          go_wp2
          go_round
          case rel => exact ⟨k + 1, by omega, by go_num, by rw [HS.out]; rfl⟩
          case measure => simp [intOf]; omega
    · obtain rfl : k = s.size := by omega
      have HF : Hid ((crcN s.data.toList : Int) = v32 (~~~ crcX (s.data.toList.take s.size))) := by
        show _ = _; rw [take_all]; rfl
      obtain ⟨X, hX⟩ : ∃ X, X = crcX (s.data.toList.take s.size) := ⟨_, rfl⟩
      rw [← hX] at HF ⊢
      clear hX
      have r6 := jones X
      clear hlt hk
      go_wp2
      go_ret
      exact ⟨by rw [HF.out]; rfl, rfl⟩
end Go.Proofs.YtmloabphhebioaaDoor
