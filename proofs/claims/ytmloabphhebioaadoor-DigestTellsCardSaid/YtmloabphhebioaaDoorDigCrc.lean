/- digest.Crc and math/bits.RotateLeft32: what each returns. -/
import Derived.Test.YtmloabphhebioaaDoorDigWords
import Derived.Test.YtmloabphhebioaaDoorProg
import Derived.WalkSpells
import Derived.WalkLawsBesides
import Derived.Lib.Hide
namespace Go.Proofs.YtmloabphhebioaaDoor
open Go.RowKit Dg
theorem rot_any (x : UInt32) (k : Int) (n : Nat) (h0 : 0 < n) (h1 : n < 32) (hk : k = -(n : Int)) (w : World) :
    Calls Tryd.prog 43 #[.int .u32 (v32 x), .int .i64 k] w fun e w' => e = .returned (.int .u32 (v32 (rotr x n))) ∧ w = w' := by
  subst hk
  have e1 := wrap_neg_and n h0 h1
  have e2 : IntKind.u64.wrap (32 - ((32 - n : Nat) : Int)) = (n : Int) := by rw [IntKind.wrap_u64]; omega
  have e3 := rotr_bits x n
  go_enter Tryd.func43, Tryd.ntmps43
  go_wp2
  go_ret
  exact ⟨rfl, rfl⟩

theorem rot_lit (x : UInt32) (k : Int) (h : 0 < (-k).toNat ∧ (-k).toNat < 32 ∧ k ≤ 0) (w : World) :
    Calls Tryd.prog 43 #[.int .u32 (v32 x), .int .i64 k] w fun e w' => e = .returned (.int .u32 (v32 (rotr x (-k).toNat))) ∧ w = w' :=
  rot_any x k _ h.1 h.2.1 (by omega) w

set_option maxHeartbeats 400000 in
theorem crc_any (s : ByteArray) (w : World) (hs : s.size ≤ 140737488351232) :
    Calls Tryd.prog 16 #[.string s] w fun e w' => e = .returned (.int .i64 (crcN s.data.toList)) ∧ w = w' := by
  go_enter Tryd.func16, Tryd.ntmps16
  go_wp2
  go_loop [3, 8] (fun x i => ∃ k : Nat, k ≤ s.size ∧ i = .int .i64 k ∧ x = .int .u32 (v32 (crcX (s.data.toList.take k)))) (fun _ i => s.size - (intOf i).toNat)
  case atStart => exact ⟨0, Nat.zero_le _, rfl, rfl⟩
  case round =>
    obtain ⟨k, hk, rfl, rfl⟩ := hrel
    by_cases hlt : k < s.size
    · have ht := take_snoc s k hlt
      have HS : Hid (crcX (s.data.toList.take (k + 1)) = crcByte (crcX (s.data.toList.take k)) s[k]) := by
        show _ = _; rw [ht]; simp [crcX, List.foldl_append]
      clear ht
      obtain ⟨X, hX⟩ : ∃ X, X = crcX (s.data.toList.take k) := ⟨_, rfl⟩
      rw [← hX] at HS ⊢
      clear hX
      have r1 := fun b => crcXor X b
      go_wp2
      go_loop [3, 17] (fun x i => ∃ j : Nat, j ≤ 8 ∧ i = .int .i64 j ∧ x = .int .u32 (v32 (crcBits j (X ^^^ s[k].toUInt32)))) (fun _ i => 8 - (intOf i).toNat)
      case atStart => exact ⟨0, by omega, rfl, rfl⟩
      case round =>
        obtain ⟨j, hj, rfl, rfl⟩ := hrel
        by_cases hlt' : j < 8
        · have HB : Hid (crcBits (j + 1) (X ^^^ s[k].toUInt32) = crcBit (crcBits j (X ^^^ s[k].toUInt32))) := rfl
          obtain ⟨Y, hY⟩ : ∃ Y, Y = crcBits j (X ^^^ s[k].toUInt32) := ⟨_, rfl⟩
          rw [← hY] at HB ⊢
          clear hY r1
          have r2 := crcTest Y
          have r4 : v32 Y / 2 = v32 (shr Y 1) := shr32 Y 1
          have r3 := crcPoly (shr Y 1)
          by_cases hodd : Y.toNat % 2 = 1
          · have e1 : crcBit Y = shr Y 1 ^^^ 0xedb88320 := by unfold crcBit; rw [if_pos hodd]
            have HE := Lib.hid e1
            clear e1
            have r5 : (((Y.toNat % 2 : Nat) : Int) == 1) = true := by rw [hodd]; rfl
            clear hodd
            go_wp2
            go_round
            case rel => exact ⟨j + 1, by omega, by go_num, by rw [HB.out, HE.out]⟩
            case measure => simp [intOf]; omega
          · have e1 : crcBit Y = shr Y 1 := by unfold crcBit; rw [if_neg hodd]
            have HE := Lib.hid e1
            clear e1
            have r5 : (((Y.toNat % 2 : Nat) : Int) == 1) = false := by
              have : Y.toNat % 2 = 0 := by omega
              rw [this]; rfl
            clear hodd
            go_wp2
            go_round
            case rel => exact ⟨j + 1, by omega, by go_num, by rw [HB.out, HE.out]⟩
            case measure => simp [intOf]; omega
        · obtain rfl : j = 8 := by omega
          go_wp2
          go_round
          case rel => exact ⟨k + 1, by omega, by go_num, by rw [HS.out]; rfl⟩
          case measure => simp [intOf]; omega
    · obtain rfl : k = s.size := by omega
      have HF : Hid ((crcN s.data.toList : Int) = v32 (~~~ crcX (s.data.toList.take s.size))) := by
        show _ = _; rw [take_all]; rfl
      obtain ⟨X, hX⟩ : ∃ X, X = crcX (s.data.toList.take s.size) := ⟨_, rfl⟩
      rw [← hX] at HF ⊢
      clear hX
      have r6 := not_bits X
      have r7 := wrap64_v32 (~~~X)
      clear hlt hk
      go_wp2
      go_ret
      exact ⟨by rw [HF.out]; rfl, rfl⟩
end Go.Proofs.YtmloabphhebioaaDoor
