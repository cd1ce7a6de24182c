/- missiveref03.Base32: the walk. -/
import Derived.Test.YtmloabphhebioaaDoorRefB32
import Derived.Test.YtmloabphhebioaaDoorDigB32
namespace Go.Proofs.YtmloabphhebioaaDoor
open Go.RowKit Dg
theorem letter_lo (x : Nat) (h : x < 26) : (letter x).toNat = 97 + x := by
  have : ∀ x : Fin 26, (letter x.val).toNat = 97 + x.val := by decide +kernel
  exact this ⟨x, h⟩
theorem letter_hi (x : Nat) (h : 26 ≤ x) (h2 : x < 32) : (letter x).toNat = 50 + x - 26 := by
  have : ∀ x : Fin 32, 26 ≤ x.val → (letter x.val).toNat = 50 + x.val - 26 := by decide +kernel
  exact this ⟨x, h2⟩ h
/-- the first characters -/
def b32T (E M j : Nat) : List UInt8 := (digs 32 j (M / 2 ^ (5 * (E - j)))).map letter
theorem b32T_next (E M j : Nat) (h : j < E) : b32T E M (j + 1) = b32T E M j ++ [letter (M / 2 ^ (5 * (E - (j + 1))) % 32)] := by
  unfold b32T
  rw [digs_succ, List.map_append, Nat.div_div_eq_div_mul, show (32 : Nat) = 2 ^ 5 by decide, ← Nat.pow_add, show 5 * (E - (j + 1)) + 5 = 5 * (E - j) by omega]
  rfl
set_option maxHeartbeats 1000000 in
theorem rb32_any (s : ByteArray) (w : World) (hs : s.size ≤ 1000000) :
    Calls Tryd.prog 26 #[.string s] w fun e w' => e = .returned (.string (bs (b32L s.data.toList))) ∧ Below w.heap.size w w' := by
  obtain ⟨E, hE⟩ : ∃ E, E = (8 * s.size + 4) / 5 := ⟨_, rfl⟩
  obtain ⟨P, hP⟩ : ∃ P, P = 5 * E - 8 * s.size := ⟨_, rfl⟩
  obtain ⟨M, hM⟩ : ∃ M, M = num8 s.data.toList * 2 ^ P := ⟨_, rfl⟩
  have hEP : 5 * E = 8 * s.size + P := by omega
  have HBit : Hid (∀ t, t < 5 * E → bitN s t = M / 2 ^ (5 * E - 1 - t) % 2) := Lib.hid (fun t ht => by rw [hM]; exact bitN_pad s P (5 * E) t hEP ht)
  have HFin : Hid (b32L s.data.toList = b32T E M E) := Lib.hid (by
    unfold b32L b32T
    rw [show s.data.toList.length = s.size from rfl, ← hE, ← hP, ← hM]
    simp)
  have hP5 : P < 5 := by omega
  clear hM hP hE
  go_enter Tryd.func26, Tryd.ntmps26
  go_wp2
  go_loopw [3, 4, 5, 6] (fun v i _ _ wr => ∃ j : Nat, j ≤ E ∧ i = .int .i64 (5 * j : Nat) ∧ OB wr w.heap.size v j (b32T E M j) ∧ Below w.heap.size w wr) (fun _ i _ _ _ => 5 * E - (intOf i).toNat)
  case atStart => exact ⟨0, Nat.zero_le _, rfl, Own.nil _ _ _ _, Below.refl _ _⟩
  case round =>
    obtain ⟨wo, hwo⟩ : ∃ y, y = wr := ⟨_, rfl⟩
    subst hwo
    obtain ⟨j, hj, rfl, ho, hb⟩ := hrel
    have HO := Lib.hid ho
    have HB := Lib.hid hb
    clear ho hb
    by_cases hlt : j < E
    · obtain ⟨t, ht⟩ : ∃ t, 5 * j = t := ⟨_, rfl⟩
      have x1 : (t : Int) < 8 * (s.size : Int) := by omega
      have x0 : t ≤ 8000000 := by omega
      rw [ht]
      have HTJ := Lib.hid ht
      clear ht
      go_wp2_with fail
      go_loopw [5, 6] (fun x i wx => ∃ k : Nat, k ≤ 5 ∧ i = .int .i64 k ∧ x = .int .i64 (M / 2 ^ (5 * (E - j) - k) % 2 ^ k : Nat) ∧ Below wo.heap.size wo wx) (fun _ i _ => 5 - (intOf i).toNat)
      case atStart => exact ⟨0, Nat.zero_le _, rfl, by simp [Nat.mod_one], Below.refl _ _⟩
      case round =>
        obtain ⟨wx, hwx⟩ : ∃ y, y = wr := ⟨_, rfl⟩
        subst hwx
        obtain ⟨k, hk, rfl, rfl, hbx⟩ := hrel
        have HBX := Lib.hid hbx
        clear hbx
        by_cases hk5 : k < 5
        · have hbt := HBit.out (t + k) (by have := HTJ.out; omega)
          have hnx := bits_next M (5 * (E - j) - (k + 1)) k
          rw [show 5 * (E - j) - (k + 1) + 1 = 5 * (E - j) - k by omega] at hnx
          rw [show 5 * E - 1 - (t + k) = 5 * (E - j) - (k + 1) by have := HTJ.out; omega] at hbt
          have hpow : 2 ^ k ≤ 2 ^ 5 := Nat.pow_le_pow_right (by decide) (by omega)
          have hm0 : M / 2 ^ (5 * (E - j) - k) % 2 ^ k < 32 := Nat.lt_of_lt_of_le (Nat.mod_lt _ (Nat.pow_pos (by decide))) hpow
          have hbc := fun W => rbit_any s (t + k) W hs (by omega)
          rw [show ((t + k : Nat) : Int) = (t : Int) + (k : Int) by omega] at hbc
          rw [hbt] at hbc
          obtain ⟨xo, hxo⟩ : ∃ y, M / 2 ^ (5 * (E - j) - k) % 2 ^ k = y := ⟨_, rfl⟩
          obtain ⟨bt, hbt2⟩ : ∃ y, M / 2 ^ (5 * (E - j) - (k + 1)) % 2 = y := ⟨_, rfl⟩
          obtain ⟨xn, hxn⟩ : ∃ y, M / 2 ^ (5 * (E - j) - (k + 1)) % 2 ^ (k + 1) = y := ⟨_, rfl⟩
          have hb1 : bt < 2 := by rw [← hbt2]; exact Nat.mod_lt _ (by decide)
          rw [hxo] at hm0 hnx ⊢
          rw [hbt2] at hnx hbc
          rw [hxn] at hnx
          have HXN := Lib.hid hxn; have HNX := Lib.hid hnx
          have HBC := Lib.hid hbc
          clear hbt hpow hxo hbt2 hxn hnx hbc
          go_wp2_with fail
          refine (HBC.out _).mono ?_
          rintro e w' ⟨rfl, rfl⟩
          go_wp2_with fail
          go_roundw
          case rel => exact ⟨k + 1, by omega, by go_num, by rw [HXN.out, ← HNX.out]; go_num, HBX.out⟩
          case measure => simp [intOf]; omega
        · obtain rfl : k = 5 := by omega
          have hT := b32T_next E M j hlt
          rw [show 5 * (E - (j + 1)) = 5 * (E - j) - 5 by omega] at hT
          rw [show (2 : Nat) ^ 5 = 32 by decide]
          have hX : M / 2 ^ (5 * (E - j) - 5) % 32 < 32 := Nat.mod_lt _ (by decide)
          obtain ⟨X, hXe⟩ : ∃ y, M / 2 ^ (5 * (E - j) - 5) % 32 = y := ⟨_, rfl⟩
          rw [hXe] at hT hX ⊢
          have HT := Lib.hid hT
          have HOx : Hid (OB wx w.heap.size u3 j (b32T E M j)) := Lib.hid (HO.out.below HBX.out (Nat.le_refl _))
          have HBx : Hid (Below w.heap.size w wx) := Lib.hid (HB.out.trans (HBX.out.mono HB.out.size))
          clear hT hXe
          by_cases h26 : X < 26
          · obtain ⟨z, hz⟩ : ∃ z : Int, 97 + (X : Int) = z := ⟨_, rfl⟩
            have HZ : Hid (z = ((letter X).toNat : Int)) := Lib.hid (by rw [letter_lo X h26, ← hz]; omega)
            have hz0 : 0 ≤ z := by omega
            have hz1 : z < 256 := by omega
            go_wp2_with (at_builtin; refine wpList_append_b1 rfl _ _ rfl w.heap.size _ j _ rfl (HOx.out.alloc _) wx.heap.size z _ HZ rfl (heap_alloc_new wx _) (by omega) (by have := HBx.out.size; simp; omega) ?_; intro v7 wn hoN hbN; have HON := Lib.hid hoN; have HBN := Lib.hid (((HBx.out.alloc HBx.out.size (.cells #[.int .u8 z] 5)).trans hbN)); clear hoN hbN)
            go_roundw
            case rel => exact ⟨j + 1, by omega, by have := HTJ.out; congr 1; omega, by rw [HT.out]; exact HON.out, HBN.out⟩
            case measure => have := HTJ.out; simp [intOf]; omega
          · obtain ⟨z, hz⟩ : ∃ z : Int, 50 + (X : Int) - 26 = z := ⟨_, rfl⟩
            have HZ : Hid (z = ((letter X).toNat : Int)) := Lib.hid (by rw [letter_hi X (by omega) hX, ← hz]; omega)
            have hz0 : 0 ≤ z := by omega
            have hz1 : z < 256 := by omega
            go_wp2_with (at_builtin; refine wpList_append_b1 rfl _ _ rfl w.heap.size _ j _ rfl (HOx.out.alloc _) wx.heap.size z _ HZ rfl (heap_alloc_new wx _) (by omega) (by have := HBx.out.size; simp; omega) ?_; intro v7 wn hoN hbN; have HON := Lib.hid hoN; have HBN := Lib.hid (((HBx.out.alloc HBx.out.size (.cells #[.int .u8 z] 5)).trans hbN)); clear hoN hbN)
            go_roundw
            case rel => exact ⟨j + 1, by omega, by have := HTJ.out; congr 1; omega, by rw [HT.out]; exact HON.out, HBN.out⟩
            case measure => have := HTJ.out; simp [intOf]; omega
    · obtain rfl : j = E := by omega
      have x1 : 8 * (s.size : Int) ≤ 5 * (j : Int) := by omega
      have ho := HO.out
      rw [← HFin.out] at ho
      have hcv := Own.run_str ho 30 9 Tryd.underlying30 Tryd.underlying5 Tryd.underlying9
      clear ho
      go_wp2
      go_ret
      exact ⟨rfl, HB.out⟩
end Go.Proofs.YtmloabphhebioaaDoor
