/- missiveref03.Short, Mac: the walks, from a contract of Sum. -/
import Derived.Test.YtmloabphhebioaaDoorRefMix
namespace Go.Proofs.YtmloabphhebioaaDoor
open Go.RowKit Dg
/-- the contract of the reference's Sum -/
def RSum : Prop := ∀ (s : ByteArray) (w : World), s.size ≤ 1000000 → Calls Tryd.prog 21 #[.string s] w fun e w' => e = .returned (.string (bs (sumL s.data.toList))) ∧ Below w.heap.size w w'
set_option maxHeartbeats 1000000 in
theorem rshort_any (H : RSum) (s : ByteArray) (w : World) (hs : s.size ≤ 1000000) :
    Calls Tryd.prog 23 #[.string s] w fun e w' => e = .returned (.int .i64 (shortN s.data.toList : Nat)) ∧ Below w.heap.size w w' := by
  have hS := H s w hs
  have hsh := shortN_eq s.data.toList
  have hlen := sumL_len s.data.toList
  obtain ⟨D, hD⟩ : ∃ D, bs (sumL s.data.toList) = D := ⟨_, rfl⟩
  have hDl : D.data.toList = sumL s.data.toList := by rw [← hD]; rfl
  rw [← hDl] at hsh hlen
  rw [hD] at hS
  have hsz : D.size = 32 := hlen
  obtain ⟨V, hV⟩ : ∃ V, shortN s.data.toList = V := ⟨_, rfl⟩
  rw [hV] at hsh ⊢
  have HSH := Lib.hid hsh
  clear hD hDl hlen hsh H hV
  go_enter Tryd.func23, Tryd.ntmps23
  go_wp2_with fail
  refine hS.mono ?_
  rintro e w1 ⟨rfl, b⟩
  have HB := Lib.hid b
  clear b hS
  go_wp2_with fail
  go_loop [4, 5] (fun n i => ∃ k : Nat, k ≤ 7 ∧ i = .int .i64 k ∧ n = .int .i64 (num8 (D.data.toList.take k) : Nat)) (fun _ i => 7 - (intOf i).toNat)
  case atStart => exact ⟨0, Nat.zero_le _, rfl, rfl⟩
  case round =>
    obtain ⟨k, hk, rfl, rfl⟩ := hrel
    have hnl := num8_lt (D.data.toList.take k)
    have hkl : (D.data.toList.take k).length = k := by rw [List.length_take]; have : D.data.toList.length = 32 := hsz; omega
    rw [hkl] at hnl
    have hnl2 : num8 (D.data.toList.take k) < 72057594037927936 := Nat.lt_of_lt_of_le hnl (show 256 ^ k ≤ 256 ^ 7 from Nat.pow_le_pow_right (by decide) hk)
    have hnl3 : k < 7 → num8 (D.data.toList.take k) < 281474976710656 := fun h => Nat.lt_of_lt_of_le hnl (show 256 ^ k ≤ 256 ^ 6 from Nat.pow_le_pow_right (by decide) (by omega))
    clear hnl hkl
    by_cases hlt : k < 7
    · have hkd : k < D.size := by omega
      have hnl4 := hnl3 hlt
      clear hnl2 hnl3
      have hnl2 := hnl4
      clear hnl4
      have x1 : (0 : Int) ≤ (k : Int) := by omega
      have x2 : (k : Int) < (D.size : Int) := by omega
      have hnx := num8_take D.data.toList k (by show k < D.size; omega)
      have hcl := w8_lt D[k]
      have hkk : D.data.toList[k]'(by show k < D.size; omega) = D[k] := rfl
      rw [hkk] at hnx
      obtain ⟨n0, hn0⟩ : ∃ y, num8 (D.data.toList.take k) = y := ⟨_, rfl⟩
      rw [hn0] at hnx hnl2 ⊢
      have HNX := Lib.hid hnx
      clear hnx hn0 hkk
      go_wp2_with fail
      go_round
      case rel => exact ⟨k + 1, by omega, by go_num, by rw [HNX.out]; congr 1⟩
      case measure => simp [intOf]; omega
    · obtain rfl : k = 7 := by omega
      clear hnl3
      have x2 : (7 : Int) < (D.size : Int) := by omega
      have hcl := w8_lt (D[7]'(by omega))
      have hnx := num8_take D.data.toList 7 (by show 7 < D.size; omega)
      have hkk : D.data.toList[7]'(by show 7 < D.size; omega) = D[7]'(by omega) := rfl
      rw [hkk] at hnx
      obtain ⟨n0, hn0⟩ : ∃ y, num8 (D.data.toList.take 7) = y := ⟨_, rfl⟩
      rw [hn0] at hnx hnl2 ⊢
      have hfin : V = n0 * 16 + (D[7]'(by omega)).toNat / 16 := by rw [HSH.out, hnx]; omega
      have HF := Lib.hid hfin
      clear hnx hn0 hkk hfin
      go_wp2
      go_ret
      exact ⟨by rw [HF.out]; first | rfl | (congr 2), HB.out⟩
end Go.Proofs.YtmloabphhebioaaDoor
