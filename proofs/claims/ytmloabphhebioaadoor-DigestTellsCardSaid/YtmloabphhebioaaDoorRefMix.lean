/- missiveref03.mixed: the walk. -/
import Derived.Test.YtmloabphhebioaaDoorRefUnhex
import Derived.Test.YtmloabphhebioaaDoorRefBits
namespace Go.Proofs.YtmloabphhebioaaDoor
open Go.RowKit Dg
theorem maskL_at (key : List UInt8) (m : UInt8) (k : Nat) (h : k < 64) : (maskL key m).take (k + 1) = (maskL key m).take k ++ [key.getD k 0 ^^^ m] := by
  rw [List.take_succ_eq_append_getElem (by rw [maskL_len]; exact h)]
  congr 1
  congr 1
  have e : (maskL key m)[k]? = some (key.getD k 0 ^^^ m) := by
    unfold maskL
    rw [List.getElem?_map, List.getElem?_range h]; rfl
  exact Option.some.inj ((List.getElem?_eq_getElem _).symm.trans e)
theorem xor64_8 (x m : UInt8) : bits .xor .i64 (x.toNat : Int) (m.toNat : Int) = ((x ^^^ m).toNat : Int) := by
  rw [j64_xor _ _ (by have := w8_lt x; omega) (by have := w8_lt m; omega), UInt8.toNat_xor]
set_option maxHeartbeats 1000000 in
theorem rmixed_any (s : ByteArray) (m : UInt8) (w : World) :
    Calls Tryd.prog 39 #[.string s, .int .i64 m.toNat] w fun e w' => e = .returned (.string (bs (maskL s.data.toList m))) ∧ Below w.heap.size w w' := by
  go_enter Tryd.func39, Tryd.ntmps39
  go_wp2
  go_loopw [5, 6, 7] (fun v i _ wr => ∃ k : Nat, k ≤ 64 ∧ i = .int .i64 k ∧ OB wr w.heap.size v k ((maskL s.data.toList m).take k) ∧ Below w.heap.size w wr) (fun _ i _ _ => 64 - (intOf i).toNat)
  case atStart => exact ⟨0, Nat.zero_le _, rfl, Own.nil _ _ _ _, Below.refl _ _⟩
  case round =>
    obtain ⟨k, hk, rfl, ho, hb⟩ := hrel
    have HO := Lib.hid ho
    have HB := Lib.hid hb
    clear ho hb
    by_cases hlt : k < 64
    · have HT := Lib.hid (maskL_at s.data.toList m k hlt)
      by_cases hks : k < s.size
      · have hb1 := w8_lt s[k]
        have x1 : (0 : Int) ≤ (k : Int) := by omega
        have x2 : (k : Int) < (s.size : Int) := by omega
        obtain ⟨c, hc⟩ : ∃ c, c = s[k] := ⟨_, rfl⟩
        have hgd : s.data.toList.getD k 0 = c := by rw [hc, List.getD_eq_getElem?_getD, List.getElem?_eq_getElem (by simpa using hks)]; rfl
        have hx := xor64_8 s[k] m
        obtain ⟨z, hz⟩ : ∃ z : Int, z = ((s[k] ^^^ m).toNat : Int) := ⟨_, rfl⟩
        have HZ : Hid (z = ((s.data.toList.getD k 0 ^^^ m).toNat : Int)) := Lib.hid (by rw [hz, hgd, hc])
        have hz1 : z < 256 := by rw [hz]; have := w8_lt (s[k] ^^^ m); omega
        have hz0 : 0 ≤ z := by omega
        rw [← hz] at hx
        clear hz hgd hc
        go_wp2_with (at_builtin; refine wpList_append_b1 rfl _ _ rfl w.heap.size _ k _ rfl (HO.out.alloc _) wr.heap.size z _ HZ rfl (heap_alloc_new wr _) (by omega) (by have := HB.out.size; simp; omega) ?_; intro v7 wn hoN hbN; have HON := Lib.hid hoN; have HBN := Lib.hid (((HB.out.alloc HB.out.size (.cells #[.int .u8 z] 5)).trans hbN)); clear hoN hbN)
        go_roundw
        case rel => exact ⟨k + 1, by omega, by go_num, by rw [HT.out]; exact HON.out, HBN.out⟩
        case measure => simp [intOf]; omega
      · have hgd : s.data.toList.getD k 0 = 0 := by rw [List.getD_eq_getElem?_getD, List.getElem?_eq_none (by simp; omega)]; rfl
        have hx := xor64_8 0 m
        obtain ⟨z, hz⟩ : ∃ z : Int, z = ((0 ^^^ m : UInt8).toNat : Int) := ⟨_, rfl⟩
        have HZ : Hid (z = ((s.data.toList.getD k 0 ^^^ m).toNat : Int)) := Lib.hid (by rw [hz, hgd])
        have hz1 : z < 256 := by rw [hz]; have := w8_lt (0 ^^^ m); omega
        have hz0 : 0 ≤ z := by omega
        rw [← hz] at hx
        have hx2 : bits .xor .i64 0 (m.toNat : Int) = z := hx
        clear hz hgd hx
        go_wp2_with (at_builtin; refine wpList_append_b1 rfl _ _ rfl w.heap.size _ k _ rfl (HO.out.alloc _) wr.heap.size z _ HZ rfl (heap_alloc_new wr _) (by omega) (by have := HB.out.size; simp; omega) ?_; intro v7 wn hoN hbN; have HON := Lib.hid hoN; have HBN := Lib.hid (((HB.out.alloc HB.out.size (.cells #[.int .u8 z] 5)).trans hbN)); clear hoN hbN)
        go_roundw
        case rel => exact ⟨k + 1, by omega, by go_num, by rw [HT.out]; exact HON.out, HBN.out⟩
        case measure => simp [intOf]; omega
    · obtain rfl : k = 64 := by omega
      have ho := HO.out
      rw [List.take_of_length_le (by rw [maskL_len]; exact Nat.le_refl _)] at ho
      have hcv := Own.run_str ho 30 9 Tryd.underlying30 Tryd.underlying5 Tryd.underlying9
      clear ho
      go_wp2
      go_ret
      exact ⟨rfl, HB.out⟩
end Go.Proofs.YtmloabphhebioaaDoor
