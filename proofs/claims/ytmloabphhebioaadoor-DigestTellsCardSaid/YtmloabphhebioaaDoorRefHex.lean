/- missiveref03.digit, Hex, value, Unhex, mixed. -/
import Derived.Test.YtmloabphhebioaaDoorDigUnhex
import Derived.Test.YtmloabphhebioaaDoorDigMac
import Derived.Test.YtmloabphhebioaaDoorOwnStep
import Derived.WalkSmall
import Derived.IntWalk
import Derived.Sort.AtCall
namespace Go.Proofs.YtmloabphhebioaaDoor
open Go.RowKit Dg
theorem digit_any (n : Nat) (h : n < 16) (w : World) :
    Calls Tryd.prog 37 #[.int .i64 n] w fun e w' => e = .returned (.int .u8 (hexDigits.getD n 0).toNat) ∧ w = w' := by
  by_cases h10 : n < 10
  · have e : ((hexDigits.getD n 0).toNat : Int) = 48 + n := by
      have : ∀ n, n < 10 → ((hexDigits.getD n 0).toNat : Int) = 48 + n := by decide
      exact this n h10
    go_enter Tryd.func37, Tryd.ntmps37
    go_wp2
    go_ret
    exact ⟨by rw [e]; rfl, rfl⟩
  · have e : ((hexDigits.getD n 0).toNat : Int) = 97 + n - 10 := by
      have : ∀ n, n < 16 → ¬ n < 10 → ((hexDigits.getD n 0).toNat : Int) = 97 + n - 10 := by decide
      exact this n h h10
    go_enter Tryd.func37, Tryd.ntmps37
    go_wp2
    go_ret
    exact ⟨by rw [e]; rfl, rfl⟩
theorem below_own {B : Nat} {w w' : World} {v : Value} {n : Nat} {l : List UInt8} {w0 : World} (h : w.grownBy w' v.ownBlock) (ho : OB w0 B v n l) (hB : B ≤ w.heap.size) : Below B w w' :=
  ⟨h.os, h.tape, h.output, h.size, fun i hi => h.block i (by omega) (fun e => by have := (Own.block_ge ho i e.symm).1; omega)⟩
set_option maxHeartbeats 1000000 in
theorem rhex_any (s : ByteArray) (w : World) (hs : s.size ≤ 1000000) :
    Calls Tryd.prog 25 #[.string s] w fun e w' => e = .returned (.string (bs (hexL s.data.toList))) ∧ Below w.heap.size w w' := by
  go_enter Tryd.func25, Tryd.ntmps25
  go_wp2
  go_loopw [3, 4] (fun v i wr => ∃ k n : Nat, k ≤ s.size ∧ i = .int .i64 k ∧ n ≤ 2 * k ∧ 2 * k ≤ n ∧ OB wr w.heap.size v n (hexL (s.data.toList.take k)) ∧ Below w.heap.size w wr) (fun _ i _ => s.size - (intOf i).toNat)
  case atStart => exact ⟨0, 0, by omega, rfl, by omega, by omega, Own.nil _ _ _ _, Below.refl _ _⟩
  case round =>
    obtain ⟨k, n, hk, rfl, hn1, hn2, ho, hbe⟩ := hrel
    have HO := Lib.hid ho
    have HB := Lib.hid hbe
    clear ho hbe
    by_cases hlt : k < s.size
    · obtain ⟨i0, hi, hz0, hz1, hz2⟩ := info_parts byte_info
      obtain ⟨c, hc⟩ : ∃ c, c = s[k] := ⟨_, rfl⟩
      have hcl := w8_lt c
      obtain ⟨a, ha⟩ : ∃ a, a = hexDigits.getD (c.toNat / 16) 0 := ⟨_, rfl⟩
      obtain ⟨b, hb⟩ : ∃ a, a = hexDigits.getD (c.toNat % 16) 0 := ⟨_, rfl⟩
      obtain ⟨p, hp⟩ : ∃ p : Int, p = (s[k].toNat : Int) / 16 := ⟨_, rfl⟩
      obtain ⟨q, hq⟩ : ∃ p : Int, p = (s[k].toNat : Int) % 16 := ⟨_, rfl⟩
      have HA : Hid (∀ W, Calls Tryd.prog 37 #[.int .i64 p] W fun e w' => e = .returned (.int .u8 a.toNat) ∧ W = w') := fun W => by
        rw [ha, hc, hp]; exact digit_any (s[k].toNat / 16) (by rw [← hc]; omega) W
      have HC : Hid (∀ W, Calls Tryd.prog 37 #[.int .i64 q] W fun e w' => e = .returned (.int .u8 b.toNat) ∧ W = w') := fun W => by
        rw [hb, hc, hq]; exact digit_any (s[k].toNat % 16) (by omega) W
      obtain ⟨z, hz⟩ : ∃ z : Int, z = (s[k].toNat : Int) := ⟨_, rfl⟩
      have hzl := w8_lt s[k]
      have r1 : IntKind.i64.wrap (s[k].toNat : Int) = z := by rw [IntWalk.i64_in _ (by omega), hz]
      have r2 : IntKind.i64.wrap (z.tdiv 16) = p := by rw [Int.tdiv_eq_ediv_of_nonneg (by omega), IntWalk.i64_in _ (by omega), hz, hp]
      have r3 : z.tmod 16 = q := by rw [Int.tmod_eq_emod_of_nonneg (by omega), hz, hq]
      obtain ⟨a', ha'⟩ : ∃ x : Int, x = a.toNat := ⟨_, rfl⟩
      obtain ⟨b', hb'⟩ : ∃ x : Int, x = b.toNat := ⟨_, rfl⟩
      rw [← ha'] at HA
      rw [← hb'] at HC
      have HA' := Lib.hid ha'
      have HB' := Lib.hid hb'
      have HS : Hid (hexL (s.data.toList.take (k + 1)) = hexL (s.data.toList.take k) ++ [a] ++ [b]) := by
        show _ = _; rw [take_snoc s k hlt, hexL_snoc, ha, hb, hc]
      clear ha hb hc hcl hp hq ha' hb' hz hzl
      go_wp2_with fail
      have x1 : (0 : Int) ≤ (k : Int) := by omega
      have x2 : (k : Int) < (s.size : Int) := by omega
      go_region_held3 (fun _ => True) (first | go_keep | trivial)
        ((first
          | (go_at_call_has 37 (Value.int .i64 p); refine (HA.out _).mono ?_; rintro e w2 ⟨rfl, rfl⟩; have DONE1 := True.intro)
          | (go_at_call_has 37 (Value.int .i64 q); refine (HC.out _).mono ?_; rintro e w2 ⟨rfl, rfl⟩; have DONE2 := True.intro)
          | (have := DONE1; have := DONE2; refine step_append_x (by rfl) _ _ 30 (by rfl) w.heap.size 5 i0 (.int .u8 0) 1 1 Tryd.underlying30 hi hz0 hz1 hz2 rfl (by decide) u3 n (Lib.byteCells (hexL (s.data.toList.take k))) (by rfl) ((HO.out.alloc _).drew) ⟨wr.heap.size, 0, none⟩ 2 2 [.int .u8 a', .int .u8 b'] (by rfl) rfl (World.news_of_block (cs := #[.int .u8 a', .int .u8 b']) (heap_alloc_new _ _)) (by simp [Value.oneCell']) (by unfold maxLen; omega) (by omega) (by have := HB.out.size; simp; omega) ?_; intro v1 w4 hown1 hg1 _ hv1)))
      all_goals
        have HSn : Hid (OB w4 w.heap.size v1 (n + 2) (hexL (s.data.toList.take (k + 1)))) := Lib.hid (by
          have h := hown1
          have e : Lib.byteCells (hexL (s.data.toList.take k)) ++ [Value.int .u8 a', Value.int .u8 b'] = Lib.byteCells (hexL (s.data.toList.take (k + 1))) := by
            rw [HS.out, HA'.out, HB'.out]; simp [Lib.byteCells]
          rw [e] at h
          exact h)
        have HBn : Hid (Below w.heap.size w w4) := Lib.hid (((HB.out.alloc HB.out.size (.cells #[.int .u8 a', .int .u8 b'] 5)).drew).trans (below_own hg1 HO.out (by have := HB.out.size; simp; omega)))
        clear hown1 hg1 hv1
        go_wp2_with fail
        go_roundw
        case rel => exact ⟨k + 1, n + 2, by omega, by go_num, by omega, by omega, HSn.out, HBn.out⟩
        case measure => simp [intOf]; omega
    · obtain rfl : k = s.size := by omega
      have e : s.data.toList.take s.size = s.data.toList := List.take_of_length_le (Nat.le_of_eq rfl)
      have ho := HO.out
      rw [e] at ho
      have hcv := Own.run_str ho 30 9 Tryd.underlying30 Tryd.underlying5 Tryd.underlying9
      clear ho e
      go_wp2
      go_ret
      exact ⟨rfl, HB.out⟩
end Go.Proofs.YtmloabphhebioaaDoor
