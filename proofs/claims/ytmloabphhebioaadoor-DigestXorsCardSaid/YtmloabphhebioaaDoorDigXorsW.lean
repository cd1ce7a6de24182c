/- DigestXors: the walk. -/
import Derived.Test.YtmloabphhebioaaDoorDigSmall
import Derived.Test.YtmloabphhebioaaDoorDigBits
import Derived.Test.YtmloabphhebioaaDoorOwnStep
import Derived.IntWalk
import Derived.WalkSmall
namespace Go.Proofs.YtmloabphhebioaaDoor
open Go.RowKit Dg
theorem i64_xor_nat (a b : Nat) (ha : a < 4294967296) (hb : b < 4294967296) : bits .xor .i64 (a : Int) (b : Int) = ((a ^^^ b : Nat) : Int) := by
  have hx : a ^^^ b < 2 ^ 32 := Nat.xor_lt_two_pow (by omega) (by omega)
  show IntKind.i64.wrap ((BitVec.ofInt 64 (a : Int) ^^^ BitVec.ofInt 64 (b : Int)).toNat : Int) = _
  rw [BitVec.toNat_xor, ofInt_u64 a (by omega), ofInt_u64 b (by omega)]
  exact IntWalk.i64_in _ (by omega)
theorem getD_byte (s : ByteArray) (k : Nat) (h : k < s.size) : s.data.toList.getD k 0 = s[k] := by
  rw [List.getD_eq_getElem?_getD, List.getElem?_eq_getElem (by simpa using h)]; rfl
theorem crcs_law (a b c : List UInt8) (n : Nat) (ha : n ≤ a.length) (hb : n ≤ b.length) (hc : n ≤ c.length) :
    bits .xor .i64 (bits .xor .i64 (crcN (a.take n) : Int) (crcN (b.take n))) (crcN (c.take n)) = (crcN (xor3 a b c n) : Int) := by
  have e : ∀ x y : UInt32, bits .xor .i64 (x.toNat : Int) (y.toNat : Int) = ((x ^^^ y).toNat : Int) := fun x y => by
    rw [i64_xor_nat _ _ (by have := w32_lt x; omega) (by have := w32_lt y; omega), UInt32.toNat_xor]
  unfold crcN
  rw [e, e, crcN_xor3 a b c n ha hb hc]
set_option maxHeartbeats 2000000 in
theorem xors_walk (a b c : ByteArray) (w : World) (ha : a.size ≤ maxLen) (hb0 : b.size ≤ maxLen) (hc : c.size ≤ maxLen) (hK : KOK w) (hg : 0 < w.heap.size) :
    Calls Tryd.prog 6 #[.string a, .string b, .string c] w fun e w' => e = .returned (.bool true) ∧ Below w.heap.size w w' := by
  unfold maxLen at ha hb0 hc
  have HK := Lib.hid hK
  go_enter Tryd.func6, Tryd.ntmps6
  go_wp2_with fail
  refine (small_any w HK.out hg).mono ?_
  rintro e w1 ⟨rfl, hb⟩
  have HB := Lib.hid hb
  clear hb hK
  obtain ⟨n, hn, h1, h2, h3⟩ : ∃ n : Nat, (if (c.size : Int) < (if b.size < a.size then (b.size : Int) else (a.size : Int)) then (c.size : Int) else if b.size < a.size then (b.size : Int) else (a.size : Int)) = (n : Int) ∧ n ≤ a.size ∧ n ≤ b.size ∧ n ≤ c.size := by
    refine ⟨min (min a.size b.size) c.size, ?_, by omega, by omega, by omega⟩
    split <;> split <;> omega
  by_cases hn2 : 2000 < n
  · go_wp2
    go_ret
    exact ⟨rfl, HB.out⟩
  · go_wp2
    obtain ⟨wo, rfl⟩ : ∃ wo : World, wo = w1 := ⟨_, rfl⟩
    clear hn
    go_loopw [9, 10] (fun v i wr => ∃ (k m : Nat) (M : List UInt8), k ≤ n ∧ i = .int .i64 k ∧ k ≤ m ∧ m ≤ k ∧ Hid (M = xor3 a.data.toList b.data.toList c.data.toList k) ∧ OB wr wo.heap.size v m M ∧ Below wo.heap.size wo wr) (fun _ i _ => n - (intOf i).toNat)
    case atStart => exact ⟨0, 0, [], Nat.zero_le _, rfl, Nat.le_refl _, Nat.le_refl _, rfl, Own.nil _ _ _ _, Below.refl _ _⟩
    case round =>
      obtain ⟨k, m, M, hk, rfl, hm1, hm2, hM, hown, hbe⟩ := hrel
      have HOw := Lib.hid hown
      have HBe := Lib.hid hbe
      clear hown hbe
      by_cases hlt : k < n
      · have ka : k < a.size := by omega
        have kb : k < b.size := by omega
        have kc : k < c.size := by omega
        obtain ⟨z, hz⟩ : ∃ z, z = a[k] ^^^ b[k] ^^^ c[k] := ⟨_, rfl⟩
        have r1 := xor8 a[k] b[k]
        have r2 : bits .xor .u8 ((a[k].toNat ^^^ b[k].toNat : Nat) : Int) (c[k].toNat : Int) = (z.toNat : Int) := by rw [← UInt8.toNat_xor, xor8, hz]
        have HM1 : Hid (M ++ [z] = xor3 a.data.toList b.data.toList c.data.toList (k + 1)) := by
          show _ = _; rw [hM.out, xor3, getD_byte a k ka, getD_byte b k kb, getD_byte c k kc, hz]
        clear hz hM
        obtain ⟨i0, hi, hz0, hz1, hz2⟩ := info_parts byte_info
        go_wp2_with fail
        go_region_held3 (fun _ => True) (first | go_keep | trivial)
          ((refine step_append_x (by rfl) _ _ 30 (by rfl) wo.heap.size 5 i0 (.int .u8 0) 1 1 Tryd.underlying30 hi hz0 hz1 hz2 rfl (by decide) u9 m (Lib.byteCells M) (by rfl) ((HOw.out.alloc _).drew) ⟨wr.heap.size, 0, none⟩ 1 1 [.int .u8 (z.toNat : Int)] (by rfl) rfl (World.news_of_block (cs := #[.int .u8 (z.toNat : Int)]) (heap_alloc_new _ _)) (bytes_one z) (by unfold maxLen; omega) (by omega) (by have := HBe.out.size; simp; omega) ?_; intro v1 w4 hown1 hg1 _ hv1))
        all_goals
          have HO1 : Hid (OB w4 wo.heap.size v1 (m + 1) (M ++ [z])) := OB.snoc hown1
          have HB4 : Hid (Below wo.heap.size wo w4) := (HBe.out.alloc HBe.out.size _).drew.grown hg1 (by have := HBe.out.size; simp; omega) (fun k hk => (HOw.out.block_ge k hk).1)
          clear hown1 hg1 hv1 r1 r2
          go_wp2
          go_roundw
          case rel => exact ⟨k + 1, m + 1, M ++ [z], by omega, by go_num, by omega, by omega, HM1.out, HO1.out, HB4.out⟩
          case measure => simp [intOf]; omega
      · have hcv : ∀ j, (convert 30 9 u9).run Tryd.prog (wr.drewN j) = .ok (.string (bs M)) (wr.drewN j) := fun j =>
          (HOw.out.drewN j).run_str _ _ Tryd.underlying30 Tryd.underlying5 Tryd.underlying9
        have e1 : a.extract 0 n = bs (a.data.toList.take n) := ext_take a.data.toList n
        have e2 : b.extract 0 n = bs (b.data.toList.take n) := ext_take b.data.toList n
        have e3 : c.extract 0 n = bs (c.data.toList.take n) := ext_take c.data.toList n
        have hkn : k = n := by omega
        have HF : Hid (((crcN M : Int) == bits .xor .i64 (bits .xor .i64 (crcN (a.data.toList.take n) : Int) (crcN (b.data.toList.take n))) (crcN (c.data.toList.take n))) = true) := by
          show _ = _; rw [crcs_law _ _ _ n (by simpa using h1) (by simpa using h2) (by simpa using h3), hM.out, hkn]; simp
        have S0 : (bs M).size ≤ 140737488351232 := by
          have : M.length = k := by rw [hM.out, xor3_len]
          show M.length ≤ _; omega
        have S1 : (bs (a.data.toList.take n)).size ≤ 140737488351232 := by show (a.data.toList.take n).length ≤ _; rw [List.length_take]; omega
        have S2 : (bs (b.data.toList.take n)).size ≤ 140737488351232 := by show (b.data.toList.take n).length ≤ _; rw [List.length_take]; omega
        have S3 : (bs (c.data.toList.take n)).size ≤ 140737488351232 := by show (c.data.toList.take n).length ≤ _; rw [List.length_take]; omega
        clear hM
        go_wp2_with fail
        go_quiet ((go_at_call 16; exact quiet_left (crc_any _ _ (by assumption))))
        clear S0 S1 S2 S3 hcv e1 e2 e3
        simp only [bs_data]
        rw [HF.out]
        go_wp2
        go_ret
        exact ⟨rfl, HB.out.trans ((below_drewN HBe.out _).mono HB.out.size)⟩
end Go.Proofs.YtmloabphhebioaaDoor
