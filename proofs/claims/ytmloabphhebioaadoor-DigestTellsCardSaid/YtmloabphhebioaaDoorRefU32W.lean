/- missiveref03.Unbase32: the walk. -/
import Derived.Test.YtmloabphhebioaaDoorRefB32W
import Derived.Test.YtmloabphhebioaaDoorDigTrip
namespace Go.Proofs.YtmloabphhebioaaDoor
open Go.RowKit Dg
theorem ix_let (c : UInt8) : ixB letters c = if 97 ≤ c.toNat ∧ c.toNat ≤ 122 then (c.toNat : Int) - 97 else if 50 ≤ c.toNat ∧ c.toNat ≤ 55 then (c.toNat : Int) - 50 + 26 else -1 := by
  have h : ∀ n : Fin 256, ixB letters (UInt8.ofNat n.val) = if 97 ≤ n.val ∧ n.val ≤ 122 then (n.val : Int) - 97 else if 50 ≤ n.val ∧ n.val ≤ 55 then (n.val : Int) - 50 + 26 else -1 := by decide +kernel
  have := h ⟨c.toNat, c.toNat_lt⟩
  simpa using this
theorem low_next (N x H : Nat) (hx : x < 32) : 32 * (N % 2 ^ H) + x = (N * 32 + x) % 2 ^ (H + 5) := by
  rw [Nat.pow_add, Nat.mul_comm (2 ^ H), show (2 : Nat) ^ 5 = 32 from rfl, Nat.mod_mul]
  rw [show (N * 32 + x) % 32 = x by omega, show (N * 32 + x) / 32 = N by omega]; omega
theorem low_byte (M G : Nat) : M % 2 ^ (G + 8) / 2 ^ G = M / 2 ^ G % 256 := by
  rw [Nat.pow_add, Nat.mod_mul_right_div_self]
theorem low_low (M G : Nat) : M % 2 ^ (G + 8) % 2 ^ G = M % 2 ^ G := Nat.mod_mod_of_dvd _ (Nat.pow_dvd_pow 2 (by omega))
theorem and_low (n G : Nat) (L : Int) (h : n < 9223372036854775808) (hG : G < 10) (hL : L = ((2 ^ G - 1 : Nat) : Int)) : bits .and .i64 (n : Int) L = ((n % 2 ^ G : Nat) : Int) := by
  have hp : 2 ^ G ≤ 2 ^ 10 := Nat.pow_le_pow_right (by decide) (by omega)
  rw [hL, j64_and n (2 ^ G - 1) h (by omega), Nat.and_two_pow_sub_one_eq_mod]
theorem unb_some {s : ByteArray} {v : List Nat} (hv : vals s.data.toList = some v) {o : List UInt8} (e H N : Nat) (he : 5 * v.length = 8 * e + H) (hH : H < 8) (hN : N = num 32 v) (ho : o = b8 e (N / 2 ^ H)) :
    unb32L s.data.toList = if b32L o = s.data.toList then some o else none := by
  have e1 : 5 * v.length / 8 = e := by omega
  have e2 : 5 * v.length % 8 = H := by omega
  have hu : ∀ d, unb32L s.data.toList = some d → d = o := by
    intro d hd
    rw [unb32L, hv] at hd
    simp only [e1, e2] at hd
    split at hd
    · cases hd
    · rw [ho, hN]; exact (Option.some.inj hd).symm
  by_cases hb : b32L o = s.data.toList
  · rw [if_pos hb, ← hb, unb_b32]
  · rw [if_neg hb]
    cases hc : unb32L s.data.toList with
    | none => rfl
    | some d => exact absurd (by rw [← hu d hc]; exact b32_unb _ _ hc) hb
/-- the relation of the loop -/
structure U32 (s : ByteArray) (w wr : World) (k N e H : Nat) (l : List Nat) (v : Value) : Prop where
  eq : 5 * k = 8 * e + H
  vals : vals (s.data.toList.take k) = some l
  n : N = num 32 l
  len : l.length = k
  own : OB wr w.heap.size v e (b8 e (N / 2 ^ H))
  b : Below w.heap.size w wr
set_option maxHeartbeats 4000000 in
theorem runb32_any (s : ByteArray) (w : World) (hs : s.size ≤ 1000000) :
    Calls Tryd.prog 20 #[.string s] w fun e w' => e = .returned (optS (unb32L s.data.toList)) ∧ Below w.heap.size w w' := by
  go_enter Tryd.func20, Tryd.ntmps20
  go_wp2
  go_loopw [4, 5, 6, 7, 8] (fun v n h i _ wr => ∃ (k N e H : Nat) (l : List Nat), k ≤ s.size ∧ i = .int .i64 k ∧ n = .int .i64 (N % 2 ^ H : Nat) ∧ h = .int .i64 H ∧ H < 8 ∧ U32 s w wr k N e H l v) (fun _ _ _ i _ _ => s.size - (intOf i).toNat)
  case atStart => exact ⟨0, 0, 0, 0, [], Nat.zero_le _, rfl, rfl, rfl, by omega, ⟨rfl, rfl, rfl, rfl, Own.nil _ _ _ _, Below.refl _ _⟩⟩
  case round =>
    obtain ⟨k, N, e, H, l, hk, rfl, rfl, rfl, hH, hu⟩ := hrel
    have HU := Lib.hid hu
    clear hu
    have hn0 : N % 2 ^ H < 256 := Nat.lt_of_lt_of_le (Nat.mod_lt _ (Nat.pow_pos (by decide))) (show 2 ^ H ≤ 2 ^ 8 from Nat.pow_le_pow_right (by decide) (by omega))
    by_cases hlt : k < s.size
    · have x1 : (0 : Int) ≤ (k : Int) := by omega
      have x2 : (k : Int) < (s.size : Int) := by omega
      have hcl := w8_lt s[k]
      have hix := ix_let s[k]
      obtain ⟨c, hc⟩ : ∃ c, s[k].toNat = c := ⟨_, rfl⟩
      rw [hc] at hix hcl
      have hcase : (97 ≤ c ∧ c ≤ 122) ∨ (50 ≤ c ∧ c ≤ 55) ∨ (c < 50 ∨ (55 < c ∧ c < 97) ∨ 122 < c) := by omega
      rcases ixB_idx letters s[k] with ⟨h1, h2⟩ | ⟨x, hx, h1, h2⟩
      · have HX : Hid (unb32L s.data.toList = none) := by show _ = _; rw [unb32L, vals_bad_at s k hlt h2]
        have hbad : c < 50 ∨ (55 < c ∧ c < 97) ∨ 122 < c := by
          rcases hcase with h | h | h
          · rw [if_pos h] at hix; omega
          · rw [if_neg (by omega), if_pos h] at hix; omega
          · exact h
        clear h1 h2 hix hcase
        rcases hbad with hb | ⟨hb, hb2⟩ | hb
        all_goals
          go_wp2
          go_ret2
          exact ⟨by rw [HX.out]; rfl, HU.out.b⟩
      · have hx32 : x < 32 := hx
        have HV2 : Hid (vals (s.data.toList.take (k + 1)) = some (l ++ [x])) := by
          show _ = _; rw [take_snoc s k hlt]; exact vals_snoc _ _ _ _ HU.out.vals h2
        have HN2 : Hid (N * 32 + x = num 32 (l ++ [x])) := by show _ = _; rw [num_snoc, HU.out.n]
        have HD := Lib.hid (div_five N x H hx32)
        have HL := Lib.hid (low_next N x H hx32)
        have hn1 : 32 * (N % 2 ^ H) + x < 16384 := by omega
        obtain ⟨M, hM⟩ : ∃ M, M = N * 32 + x := ⟨_, rfl⟩
        rw [← hM] at HN2 HD HL
        have hxc : (97 ≤ c ∧ c ≤ 122 ∧ c = x + 97) ∨ (50 ≤ c ∧ c ≤ 55 ∧ c + 26 = x + 50) := by
          rcases hcase with h | h | h
          · rw [if_pos h] at hix; omega
          · rw [if_neg (by omega), if_pos h] at hix; omega
          · rw [if_neg (by omega), if_neg (by omega)] at hix; omega
        obtain ⟨n0, hn0e⟩ : ∃ y, N % 2 ^ H = y := ⟨_, rfl⟩
        rw [hn0e] at hn1 hn0 HL ⊢
        obtain ⟨n1, hn1e⟩ : ∃ y, 32 * n0 + x = y := ⟨_, rfl⟩
        rw [hn1e] at hn1 HL
        have q0 : 32 * (n0 : Int) + (x : Int) = (n1 : Int) := by omega
        clear h1 h2 hix hcase hM hn0e hn1e hn0
        have hHc : H = 0 ∨ H = 1 ∨ H = 2 ∨ H = 3 ∨ H = 4 ∨ H = 5 ∨ H = 6 ∨ H = 7 := by omega
        rcases hxc with ⟨y1, y2, y3⟩ | ⟨y1, y2, y3⟩
        · have q1 : (c : Int) - 97 = (x : Int) := by omega
          clear y3
          rcases hHc with rfl | rfl | rfl | rfl | rfl | rfl | rfl | rfl
          · go_wp2_with fail
            go_roundw
            case rel => exact ⟨k + 1, M, e, 5, l ++ [x], by omega, by go_num, by rw [← HL.out], by go_num, by omega, ⟨by have := HU.out.eq; omega, HV2.out, HN2.out, by rw [List.length_append, HU.out.len]; rfl, by rw [HD.out]; exact HU.out.own, HU.out.b⟩⟩
            case measure => simp [intOf]; omega
          · go_wp2_with fail
            go_roundw
            case rel => exact ⟨k + 1, M, e, 6, l ++ [x], by omega, by go_num, by rw [← HL.out], by go_num, by omega, ⟨by have := HU.out.eq; omega, HV2.out, HN2.out, by rw [List.length_append, HU.out.len]; rfl, by rw [HD.out]; exact HU.out.own, HU.out.b⟩⟩
            case measure => simp [intOf]; omega
          · go_wp2_with fail
            go_roundw
            case rel => exact ⟨k + 1, M, e, 7, l ++ [x], by omega, by go_num, by rw [← HL.out], by go_num, by omega, ⟨by have := HU.out.eq; omega, HV2.out, HN2.out, by rw [List.length_append, HU.out.len]; rfl, by rw [HD.out]; exact HU.out.own, HU.out.b⟩⟩
            case measure => simp [intOf]; omega
          · have hb := HL.out
            have hb2 : n1 < 2 ^ 8 := by rw [hb]; exact Nat.mod_lt _ (by decide)
            have hby := low_byte M 0
            have hlo := low_low M 0
            rw [show 0 + 8 = 3 + 5 from rfl, ← hb] at hby hlo
            have ha := and_low n1 0 0 (by omega) (by decide) (by decide)
            rw [hlo] at ha
            obtain ⟨n2, hn2⟩ : ∃ y, M % 2 ^ 0 = y := ⟨_, rfl⟩
            obtain ⟨zb, hzb⟩ : ∃ y, M / 2 ^ 0 % 256 = y := ⟨_, rfl⟩
            rw [hn2] at ha
            rw [hzb] at hby
            have hzl : zb < 256 := by rw [← hzb]; exact Nat.mod_lt _ (by decide)
            obtain ⟨z, hz⟩ : ∃ z : Int, (zb : Int) = z := ⟨_, rfl⟩
            have HZ : Hid (z = ((UInt8.ofNat zb).toNat : Int)) := Lib.hid (by rw [← hz, UInt8.toNat_ofNat']; omega)
            have q2 : (n1 : Int) = z := by rw [← hz, ← hby]; simp
            rw [q2] at ha
            have hz0 : 0 ≤ z := by omega
            have hz1 : z < 256 := by omega
            have HB8 := Lib.hid (b8_step M e 0)
            have HN2' := Lib.hid hn2; have HZB := Lib.hid hzb
            clear hb hby hlo hn2 hzb hz
            go_wp2_with (at_builtin; refine wpList_append_b1 rfl _ _ rfl w.heap.size _ e _ rfl (HU.out.own.alloc _) wr.heap.size z _ HZ rfl (heap_alloc_new wr _) (by have := HU.out.eq; omega) (by have := HU.out.b.size; simp; omega) ?_; intro v7 wn hoN hbN; have HON := Lib.hid hoN; have HBN := Lib.hid (((HU.out.b.alloc HU.out.b.size (.cells #[.int .u8 z] 5)).trans hbN)); clear hoN hbN)
            go_roundw
            case rel => exact ⟨k + 1, M, e + 1, 0, l ++ [x], by omega, by go_num, by rw [HN2'.out], by go_num, by omega, ⟨by have := HU.out.eq; omega, HV2.out, HN2.out, by rw [List.length_append, HU.out.len]; rfl, by rw [HB8.out, HZB.out, show 0 + 8 = 3 + 5 from rfl, HD.out]; exact HON.out, HBN.out⟩⟩
            case measure => simp [intOf]; omega
          · have hb := HL.out
            have hb2 : n1 < 2 ^ 9 := by rw [hb]; exact Nat.mod_lt _ (by decide)
            have hby := low_byte M 1
            have hlo := low_low M 1
            rw [show 1 + 8 = 4 + 5 from rfl, ← hb] at hby hlo
            have ha := and_low n1 1 1 (by omega) (by decide) (by decide)
            rw [hlo] at ha
            obtain ⟨n2, hn2⟩ : ∃ y, M % 2 ^ 1 = y := ⟨_, rfl⟩
            obtain ⟨zb, hzb⟩ : ∃ y, M / 2 ^ 1 % 256 = y := ⟨_, rfl⟩
            rw [hn2] at ha
            rw [hzb] at hby
            have hzl : zb < 256 := by rw [← hzb]; exact Nat.mod_lt _ (by decide)
            obtain ⟨z, hz⟩ : ∃ z : Int, (zb : Int) = z := ⟨_, rfl⟩
            have HZ : Hid (z = ((UInt8.ofNat zb).toNat : Int)) := Lib.hid (by rw [← hz, UInt8.toNat_ofNat']; omega)
            have q2 : (n1 : Int) / 2 = z := by rw [← hz, ← hby]; simp
            have hz0 : 0 ≤ z := by omega
            have hz1 : z < 256 := by omega
            have HB8 := Lib.hid (b8_step M e 1)
            have HN2' := Lib.hid hn2; have HZB := Lib.hid hzb
            clear hb hby hlo hn2 hzb hz
            go_wp2_with (at_builtin; refine wpList_append_b1 rfl _ _ rfl w.heap.size _ e _ rfl (HU.out.own.alloc _) wr.heap.size z _ HZ rfl (heap_alloc_new wr _) (by have := HU.out.eq; omega) (by have := HU.out.b.size; simp; omega) ?_; intro v7 wn hoN hbN; have HON := Lib.hid hoN; have HBN := Lib.hid (((HU.out.b.alloc HU.out.b.size (.cells #[.int .u8 z] 5)).trans hbN)); clear hoN hbN)
            go_roundw
            case rel => exact ⟨k + 1, M, e + 1, 1, l ++ [x], by omega, by go_num, by rw [HN2'.out], by go_num, by omega, ⟨by have := HU.out.eq; omega, HV2.out, HN2.out, by rw [List.length_append, HU.out.len]; rfl, by rw [HB8.out, HZB.out, show 1 + 8 = 4 + 5 from rfl, HD.out]; exact HON.out, HBN.out⟩⟩
            case measure => simp [intOf]; omega
          · have hb := HL.out
            have hb2 : n1 < 2 ^ 10 := by rw [hb]; exact Nat.mod_lt _ (by decide)
            have hby := low_byte M 2
            have hlo := low_low M 2
            rw [show 2 + 8 = 5 + 5 from rfl, ← hb] at hby hlo
            have ha := and_low n1 2 3 (by omega) (by decide) (by decide)
            rw [hlo] at ha
            obtain ⟨n2, hn2⟩ : ∃ y, M % 2 ^ 2 = y := ⟨_, rfl⟩
            obtain ⟨zb, hzb⟩ : ∃ y, M / 2 ^ 2 % 256 = y := ⟨_, rfl⟩
            rw [hn2] at ha
            rw [hzb] at hby
            have hzl : zb < 256 := by rw [← hzb]; exact Nat.mod_lt _ (by decide)
            obtain ⟨z, hz⟩ : ∃ z : Int, (zb : Int) = z := ⟨_, rfl⟩
            have HZ : Hid (z = ((UInt8.ofNat zb).toNat : Int)) := Lib.hid (by rw [← hz, UInt8.toNat_ofNat']; omega)
            have q2 : (n1 : Int) / 4 = z := by rw [← hz, ← hby]; simp
            have hz0 : 0 ≤ z := by omega
            have hz1 : z < 256 := by omega
            have HB8 := Lib.hid (b8_step M e 2)
            have HN2' := Lib.hid hn2; have HZB := Lib.hid hzb
            clear hb hby hlo hn2 hzb hz
            go_wp2_with (at_builtin; refine wpList_append_b1 rfl _ _ rfl w.heap.size _ e _ rfl (HU.out.own.alloc _) wr.heap.size z _ HZ rfl (heap_alloc_new wr _) (by have := HU.out.eq; omega) (by have := HU.out.b.size; simp; omega) ?_; intro v7 wn hoN hbN; have HON := Lib.hid hoN; have HBN := Lib.hid (((HU.out.b.alloc HU.out.b.size (.cells #[.int .u8 z] 5)).trans hbN)); clear hoN hbN)
            go_roundw
            case rel => exact ⟨k + 1, M, e + 1, 2, l ++ [x], by omega, by go_num, by rw [HN2'.out], by go_num, by omega, ⟨by have := HU.out.eq; omega, HV2.out, HN2.out, by rw [List.length_append, HU.out.len]; rfl, by rw [HB8.out, HZB.out, show 2 + 8 = 5 + 5 from rfl, HD.out]; exact HON.out, HBN.out⟩⟩
            case measure => simp [intOf]; omega
          · have hb := HL.out
            have hb2 : n1 < 2 ^ 11 := by rw [hb]; exact Nat.mod_lt _ (by decide)
            have hby := low_byte M 3
            have hlo := low_low M 3
            rw [show 3 + 8 = 6 + 5 from rfl, ← hb] at hby hlo
            have ha := and_low n1 3 7 (by omega) (by decide) (by decide)
            rw [hlo] at ha
            obtain ⟨n2, hn2⟩ : ∃ y, M % 2 ^ 3 = y := ⟨_, rfl⟩
            obtain ⟨zb, hzb⟩ : ∃ y, M / 2 ^ 3 % 256 = y := ⟨_, rfl⟩
            rw [hn2] at ha
            rw [hzb] at hby
            have hzl : zb < 256 := by rw [← hzb]; exact Nat.mod_lt _ (by decide)
            obtain ⟨z, hz⟩ : ∃ z : Int, (zb : Int) = z := ⟨_, rfl⟩
            have HZ : Hid (z = ((UInt8.ofNat zb).toNat : Int)) := Lib.hid (by rw [← hz, UInt8.toNat_ofNat']; omega)
            have q2 : (n1 : Int) / 8 = z := by rw [← hz, ← hby]; simp
            have hz0 : 0 ≤ z := by omega
            have hz1 : z < 256 := by omega
            have HB8 := Lib.hid (b8_step M e 3)
            have HN2' := Lib.hid hn2; have HZB := Lib.hid hzb
            clear hb hby hlo hn2 hzb hz
            go_wp2_with (at_builtin; refine wpList_append_b1 rfl _ _ rfl w.heap.size _ e _ rfl (HU.out.own.alloc _) wr.heap.size z _ HZ rfl (heap_alloc_new wr _) (by have := HU.out.eq; omega) (by have := HU.out.b.size; simp; omega) ?_; intro v7 wn hoN hbN; have HON := Lib.hid hoN; have HBN := Lib.hid (((HU.out.b.alloc HU.out.b.size (.cells #[.int .u8 z] 5)).trans hbN)); clear hoN hbN)
            go_roundw
            case rel => exact ⟨k + 1, M, e + 1, 3, l ++ [x], by omega, by go_num, by rw [HN2'.out], by go_num, by omega, ⟨by have := HU.out.eq; omega, HV2.out, HN2.out, by rw [List.length_append, HU.out.len]; rfl, by rw [HB8.out, HZB.out, show 3 + 8 = 6 + 5 from rfl, HD.out]; exact HON.out, HBN.out⟩⟩
            case measure => simp [intOf]; omega
          · have hb := HL.out
            have hb2 : n1 < 2 ^ 12 := by rw [hb]; exact Nat.mod_lt _ (by decide)
            have hby := low_byte M 4
            have hlo := low_low M 4
            rw [show 4 + 8 = 7 + 5 from rfl, ← hb] at hby hlo
            have ha := and_low n1 4 15 (by omega) (by decide) (by decide)
            rw [hlo] at ha
            obtain ⟨n2, hn2⟩ : ∃ y, M % 2 ^ 4 = y := ⟨_, rfl⟩
            obtain ⟨zb, hzb⟩ : ∃ y, M / 2 ^ 4 % 256 = y := ⟨_, rfl⟩
            rw [hn2] at ha
            rw [hzb] at hby
            have hzl : zb < 256 := by rw [← hzb]; exact Nat.mod_lt _ (by decide)
            obtain ⟨z, hz⟩ : ∃ z : Int, (zb : Int) = z := ⟨_, rfl⟩
            have HZ : Hid (z = ((UInt8.ofNat zb).toNat : Int)) := Lib.hid (by rw [← hz, UInt8.toNat_ofNat']; omega)
            have q2 : (n1 : Int) / 16 = z := by rw [← hz, ← hby]; simp
            have hz0 : 0 ≤ z := by omega
            have hz1 : z < 256 := by omega
            have HB8 := Lib.hid (b8_step M e 4)
            have HN2' := Lib.hid hn2; have HZB := Lib.hid hzb
            clear hb hby hlo hn2 hzb hz
            go_wp2_with (at_builtin; refine wpList_append_b1 rfl _ _ rfl w.heap.size _ e _ rfl (HU.out.own.alloc _) wr.heap.size z _ HZ rfl (heap_alloc_new wr _) (by have := HU.out.eq; omega) (by have := HU.out.b.size; simp; omega) ?_; intro v7 wn hoN hbN; have HON := Lib.hid hoN; have HBN := Lib.hid (((HU.out.b.alloc HU.out.b.size (.cells #[.int .u8 z] 5)).trans hbN)); clear hoN hbN)
            go_roundw
            case rel => exact ⟨k + 1, M, e + 1, 4, l ++ [x], by omega, by go_num, by rw [HN2'.out], by go_num, by omega, ⟨by have := HU.out.eq; omega, HV2.out, HN2.out, by rw [List.length_append, HU.out.len]; rfl, by rw [HB8.out, HZB.out, show 4 + 8 = 7 + 5 from rfl, HD.out]; exact HON.out, HBN.out⟩⟩
            case measure => simp [intOf]; omega
        · have q1 : (c : Int) - 50 + 26 = (x : Int) := by omega
          clear y3
          rcases hHc with rfl | rfl | rfl | rfl | rfl | rfl | rfl | rfl
          · go_wp2_with fail
            go_roundw
            case rel => exact ⟨k + 1, M, e, 5, l ++ [x], by omega, by go_num, by rw [← HL.out], by go_num, by omega, ⟨by have := HU.out.eq; omega, HV2.out, HN2.out, by rw [List.length_append, HU.out.len]; rfl, by rw [HD.out]; exact HU.out.own, HU.out.b⟩⟩
            case measure => simp [intOf]; omega
          · go_wp2_with fail
            go_roundw
            case rel => exact ⟨k + 1, M, e, 6, l ++ [x], by omega, by go_num, by rw [← HL.out], by go_num, by omega, ⟨by have := HU.out.eq; omega, HV2.out, HN2.out, by rw [List.length_append, HU.out.len]; rfl, by rw [HD.out]; exact HU.out.own, HU.out.b⟩⟩
            case measure => simp [intOf]; omega
          · go_wp2_with fail
            go_roundw
            case rel => exact ⟨k + 1, M, e, 7, l ++ [x], by omega, by go_num, by rw [← HL.out], by go_num, by omega, ⟨by have := HU.out.eq; omega, HV2.out, HN2.out, by rw [List.length_append, HU.out.len]; rfl, by rw [HD.out]; exact HU.out.own, HU.out.b⟩⟩
            case measure => simp [intOf]; omega
          · have hb := HL.out
            have hb2 : n1 < 2 ^ 8 := by rw [hb]; exact Nat.mod_lt _ (by decide)
            have hby := low_byte M 0
            have hlo := low_low M 0
            rw [show 0 + 8 = 3 + 5 from rfl, ← hb] at hby hlo
            have ha := and_low n1 0 0 (by omega) (by decide) (by decide)
            rw [hlo] at ha
            obtain ⟨n2, hn2⟩ : ∃ y, M % 2 ^ 0 = y := ⟨_, rfl⟩
            obtain ⟨zb, hzb⟩ : ∃ y, M / 2 ^ 0 % 256 = y := ⟨_, rfl⟩
            rw [hn2] at ha
            rw [hzb] at hby
            have hzl : zb < 256 := by rw [← hzb]; exact Nat.mod_lt _ (by decide)
            obtain ⟨z, hz⟩ : ∃ z : Int, (zb : Int) = z := ⟨_, rfl⟩
            have HZ : Hid (z = ((UInt8.ofNat zb).toNat : Int)) := Lib.hid (by rw [← hz, UInt8.toNat_ofNat']; omega)
            have q2 : (n1 : Int) = z := by rw [← hz, ← hby]; simp
            rw [q2] at ha
            have hz0 : 0 ≤ z := by omega
            have hz1 : z < 256 := by omega
            have HB8 := Lib.hid (b8_step M e 0)
            have HN2' := Lib.hid hn2; have HZB := Lib.hid hzb
            clear hb hby hlo hn2 hzb hz
            go_wp2_with (at_builtin; refine wpList_append_b1 rfl _ _ rfl w.heap.size _ e _ rfl (HU.out.own.alloc _) wr.heap.size z _ HZ rfl (heap_alloc_new wr _) (by have := HU.out.eq; omega) (by have := HU.out.b.size; simp; omega) ?_; intro v7 wn hoN hbN; have HON := Lib.hid hoN; have HBN := Lib.hid (((HU.out.b.alloc HU.out.b.size (.cells #[.int .u8 z] 5)).trans hbN)); clear hoN hbN)
            go_roundw
            case rel => exact ⟨k + 1, M, e + 1, 0, l ++ [x], by omega, by go_num, by rw [HN2'.out], by go_num, by omega, ⟨by have := HU.out.eq; omega, HV2.out, HN2.out, by rw [List.length_append, HU.out.len]; rfl, by rw [HB8.out, HZB.out, show 0 + 8 = 3 + 5 from rfl, HD.out]; exact HON.out, HBN.out⟩⟩
            case measure => simp [intOf]; omega
          · have hb := HL.out
            have hb2 : n1 < 2 ^ 9 := by rw [hb]; exact Nat.mod_lt _ (by decide)
            have hby := low_byte M 1
            have hlo := low_low M 1
            rw [show 1 + 8 = 4 + 5 from rfl, ← hb] at hby hlo
            have ha := and_low n1 1 1 (by omega) (by decide) (by decide)
            rw [hlo] at ha
            obtain ⟨n2, hn2⟩ : ∃ y, M % 2 ^ 1 = y := ⟨_, rfl⟩
            obtain ⟨zb, hzb⟩ : ∃ y, M / 2 ^ 1 % 256 = y := ⟨_, rfl⟩
            rw [hn2] at ha
            rw [hzb] at hby
            have hzl : zb < 256 := by rw [← hzb]; exact Nat.mod_lt _ (by decide)
            obtain ⟨z, hz⟩ : ∃ z : Int, (zb : Int) = z := ⟨_, rfl⟩
            have HZ : Hid (z = ((UInt8.ofNat zb).toNat : Int)) := Lib.hid (by rw [← hz, UInt8.toNat_ofNat']; omega)
            have q2 : (n1 : Int) / 2 = z := by rw [← hz, ← hby]; simp
            have hz0 : 0 ≤ z := by omega
            have hz1 : z < 256 := by omega
            have HB8 := Lib.hid (b8_step M e 1)
            have HN2' := Lib.hid hn2; have HZB := Lib.hid hzb
            clear hb hby hlo hn2 hzb hz
            go_wp2_with (at_builtin; refine wpList_append_b1 rfl _ _ rfl w.heap.size _ e _ rfl (HU.out.own.alloc _) wr.heap.size z _ HZ rfl (heap_alloc_new wr _) (by have := HU.out.eq; omega) (by have := HU.out.b.size; simp; omega) ?_; intro v7 wn hoN hbN; have HON := Lib.hid hoN; have HBN := Lib.hid (((HU.out.b.alloc HU.out.b.size (.cells #[.int .u8 z] 5)).trans hbN)); clear hoN hbN)
            go_roundw
            case rel => exact ⟨k + 1, M, e + 1, 1, l ++ [x], by omega, by go_num, by rw [HN2'.out], by go_num, by omega, ⟨by have := HU.out.eq; omega, HV2.out, HN2.out, by rw [List.length_append, HU.out.len]; rfl, by rw [HB8.out, HZB.out, show 1 + 8 = 4 + 5 from rfl, HD.out]; exact HON.out, HBN.out⟩⟩
            case measure => simp [intOf]; omega
          · have hb := HL.out
            have hb2 : n1 < 2 ^ 10 := by rw [hb]; exact Nat.mod_lt _ (by decide)
            have hby := low_byte M 2
            have hlo := low_low M 2
            rw [show 2 + 8 = 5 + 5 from rfl, ← hb] at hby hlo
            have ha := and_low n1 2 3 (by omega) (by decide) (by decide)
            rw [hlo] at ha
            obtain ⟨n2, hn2⟩ : ∃ y, M % 2 ^ 2 = y := ⟨_, rfl⟩
            obtain ⟨zb, hzb⟩ : ∃ y, M / 2 ^ 2 % 256 = y := ⟨_, rfl⟩
            rw [hn2] at ha
            rw [hzb] at hby
            have hzl : zb < 256 := by rw [← hzb]; exact Nat.mod_lt _ (by decide)
            obtain ⟨z, hz⟩ : ∃ z : Int, (zb : Int) = z := ⟨_, rfl⟩
            have HZ : Hid (z = ((UInt8.ofNat zb).toNat : Int)) := Lib.hid (by rw [← hz, UInt8.toNat_ofNat']; omega)
            have q2 : (n1 : Int) / 4 = z := by rw [← hz, ← hby]; simp
            have hz0 : 0 ≤ z := by omega
            have hz1 : z < 256 := by omega
            have HB8 := Lib.hid (b8_step M e 2)
            have HN2' := Lib.hid hn2; have HZB := Lib.hid hzb
            clear hb hby hlo hn2 hzb hz
            go_wp2_with (at_builtin; refine wpList_append_b1 rfl _ _ rfl w.heap.size _ e _ rfl (HU.out.own.alloc _) wr.heap.size z _ HZ rfl (heap_alloc_new wr _) (by have := HU.out.eq; omega) (by have := HU.out.b.size; simp; omega) ?_; intro v7 wn hoN hbN; have HON := Lib.hid hoN; have HBN := Lib.hid (((HU.out.b.alloc HU.out.b.size (.cells #[.int .u8 z] 5)).trans hbN)); clear hoN hbN)
            go_roundw
            case rel => exact ⟨k + 1, M, e + 1, 2, l ++ [x], by omega, by go_num, by rw [HN2'.out], by go_num, by omega, ⟨by have := HU.out.eq; omega, HV2.out, HN2.out, by rw [List.length_append, HU.out.len]; rfl, by rw [HB8.out, HZB.out, show 2 + 8 = 5 + 5 from rfl, HD.out]; exact HON.out, HBN.out⟩⟩
            case measure => simp [intOf]; omega
          · have hb := HL.out
            have hb2 : n1 < 2 ^ 11 := by rw [hb]; exact Nat.mod_lt _ (by decide)
            have hby := low_byte M 3
            have hlo := low_low M 3
            rw [show 3 + 8 = 6 + 5 from rfl, ← hb] at hby hlo
            have ha := and_low n1 3 7 (by omega) (by decide) (by decide)
            rw [hlo] at ha
            obtain ⟨n2, hn2⟩ : ∃ y, M % 2 ^ 3 = y := ⟨_, rfl⟩
            obtain ⟨zb, hzb⟩ : ∃ y, M / 2 ^ 3 % 256 = y := ⟨_, rfl⟩
            rw [hn2] at ha
            rw [hzb] at hby
            have hzl : zb < 256 := by rw [← hzb]; exact Nat.mod_lt _ (by decide)
            obtain ⟨z, hz⟩ : ∃ z : Int, (zb : Int) = z := ⟨_, rfl⟩
            have HZ : Hid (z = ((UInt8.ofNat zb).toNat : Int)) := Lib.hid (by rw [← hz, UInt8.toNat_ofNat']; omega)
            have q2 : (n1 : Int) / 8 = z := by rw [← hz, ← hby]; simp
            have hz0 : 0 ≤ z := by omega
            have hz1 : z < 256 := by omega
            have HB8 := Lib.hid (b8_step M e 3)
            have HN2' := Lib.hid hn2; have HZB := Lib.hid hzb
            clear hb hby hlo hn2 hzb hz
            go_wp2_with (at_builtin; refine wpList_append_b1 rfl _ _ rfl w.heap.size _ e _ rfl (HU.out.own.alloc _) wr.heap.size z _ HZ rfl (heap_alloc_new wr _) (by have := HU.out.eq; omega) (by have := HU.out.b.size; simp; omega) ?_; intro v7 wn hoN hbN; have HON := Lib.hid hoN; have HBN := Lib.hid (((HU.out.b.alloc HU.out.b.size (.cells #[.int .u8 z] 5)).trans hbN)); clear hoN hbN)
            go_roundw
            case rel => exact ⟨k + 1, M, e + 1, 3, l ++ [x], by omega, by go_num, by rw [HN2'.out], by go_num, by omega, ⟨by have := HU.out.eq; omega, HV2.out, HN2.out, by rw [List.length_append, HU.out.len]; rfl, by rw [HB8.out, HZB.out, show 3 + 8 = 6 + 5 from rfl, HD.out]; exact HON.out, HBN.out⟩⟩
            case measure => simp [intOf]; omega
          · have hb := HL.out
            have hb2 : n1 < 2 ^ 12 := by rw [hb]; exact Nat.mod_lt _ (by decide)
            have hby := low_byte M 4
            have hlo := low_low M 4
            rw [show 4 + 8 = 7 + 5 from rfl, ← hb] at hby hlo
            have ha := and_low n1 4 15 (by omega) (by decide) (by decide)
            rw [hlo] at ha
            obtain ⟨n2, hn2⟩ : ∃ y, M % 2 ^ 4 = y := ⟨_, rfl⟩
            obtain ⟨zb, hzb⟩ : ∃ y, M / 2 ^ 4 % 256 = y := ⟨_, rfl⟩
            rw [hn2] at ha
            rw [hzb] at hby
            have hzl : zb < 256 := by rw [← hzb]; exact Nat.mod_lt _ (by decide)
            obtain ⟨z, hz⟩ : ∃ z : Int, (zb : Int) = z := ⟨_, rfl⟩
            have HZ : Hid (z = ((UInt8.ofNat zb).toNat : Int)) := Lib.hid (by rw [← hz, UInt8.toNat_ofNat']; omega)
            have q2 : (n1 : Int) / 16 = z := by rw [← hz, ← hby]; simp
            have hz0 : 0 ≤ z := by omega
            have hz1 : z < 256 := by omega
            have HB8 := Lib.hid (b8_step M e 4)
            have HN2' := Lib.hid hn2; have HZB := Lib.hid hzb
            clear hb hby hlo hn2 hzb hz
            go_wp2_with (at_builtin; refine wpList_append_b1 rfl _ _ rfl w.heap.size _ e _ rfl (HU.out.own.alloc _) wr.heap.size z _ HZ rfl (heap_alloc_new wr _) (by have := HU.out.eq; omega) (by have := HU.out.b.size; simp; omega) ?_; intro v7 wn hoN hbN; have HON := Lib.hid hoN; have HBN := Lib.hid (((HU.out.b.alloc HU.out.b.size (.cells #[.int .u8 z] 5)).trans hbN)); clear hoN hbN)
            go_roundw
            case rel => exact ⟨k + 1, M, e + 1, 4, l ++ [x], by omega, by go_num, by rw [HN2'.out], by go_num, by omega, ⟨by have := HU.out.eq; omega, HV2.out, HN2.out, by rw [List.length_append, HU.out.len]; rfl, by rw [HB8.out, HZB.out, show 4 + 8 = 7 + 5 from rfl, HD.out]; exact HON.out, HBN.out⟩⟩
            case measure => simp [intOf]; omega
    · obtain rfl : k = s.size := by omega
      have hv := HU.out.vals
      rw [show s.data.toList.take s.size = s.data.toList from List.take_of_length_le (Nat.le_of_eq rfl)] at hv
      have hub := unb_some hv (o := b8 e (N / 2 ^ H)) e H N (by rw [HU.out.len]; exact HU.out.eq) hH HU.out.n rfl
      obtain ⟨O, hO⟩ : ∃ O, O = b8 e (N / 2 ^ H) := ⟨_, rfl⟩
      have ho := HU.out.own
      rw [← hO] at ho hub
      have HUB := Lib.hid hub
      have hol : O.length ≤ 1000000 := by rw [hO, b8_len]; have := HU.out.eq; omega
      have hcv := Own.run_str ho 30 9 Tryd.underlying30 Tryd.underlying5 Tryd.underlying9
      have HOO := Lib.hid ho
      clear hv hub hO ho
      obtain ⟨B, hB⟩ : ∃ B, B = bs O := ⟨_, rfl⟩
      have hB2 : (⟨O.toArray⟩ : ByteArray) = B := hB.symm
      rw [hB2] at hcv
      have hR := rb32_any B wr (by rw [hB]; show O.toArray.size ≤ _; simpa using hol)
      have hBO : B.data.toList = O := by rw [hB]; simp [bs]
      rw [hBO] at hR
      obtain ⟨K, hK⟩ : ∃ K, bs (b32L O) = K := ⟨_, rfl⟩
      rw [hK] at hR
      have HK := Lib.hid hK; have HBe := Lib.hid hB
      clear hBO hB hB2 hK hn0
      go_wp2_with fail
      refine hR.mono ?_
      rintro x w4 ⟨rfl, b4⟩
      have hcv2 := Own.run_str (HOO.out.below b4 (Nat.le_refl _)) 30 9 Tryd.underlying30 Tryd.underlying5 Tryd.underlying9
      have hB2 : (⟨O.toArray⟩ : ByteArray) = B := HBe.out.symm
      rw [hB2] at hcv2
      have HB4 := Lib.hid (HU.out.b.trans (b4.mono HU.out.b.size))
      clear hR b4 hB2
      by_cases hks : K.toList = s.toList
      · have HF : Hid (unb32L s.data.toList = some O) := Lib.hid (by
          rw [HUB.out, if_pos]
          rw [ByteArray.toList_eq, ByteArray.toList_eq, ← HK.out] at hks
          simpa [bs] using hks)
        go_wp2
        go_ret2
        exact ⟨by rw [HF.out, HBe.out]; rfl, HB4.out⟩
      · have HF : Hid (unb32L s.data.toList = none) := Lib.hid (by
          rw [HUB.out, if_neg]
          rw [ByteArray.toList_eq, ByteArray.toList_eq, ← HK.out] at hks
          simpa [bs] using hks)
        have eb : (K.toList == s.toList) = false := by simpa using hks
        go_wp2
        all_goals
          first
          | (go_ret2; exact ⟨by rw [HF.out]; rfl, HB4.out⟩)
          | (exfalso; simp_all)
end Go.Proofs.YtmloabphhebioaaDoor
