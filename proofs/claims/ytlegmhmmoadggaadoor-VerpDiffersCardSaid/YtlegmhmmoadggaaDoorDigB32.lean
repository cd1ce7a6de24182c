/- digest.Base32. -/
import Derived.Test.YtlegmhmmoadggaaDoorDigUnhex
import Derived.Test.YtlegmhmmoadggaaDoorDigW64
namespace Go.Proofs.YtlegmhmmoadggaaDoor
open Go.RowKit Dg
theorem pow_step (H : Nat) (h : 5 ≤ H) (N : Nat) : N / 2 ^ (H - 5) / 32 = N / 2 ^ H := by
  rw [Nat.div_div_eq_div_mul, show (32 : Nat) = 2 ^ 5 from rfl, ← Nat.pow_add, show H - 5 + 5 = H by omega]
theorem b32_step (N e H : Nat) (h : 5 ≤ H) : (digs 32 (e + 1) (N / 2 ^ (H - 5))).map letter = (digs 32 e (N / 2 ^ H)).map letter ++ [letter (N / 2 ^ (H - 5) % 32)] := by
  rw [digs_succ, pow_step H h]; simp
theorem b32_end0 (l : List UInt8) (e : Nat) (h : 5 * e = 8 * l.length) : b32L l = (digs 32 e (num8 l / 2 ^ 0)).map letter := by
  have e1 : (8 * l.length + 4) / 5 = e := by omega
  rw [b32L, e1, show 5 * e - 8 * l.length = 0 by omega]; simp
theorem b32_end1 (l : List UInt8) (e H : Nat) (h : 5 * e + H = 8 * l.length) (h0 : 0 < H) (h5 : H < 5) : b32L l = (digs 32 e (num8 l / 2 ^ H)).map letter ++ [letter (num8 l * 2 ^ (5 - H) % 32)] := by
  have e1 : (8 * l.length + 4) / 5 = e + 1 := by omega
  have e2 : num8 l * 2 ^ (5 - H) / 32 = num8 l / 2 ^ H := by
    have e3 : (32 : Nat) = 2 ^ (5 - H) * 2 ^ H := by rw [← Nat.pow_add, show 5 - H + H = 5 by omega]
    rw [e3, Nat.mul_comm (num8 l), Nat.mul_div_mul_left _ _ (Nat.two_pow_pos _)]
  rw [b32L, e1, show 5 * (e + 1) - 8 * l.length = 5 - H by omega, digs_succ, e2]; simp
set_option maxHeartbeats 2000000 in
theorem b32_any (s : ByteArray) (w : World) (hs : s.size ≤ 1000000) :
    Calls Tryd.prog 31 #[.string s] w fun e w' => e = .returned (.string (bs (b32L s.data.toList))) ∧ Below w.heap.size w w' := by
  go_enter Tryd.func31, Tryd.ntmps31
  go_wp2
  go_loopw [4, 5, 6, 9] (fun n h _ i wr => ∃ (k N e H : Nat), k ≤ s.size ∧ i = .int .i64 k ∧ n = .int .u64 (w64 N) ∧ h = .int .i64 H ∧ H < 5 ∧ Hid (5 * e + H = 8 * k) ∧ Hid (N = num8 (s.data.toList.take k)) ∧ Bld w.heap.size ((digs 32 e (N / 2 ^ H)).map letter) wr ∧ Below w.heap.size w wr) (fun _ _ _ i _ => s.size - (intOf i).toNat)
  case atStart => exact ⟨0, 0, 0, 0, Nat.zero_le _, rfl, rfl, rfl, by omega, rfl, rfl, bld_new w, (Below.refl _ _).alloc (Nat.le_refl _) _⟩
  case round =>
    obtain ⟨k, N, e, H, hk, rfl, rfl, rfl, hH, HE, HN, hB, hb⟩ := hrel
    have HBd := Lib.hid hB
    have HBe := Lib.hid hb
    clear hB hb
    by_cases hlt : k < s.size
    · have HS : Hid (num8 (s.data.toList.take (k + 1)) = N * 256 + s[k].toNat) := by
        show _ = _; rw [take_snoc s k hlt, num8_snoc, HN.out]
      have r1 := or64 N 256 s[k].toNat 8 rfl (by decide) (w8_lt s[k])
      obtain ⟨M, hM⟩ : ∃ M, M = N * 256 + s[k].toNat := ⟨_, rfl⟩
      rw [← hM] at HS r1
      have HM : Hid (M / 2 ^ (H + 8) = N / 2 ^ H) := by
        show _ = _
        have hc := w8_lt s[k]
        rw [Nat.pow_add, Nat.mul_comm, ← Nat.div_div_eq_div_mul, hM, show (2 : Nat) ^ 8 = 256 from rfl, show (N * 256 + s[k].toNat) / 256 = N by omega]
      clear hM
      have r1' : bits .or .u64 (IntKind.u64.wrap (w64 N * 256)) (IntKind.u64.wrap (s[k].toNat : Int)) = w64 M := r1
      clear r1
      go_wp2
      obtain ⟨wo, rfl⟩ : ∃ wo : World, wo = wr := ⟨_, rfl⟩
      go_loopw [5] (fun h wr => ∃ (e' H' : Nat), h = .int .i64 H' ∧ H' ≤ 12 ∧ Hid (5 * e' + H' = 8 * (k + 1)) ∧ Bld w.heap.size ((digs 32 e' (M / 2 ^ H')).map letter) wr ∧ Below w.heap.size w wr) (fun h _ => (intOf h).toNat)
      case atStart => exact ⟨e, H + 8, by go_num, by omega, by have := HE.out; show _ = _; omega, by rw [HM.out]; exact HBd.out, HBe.out⟩
      case round =>
        clear HBd HBe HM HE
        obtain ⟨e', H', rfl, hH', HE', hB, hb⟩ := hrel
        have HBd := Lib.hid hB
        have HBe := Lib.hid hb
        clear hB hb r1'
        by_cases h5 : 5 ≤ H'
        · have r2 := and31 M (H' - 5) (by omega)
          have HL : Hid (((digs 32 e' (M / 2 ^ H')).map letter).length + 1 ≤ 140737488355328) := by
            show _ ≤ _; have := HE'.out; simp [digs_len]; omega
          have HX := Lib.hid (b32_step M e' H' h5)
          have hz : M / 2 ^ (H' - 5) % 32 < 32 := Nat.mod_lt _ (by decide)
          obtain ⟨z, hz'⟩ : ∃ z, z = M / 2 ^ (H' - 5) % 32 := ⟨_, rfl⟩
          rw [← hz'] at r2 hz HX
          clear hz'
          go_wp2_with fail
          refine (writeByte_any w.heap.size _ _ wr HBd.out HL.out HBe.out.size).mono ?_
          rintro x w1 ⟨rfl, hB1, hb1, _⟩
          have HB1 := Lib.hid hB1
          have Hb1 := Lib.hid (HBe.out.trans hb1)
          clear hB1 hb1
          go_wp2
          go_roundw
          case rel => exact ⟨e' + 1, H' - 5, by go_num, by omega, by have := HE'.out; show _ = _; omega, by rw [HX.out, ← letGet]; exact HB1.out, Hb1.out⟩
          case measure => simp [intOf]; omega
        · go_wp2
          go_roundw
          case rel => exact ⟨k + 1, M, e', H', by omega, by go_num, rfl, rfl, by omega, HE', HS.out.symm, HBd.out, HBe.out⟩
          case measure => simp [intOf]; omega
    · have hk' : k = s.size := by omega
      have HT : Hid (N = num8 s.data.toList) := by have := HN.out; rw [hk', take_all] at this; exact this
      have HE2 : Hid (5 * e + H = 8 * s.data.toList.length) := by show _ = _; have := HE.out; rw [hk'] at this; simpa using this
      clear hk' HN
      by_cases h0 : 0 < H
      · have HX := Lib.hid (b32_end1 s.data.toList e H HE2.out h0 hH)
        rw [← HT.out] at HX
        have r2 := shl31 N (5 - H)
        have HL : Hid (((digs 32 e (N / 2 ^ H)).map letter).length + 1 ≤ 140737488355328) := by
          show _ ≤ _; have := HE.out; simp [digs_len]; omega
        have hz : N * 2 ^ (5 - H) % 32 < 32 := Nat.mod_lt _ (by decide)
        obtain ⟨z, hz'⟩ : ∃ z, z = N * 2 ^ (5 - H) % 32 := ⟨_, rfl⟩
        rw [← hz'] at r2 hz HX
        clear hz'
        go_wp2_with fail
        refine (writeByte_any w.heap.size _ _ wr HBd.out HL.out HBe.out.size).mono ?_
        rintro x w1 ⟨rfl, hB1, hb1, _⟩
        have HB1 : Hid (Bld w.heap.size (b32L s.data.toList) w1) := by rw [HX.out, ← letGet]; exact hB1
        have Hb1 := Lib.hid (HBe.out.trans hb1)
        clear hB1 hb1
        go_wp2_with (go_at_call 27; refine (Tryd.Builder_String_any_k w.heap.size w.heap.size _ w1 HB1.out Hb1.out.size).mono ?_; rintro e w2 ⟨rfl, _, h1, _⟩)
        go_ret
        exact ⟨rfl, Hb1.out.trans h1⟩
      · have HX : Hid (b32L s.data.toList = (digs 32 e (N / 2 ^ H)).map letter) := by
          have e0 : H = 0 := by omega
          show _ = _; rw [b32_end0 s.data.toList e (by have := HE2.out; omega), ← HT.out, e0]
        have HB1 : Hid (Bld w.heap.size (b32L s.data.toList) wr) := by rw [HX.out]; exact HBd.out
        clear HX
        go_wp2_with (go_at_call 27; refine (Tryd.Builder_String_any_k w.heap.size w.heap.size _ wr HB1.out HBe.out.size).mono ?_; rintro e w2 ⟨rfl, _, h1, _⟩)
        go_ret
        exact ⟨rfl, HBe.out.trans h1⟩
end Go.Proofs.YtlegmhmmoadggaaDoor
