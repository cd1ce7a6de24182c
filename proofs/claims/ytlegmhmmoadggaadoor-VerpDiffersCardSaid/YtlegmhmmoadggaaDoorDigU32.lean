/- digest.Unbase32. -/
import Derived.Test.YtlegmhmmoadggaaDoorDigB32
namespace Go.Proofs.YtlegmhmmoadggaaDoor
open Go.RowKit Dg
theorem vals_append (a b : List UInt8) : vals (a ++ b) = (vals a).bind fun x => (vals b).map (x ++ ·) := by
  induction a with
  | nil => simp [vals]
  | cons c a ih =>
    simp only [List.cons_append, vals]
    cases idx letters c with
    | none => rfl
    | some x => simp only [ih]; cases vals a <;> simp [Option.map_map, Function.comp_def]
theorem vals_len (l : List UInt8) : ∀ v, vals l = some v → v.length = l.length := by
  induction l with
  | nil => intro v h; simp [vals] at h; subst h; rfl
  | cons c l ih =>
    intro v h
    simp only [vals] at h
    cases hc : idx letters c with
    | none => simp [hc] at h
    | some x =>
      simp only [hc, Option.map_eq_some_iff] at h
      obtain ⟨v', h1, rfl⟩ := h
      simp [ih v' h1]
theorem vals_snoc (l : List UInt8) (c : UInt8) (v : List Nat) (x : Nat) (h : vals l = some v) (hc : idx letters c = some x) : vals (l ++ [c]) = some (v ++ [x]) := by
  rw [vals_append, h]; simp [vals, hc]
theorem vals_bad (a b : List UInt8) (c : UInt8) (hc : idx letters c = none) : vals (a ++ c :: b) = none := by
  rw [vals_append]; cases vals a <;> simp [vals, hc]
theorem vals_bad_at (s : ByteArray) (k : Nat) (h : k < s.size) (hc : idx letters s[k] = none) : vals s.data.toList = none := by
  have e : s.data.toList = s.data.toList.take k ++ s[k] :: s.data.toList.drop (k + 1) := by
    have e2 := List.drop_eq_getElem_cons (l := s.data.toList) (by simpa using h)
    have e3 : s.data.toList[k]'(by simpa using h) = s[k] := rfl
    rw [e3] at e2
    rw [← e2, List.take_append_drop]
  rw [e]; exact vals_bad _ _ _ hc
theorem index_let (c : UInt8) (w : World) :
    Calls Tryd.prog 25 #[.string ⟨#[97, 98, 99, 100, 101, 102, 103, 104, 105, 106, 107, 108, 109, 110, 111, 112, 113, 114, 115, 116, 117, 118, 119, 120, 121, 122, 50, 51, 52, 53, 54, 55]⟩, .int .u8 c.toNat] w fun e w' => e = .returned (.int .i64 (ixB letters c)) ∧ w = w' :=
  index_any _ c w
def b8 (e n : Nat) : List UInt8 := (digs 256 e n).map UInt8.ofNat
theorem b8_len (e n : Nat) : (b8 e n).length = e := by simp [b8, digs_len]
theorem b8_step (N e H : Nat) : b8 (e + 1) (N / 2 ^ H) = b8 e (N / 2 ^ (H + 8)) ++ [UInt8.ofNat (N / 2 ^ H % 256)] := by
  have e1 : N / 2 ^ H / 256 = N / 2 ^ (H + 8) := by rw [Nat.div_div_eq_div_mul, Nat.pow_add]
  rw [b8, digs_succ, e1]; simp [b8]
theorem div_five (N x H : Nat) (hx : x < 32) : (N * 32 + x) / 2 ^ (H + 5) = N / 2 ^ H := by
  rw [Nat.pow_add, Nat.mul_comm (2 ^ H), ← Nat.div_div_eq_div_mul, show (2 : Nat) ^ 5 = 32 from rfl, show (N * 32 + x) / 32 = N by omega]
set_option maxHeartbeats 2000000 in
theorem unb32_any (s : ByteArray) (w : World) (hs : s.size ≤ 1000000) :
    Calls Tryd.prog 15 #[.string s] w fun e w' => e = .returned (optS (unb32L s.data.toList)) ∧ Below w.heap.size w w' := by
  go_enter Tryd.func15, Tryd.ntmps15
  go_wp2
  go_loopw [5, 6, 7, 8, 11] (fun n h _ _ i wr => ∃ (k N e H : Nat) (v : List Nat), k ≤ s.size ∧ i = .int .i64 k ∧ n = .int .u64 (w64 N) ∧ h = .int .i64 H ∧ H < 8 ∧ Hid (5 * k = 8 * e + H) ∧ Hid (vals (s.data.toList.take k) = some v) ∧ Hid (N = num 32 v) ∧ Bld w.heap.size (b8 e (N / 2 ^ H)) wr ∧ Below w.heap.size w wr) (fun _ _ _ _ i _ => s.size - (intOf i).toNat)
  case atStart => exact ⟨0, 0, 0, 0, [], Nat.zero_le _, rfl, rfl, rfl, by omega, rfl, rfl, rfl, bld_new w, (Below.refl _ _).alloc (Nat.le_refl _) _⟩
  case round =>
    obtain ⟨k, N, e, H, v, hk, rfl, rfl, rfl, hH, HE, HV, HN, hB, hb⟩ := hrel
    have HBd := Lib.hid hB
    have HBe := Lib.hid hb
    clear hB hb
    by_cases hlt : k < s.size
    · rcases ixB_idx letters s[k] with ⟨h1, h2⟩ | ⟨x, hx, h1, h2⟩
      · have HX : Hid (unb32L s.data.toList = none) := by show _ = _; rw [unb32L, vals_bad_at s k hlt h2]
        clear h2
        go_wp2_with (go_at_call 25; refine (index_let _ _).mono ?_; rintro e w' ⟨rfl, rfl⟩)
        go_ret2
        exact ⟨by rw [HX.out]; rfl, HBe.out⟩
      · have hx32 : x < 32 := hx
        have HV2 : Hid (vals (s.data.toList.take (k + 1)) = some (v ++ [x])) := by
          show _ = _; rw [take_snoc s k hlt]; exact vals_snoc _ _ _ _ HV.out h2
        have HN2 : Hid (N * 32 + x = num 32 (v ++ [x])) := by show _ = _; rw [num_snoc, HN.out]
        have r1 : bits .or .u64 (IntKind.u64.wrap (w64 N * 32)) (IntKind.u64.wrap (x : Int)) = w64 (N * 32 + x) := or64 N 32 x 5 rfl (by decide) hx32
        have r1b : bits .or .u64 (IntKind.u64.wrap (w64 N * 32)) (x : Int) = w64 (N * 32 + x) := by
          have := or64 N 32 x 5 rfl (by decide) hx32
          rwa [show IntKind.u64.wrap (x : Int) = (x : Int) by rw [IntKind.wrap_u64]; omega] at this
        have HD := Lib.hid (div_five N x H hx32)
        obtain ⟨M, hM⟩ : ∃ M, M = N * 32 + x := ⟨_, rfl⟩
        rw [← hM] at HN2 r1 r1b HD
        have HL : Hid ((b8 e (N / 2 ^ H)).length + 1 ≤ 140737488355328) := by
          show _ ≤ _; have := HE.out; rw [b8_len]; omega
        clear hx h2 hM
        by_cases h8 : 8 ≤ H + 5
        · have HS := b8_step M e (H - 3)
          rw [show H - 3 + 8 = H + 5 by omega, HD.out] at HS
          have HS2 := Lib.hid HS
          clear HS
          have r2 := byte64 M (H - 3) (by omega)
          have hz : M / 2 ^ (H - 3) % 256 < 256 := Nat.mod_lt _ (by decide)
          obtain ⟨z, hz'⟩ : ∃ z, z = M / 2 ^ (H - 3) % 256 := ⟨_, rfl⟩
          rw [← hz'] at r2 hz HS2
          clear hz'
          go_wp2_with (go_at_call 25; refine (index_let _ _).mono ?_; rintro e w' ⟨rfl, rfl⟩)
          refine (writeByte_int w.heap.size _ _ wr HBd.out HL.out HBe.out.size (by omega) (by omega)).mono ?_
          rintro y w1 ⟨rfl, hB1, hb1, _⟩
          have HB1 : Hid (Bld w.heap.size (b8 (e + 1) (M / 2 ^ (H - 3))) w1) := by
            rw [HS2.out]; exact hB1
          have Hb1 := Lib.hid (HBe.out.trans hb1)
          clear hB1 hb1
          go_wp2
          go_roundw
          case rel => exact ⟨k + 1, M, e + 1, H - 3, v ++ [x], by omega, by go_num, rfl, by go_num, by omega, by have := HE.out; show _ = _; omega, HV2, HN2, HB1.out, Hb1.out⟩
          case measure => simp [intOf]; omega
        · go_wp2_with (go_at_call 25; refine (index_let _ _).mono ?_; rintro e w' ⟨rfl, rfl⟩)
          go_roundw
          case rel => exact ⟨k + 1, M, e, H + 5, v ++ [x], by omega, by go_num, rfl, by go_num, by omega, by have := HE.out; show _ = _; omega, HV2, HN2, by rw [HD.out]; exact HBd.out, HBe.out⟩
          case measure => simp [intOf]; omega
    · have hk' : k = s.size := by omega
      have HV2 : Hid (vals s.data.toList = some v) := by have := HV.out; rw [hk', take_all] at this; exact this
      have HL : Hid (5 * v.length % 8 = H ∧ 5 * v.length / 8 = e) := by
        have h1 := vals_len _ _ HV2.out
        have h2 := HE.out
        rw [hk'] at h2
        have h3 : s.data.toList.length = s.size := by simp
        exact ⟨by omega, by omega⟩
      have HX : Hid (unb32L s.data.toList = if 5 ≤ H ∨ N % 2 ^ H ≠ 0 then none else some (b8 e (N / 2 ^ H))) := by
        show _ = _; rw [unb32L, HV2.out]; simp only []; rw [HL.out.1, HL.out.2, ← HN.out]; rfl
      clear HV2 HL hk' HV HN HE
      by_cases h5 : 5 ≤ H
      · have HY : Hid (unb32L s.data.toList = none) := by show _ = _; rw [HX.out, if_pos (.inl h5)]
        clear HX
        go_wp2
        go_ret2
        exact ⟨by rw [HY.out]; rfl, HBe.out⟩
      · have r1 : IntKind.u64.wrap (IntKind.u64.wrap ((2 : Int) ^ H) - 1) = ((2 ^ H - 1 : Nat) : Int) := by
          have h1 : (2 : Nat) ^ H ≤ 2 ^ 5 := Nat.pow_le_pow_right (by decide) (by omega)
          have h2 : 0 < (2 : Nat) ^ H := Nat.two_pow_pos _
          have e : ((2 : Int) ^ H) = ((2 ^ H : Nat) : Int) := by simp
          rw [IntKind.wrap_u64, IntKind.wrap_u64, e]; omega
        have r2 := low64 N H (by omega) _ rfl
        rw [← r1] at r2
        clear r1
        by_cases hz : N % 2 ^ H = 0
        · have HY : Hid (unb32L s.data.toList = some (b8 e (N / 2 ^ H))) := by show _ = _; rw [HX.out, if_neg (by rintro (h | h) <;> omega)]
          have r3 : (bits .and .u64 (w64 N) (IntKind.u64.wrap (IntKind.u64.wrap (2 ^ H) - 1)) != 0) = false := by rw [r2, hz]; rfl
          clear HX r2 hz
          go_wp2_with (go_at_call 27; refine (Tryd.Builder_String_any_k w.heap.size w.heap.size _ wr HBd.out HBe.out.size).mono ?_; rintro e w1 ⟨rfl, _, h1, _⟩)
          go_ret2
          exact ⟨by rw [HY.out]; rfl, HBe.out.trans h1⟩
        · have HY : Hid (unb32L s.data.toList = none) := by show _ = _; rw [HX.out, if_pos (.inr hz)]
          have r3 : (bits .and .u64 (w64 N) (IntKind.u64.wrap (IntKind.u64.wrap (2 ^ H) - 1)) != 0) = true := by
            rw [r2]; simp only [bne_iff_ne, ne_eq]; omega
          clear HX r2 hz
          go_wp2
          go_ret2
          exact ⟨by rw [HY.out]; rfl, HBe.out⟩
end Go.Proofs.YtlegmhmmoadggaaDoor
