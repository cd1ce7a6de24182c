/- DigestShorts: the walk. -/
import Derived.Test.YtmloabphhebioaaDoorDigSmall
namespace Go.Proofs.YtmloabphhebioaaDoor
open Go.RowKit Dg
theorem short_digitsL (D : List UInt8) (z : D.length = 32) : ∃ G : Nat → Nat, G 8 = (D.take 8).foldl (fun n c => n * 256 + c.toNat) 0 / 16 ∧ G 0 = 0 ∧
    (∀ m, G m < 2 ^ 60) ∧ (G 8 % 16 = (D[7]'(by omega)).toNat / 16) ∧ G 8 / 16 = G 7 ∧
    ∀ m (h : m < 7), G (m + 1) % 256 = (D[m]'(by omega)).toNat ∧ G (m + 1) / 256 = G m := by
  have hf : (D.take 8).foldl (fun n c => n * 256 + c.toNat) 0 = num8 (D.take 8) := by rw [num8, num, List.foldl_map]
  have hlt : ∀ m, m ≤ 8 → num8 (D.take m) < 256 ^ m := fun m hm => by
    have h := num8_lt (D.take m)
    rw [List.length_take, z, Nat.min_eq_left (by omega)] at h
    exact h
  have hs : ∀ m (h : m < 32), num8 (D.take (m + 1)) = num8 (D.take m) * 256 + (D[m]'(by omega)).toNat := fun m h => num8_take D m (by omega)
  have hb : ∀ m (h : m < 32), (D[m]'(by omega)).toNat < 256 := fun m h => UInt8.toNat_lt _
  refine ⟨fun m => if m = 8 then num8 (D.take 8) / 16 else if m < 8 then num8 (D.take m) else 0, ?_, ?_, ?_, ?_, ?_, ?_⟩
  · simp [hf]
  · simp [num8, num]
  · intro m
    show (if m = 8 then num8 (D.take 8) / 16 else if m < 8 then num8 (D.take m) else 0) < 2 ^ 60
    by_cases h8 : m = 8
    · subst h8; rw [if_pos rfl]; have := hlt 8 (by omega); omega
    · rw [if_neg h8]
      by_cases h : m < 8
      · rw [if_pos h]
        refine Nat.lt_of_lt_of_le (hlt m (by omega)) (Nat.le_trans (Nat.pow_le_pow_right (by omega) (show m ≤ 7 by omega)) (by decide))
      · rw [if_neg h]; decide
  · have h1 := hs 7 (by omega); have h2 := hb 7 (by omega); simp only [↓reduceIte]; simp only [show 7 + 1 = 8 from rfl] at h1; omega
  · have h1 := hs 7 (by omega); have h2 := hb 7 (by omega); simp only [↓reduceIte]; simp only [show 7 + 1 = 8 from rfl] at h1; rw [if_neg (by decide), if_pos (by decide)]; omega
  · intro m h
    have h1 := hs m (by omega); have h2 := hb m (by omega)
    show (if m + 1 = 8 then num8 (D.take 8) / 16 else if m + 1 < 8 then num8 (D.take (m + 1)) else 0) % 256 = _ ∧ (if m + 1 = 8 then num8 (D.take 8) / 16 else if m + 1 < 8 then num8 (D.take (m + 1)) else 0) / 256 = (if m = 8 then num8 (D.take 8) / 16 else if m < 8 then num8 (D.take m) else 0)
    rw [if_neg (by omega), if_pos (by omega), if_neg (by omega), if_pos (by omega)]; omega
theorem short_digits (s d : ByteArray) (hd : d = bs (sumL s.data.toList)) (z : d.size = 32) : ∃ G : Nat → Nat, shortN s.data.toList = G 8 ∧ G 0 = 0 ∧
    (∀ m, G m < 2 ^ 60) ∧ (G 8 % 16 = (d[7]'(by omega)).toNat / 16) ∧ G 8 / 16 = G 7 ∧
    ∀ m (h : m < 7), G (m + 1) % 256 = (d[m]'(by omega)).toNat ∧ G (m + 1) / 256 = G m := by
  subst hd
  obtain ⟨G, h1, h2⟩ := short_digitsL (sumL s.data.toList) z
  exact ⟨G, by rw [h1]; rfl, h2⟩
set_option maxHeartbeats 2000000 in
theorem shorts_walk (s : ByteArray) (w : World) (hs : s.size ≤ maxLen) (hK : KOK w) (hg : 0 < w.heap.size) :
    Calls Tryd.prog 9 #[.string s] w fun e w' => e = .returned (.bool true) ∧ Below w.heap.size w w' := by
  unfold maxLen at hs
  have HK := Lib.hid hK
  by_cases h2 : 2000 < s.size
  · go_enter Tryd.func9, Tryd.ntmps9
    go_wp2_with fail
    refine (small_any w HK.out hg).mono ?_
    rintro e w1 ⟨rfl, hb⟩
    have HB := Lib.hid hb
    clear hb hK
    go_wp2
    go_ret
    exact ⟨rfl, HB.out⟩
  · go_enter Tryd.func9, Tryd.ntmps9
    go_wp2_with fail
    refine (small_any w HK.out hg).mono ?_
    rintro e w1 ⟨rfl, hb⟩
    have HB1 := Lib.hid hb
    have HK1 := Lib.hid (HK.out.below hb hg)
    have hg1 := Nat.lt_of_lt_of_le hg hb.size
    clear hb hK
    have HS : Hid (s.size ≤ 1000000) := by show _ ≤ _; omega
    go_wp2_with fail
    refine (sum_any s w1 HS.out HK1.out hg1).mono ?_
    rintro e w2 ⟨rfl, hb⟩
    have HB2 := Lib.hid (HB1.out.trans (hb.mono HB1.out.size))
    have HK2 := Lib.hid (HK.out.below HB2.out hg)
    have hg2 := Nat.lt_of_lt_of_le hg HB2.out.size
    clear hb
    have z1 : (bs (sumL s.data.toList)).size = 32 := sumL_len _
    go_wp2_with fail
    refine (short_any s w2 HS.out HK2.out hg2).mono ?_
    rintro e w3 ⟨rfl, hb⟩
    have HB3 := Lib.hid (HB2.out.trans (hb.mono HB2.out.size))
    clear hb
    obtain ⟨d, hD⟩ : ∃ d, d = bs (sumL s.data.toList) := ⟨_, rfl⟩
    rw [← hD] at z1
    obtain ⟨G, e0, g0, gl, m8, q8, mq⟩ := short_digits s d hD z1
    rw [e0, ← hD]
    have M8 := Lib.hid m8; have Q8 := Lib.hid q8; have MQ := Lib.hid mq; have GL := Lib.hid gl; have G0 := Lib.hid g0
    clear hD e0 m8 q8 mq gl g0
    go_wp2
    go_loop [5, 6, 7] (fun n i _ => ∃ m : Nat, m ≤ 8 ∧ i = .int .i64 ((m : Int) - 1) ∧ n = .int .i64 (G m)) (fun _ i _ => (intOf i + 1).toNat)
    case atStart => exact ⟨8, by omega, rfl, rfl⟩
    case round =>
      obtain ⟨m, hm, rfl, rfl⟩ := hrel
      by_cases hz : m = 0
      · subst hz
        have r0 := G0.out
        go_wp2
        go_ret
        exact ⟨rfl, HB3.out⟩
      · obtain ⟨j, rfl⟩ : ∃ j, m = j + 1 := ⟨m - 1, by omega⟩
        have ei : ((j + 1 : Nat) : Int) - 1 = (j : Int) := by omega
        rw [ei]
        clear ei
        have hj : j < d.size := by omega
        have l1 : G (j + 1) < 2 ^ 60 := GL.out _
        by_cases h7 : j = 7
        · subst h7
          have m1 : G (7 + 1) % 16 = d[7].toNat / 16 := M8.out
          have m2 : G (7 + 1) / 16 = G 7 := Q8.out
          obtain ⟨x, hx⟩ : ∃ x, x = G (7 + 1) := ⟨_, rfl⟩
          obtain ⟨y, hy⟩ : ∃ y, y = G 7 := ⟨_, rfl⟩
          rw [← hx] at m1 m2 l1 ⊢
          have HY := Lib.hid hy
          rw [← hy] at m2
          clear hx hy
          go_wp2
          go_round
          case rel => exact ⟨7, by omega, rfl, by rw [← HY.out, ← m2]; rfl⟩
          case measure => simp [intOf]
        · have m1 : G (j + 1) % 256 = d[j].toNat := (MQ.out j (by omega)).1
          have m2 : G (j + 1) / 256 = G j := (MQ.out j (by omega)).2
          have e7 : ((j : Int) == 7) = false := by simpa using (show ¬ (j : Int) = 7 by omega)
          obtain ⟨x, hx⟩ : ∃ x, x = G (j + 1) := ⟨_, rfl⟩
          obtain ⟨y, hy⟩ : ∃ y, y = G j := ⟨_, rfl⟩
          rw [← hx] at m1 m2 l1 ⊢
          have HY := Lib.hid hy
          rw [← hy] at m2
          clear hx hy h7
          go_wp2
          go_round
          case rel => exact ⟨j, by omega, rfl, by rw [← HY.out, ← m2]; rfl⟩
          case measure => simp [intOf]
end Go.Proofs.YtmloabphhebioaaDoor
