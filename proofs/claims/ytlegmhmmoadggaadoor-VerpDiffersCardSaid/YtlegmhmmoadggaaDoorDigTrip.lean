/- Hexadecimal and base 32: each reads what it writes, and only that. -/
import Derived.Test.YtlegmhmmoadggaaDoorDigU32
import Derived.Test.YtlegmhmmoadggaaDoorDigB32
namespace Go.Proofs.YtlegmhmmoadggaaDoor
namespace Dg
theorem num_digs (B : Nat) (k : Nat) : ∀ n, num B (digs B k n) = n % B ^ k := by
  induction k with
  | zero => intro n; simp [digs, num, Nat.mod_one]
  | succ k ih =>
    intro n
    rw [digs, num_snoc, ih, Nat.pow_succ, Nat.mul_comm (B ^ k) B, Nat.mod_mul, Nat.mul_comm, Nat.add_comm]
theorem rev_ind {P : List Nat → Prop} (h0 : P []) (hs : ∀ l d, P l → P (l ++ [d])) (l : List Nat) : P l := by
  have h : ∀ m : List Nat, P m.reverse := by
    intro m
    induction m with
    | nil => exact h0
    | cons d m ih => rw [List.reverse_cons]; exact hs _ d ih
  have := h l.reverse
  rwa [List.reverse_reverse] at this
theorem num_lt (B : Nat) (v : List Nat) : (∀ x ∈ v, x < B) → num B v < B ^ v.length := by
  induction v using rev_ind with
  | h0 => intro _; simp [num]
  | hs l d ih =>
    intro h
    have h1 := ih fun x hx => h x (by simp [hx])
    have h2 := h d (by simp)
    rw [num_snoc, List.length_append, List.length_singleton, Nat.pow_succ]
    calc num B l * B + d < num B l * B + B := by omega
      _ = (num B l + 1) * B := by rw [Nat.add_mul, Nat.one_mul]
      _ ≤ B ^ l.length * B := Nat.mul_le_mul_right _ h1
theorem digs_num (B : Nat) (v : List Nat) : (∀ x ∈ v, x < B) → digs B v.length (num B v) = v := by
  induction v using rev_ind with
  | h0 => intro _; rfl
  | hs l d ih =>
    intro h
    have h2 := h d (by simp)
    have hB : 0 < B := by omega
    rw [List.length_append, List.length_singleton, digs_succ, num_snoc]
    rw [show (num B l * B + d) / B = num B l by rw [Nat.mul_comm, Nat.mul_add_div hB, Nat.div_eq_of_lt h2, Nat.add_zero], show (num B l * B + d) % B = d by rw [Nat.mul_comm, Nat.mul_add_mod, Nat.mod_eq_of_lt h2], ih fun x hx => h x (by simp [hx])]
theorem digs_lt (B : Nat) (hB : 0 < B) (k : Nat) : ∀ n, ∀ x ∈ digs B k n, x < B := by
  induction k with
  | zero => intro n x hx; simp [digs] at hx
  | succ k ih =>
    intro n x hx
    rw [digs_succ, List.mem_append] at hx
    rcases hx with hx | hx
    · exact ih _ x hx
    · simp at hx; subst hx; exact Nat.mod_lt _ hB
/-! letters and digits -/
theorem idx_get (l : List UInt8) (c : UInt8) (x : Nat) (h : idx l c = some x) : x < l.length ∧ l.getD x 0 = c := by
  unfold idx at h
  rw [List.findIdx?_eq_some_iff_getElem] at h
  obtain ⟨h1, h2, _⟩ := h
  refine ⟨h1, ?_⟩
  rw [List.getD_eq_getElem?_getD, List.getElem?_eq_getElem h1]
  simpa using h2
theorem idx_letter : ∀ x, x < 32 → idx letters (letter x) = some x := by decide +kernel
theorem idx_digit : ∀ x, x < 16 → idx hexDigits (hexDigits.getD x 0) = some x := by decide +kernel
theorem unhex_hex (l : List UInt8) : unhexL (hexL l) = some l := by
  induction l with
  | nil => rfl
  | cons c l ih =>
    have hc := w8_lt c
    have e : hexL (c :: l) = hexDigits.getD (c.toNat / 16) 0 :: hexDigits.getD (c.toNat % 16) 0 :: hexL l := by simp [hexL]
    rw [e, unhexL, idx_digit _ (by omega), idx_digit _ (by omega)]
    simp only [ih, Option.map_some]
    congr 2
    apply UInt8.toNat_inj.1
    rw [UInt8.toNat_ofNat', Nat.div_add_mod, Nat.mod_eq_of_lt hc]
theorem hex_unhex : ∀ (l b : List UInt8), unhexL l = some b → hexL b = l
  | [], b, h => by simp [unhexL] at h; subst h; rfl
  | [_], b, h => by simp [unhexL] at h
  | x :: y :: l, b, h => by
    rw [unhexL] at h
    split at h
    · rename_i p q hp hq
      rw [Option.map_eq_some_iff] at h
      obtain ⟨m, hm, rfl⟩ := h
      obtain ⟨h1, h2⟩ := idx_get _ _ _ hp
      obtain ⟨h3, h4⟩ := idx_get _ _ _ hq
      have h1' : p < 16 := h1
      have h3' : q < 16 := h3
      have ih := hex_unhex l m hm
      have e : hexL (UInt8.ofNat (16 * p + q) :: m) = hexDigits.getD ((16 * p + q) / 16) 0 :: hexDigits.getD ((16 * p + q) % 16) 0 :: hexL m := by simp [hexL, Nat.mod_eq_of_lt (show 16 * p + q < 256 by omega)]
      rw [e, ih, show (16 * p + q) / 16 = p by omega, show (16 * p + q) % 16 = q by omega, h2, h4]
    · cases h
theorem vals_letters (v : List Nat) : (∀ x ∈ v, x < 32) → vals (v.map letter) = some v := by
  induction v with
  | nil => intro _; rfl
  | cons x v ih =>
    intro h
    rw [List.map_cons, vals, idx_letter x (h x (by simp)), ih fun y hy => h y (by simp [hy])]; rfl
theorem letters_vals : ∀ (l : List UInt8) (v : List Nat), vals l = some v → v.map letter = l ∧ ∀ x ∈ v, x < 32
  | [], v, h => by simp [vals] at h; subst h; simp
  | c :: l, v, h => by
    rw [vals] at h
    split at h
    · rename_i x hx
      rw [Option.map_eq_some_iff] at h
      obtain ⟨m, hm, rfl⟩ := h
      obtain ⟨h1, h2⟩ := idx_get _ _ _ hx
      obtain ⟨h3, h4⟩ := letters_vals l m hm
      refine ⟨by rw [List.map_cons, h3, letter, h2], fun y hy => ?_⟩
      rcases List.mem_cons.1 hy with rfl | hy
      · exact h1
      · exact h4 y hy
    · cases h
theorem bytes_back (l : List UInt8) : (digs 256 l.length (num8 l)).map UInt8.ofNat = l := by
  have h := digs_num 256 (l.map (·.toNat)) (fun x hx => by obtain ⟨c, _, rfl⟩ := List.mem_map.1 hx; exact w8_lt c)
  rw [List.length_map] at h
  rw [num8, h, List.map_map]
  conv => rhs; rw [← List.map_id l]
  apply List.map_congr_left
  intro c _
  simp
theorem num8_ofs (v : List Nat) (h : ∀ x ∈ v, x < 256) : num8 (v.map UInt8.ofNat) = num 256 v := by
  rw [num8, List.map_map]
  congr 1
  conv => rhs; rw [← List.map_id v]
  apply List.map_congr_left
  intro x hx
  have := h x hx
  simp [UInt8.toNat_ofNat', Nat.mod_eq_of_lt this]
theorem num8_lt' (l : List UInt8) : num8 l < 2 ^ (8 * l.length) := by
  have h := num_lt 256 (l.map (·.toNat)) (fun x hx => by obtain ⟨c, _, rfl⟩ := List.mem_map.1 hx; exact w8_lt c)
  rw [List.length_map, show (256 : Nat) = 2 ^ 8 by decide, ← Nat.pow_mul] at h
  exact h
theorem pow32 (m : Nat) : 32 ^ m = 2 ^ (5 * m) := by rw [show (32 : Nat) = 2 ^ 5 by decide, ← Nat.pow_mul]
theorem b32L_len (l : List UInt8) : (b32L l).length = (8 * l.length + 4) / 5 := by simp [b32L, digs_len]
theorem unb_b32 (l : List UInt8) : unb32L (b32L l) = some l := by
  obtain ⟨m, hm⟩ : ∃ m, m = (8 * l.length + 4) / 5 := ⟨_, rfl⟩
  obtain ⟨r, hr⟩ : ∃ r, r = 5 * m - 8 * l.length := ⟨_, rfl⟩
  have h5 : 5 * m = 8 * l.length + r := by omega
  have hr5 : r < 5 := by omega
  have hlt : num8 l * 2 ^ r < 32 ^ m := by
    rw [pow32, h5, Nat.pow_add]
    exact Nat.mul_lt_mul_of_pos_right (num8_lt' l) (Nat.two_pow_pos r)
  have e : b32L l = (digs 32 m (num8 l * 2 ^ r)).map letter := by rw [b32L, ← hm, ← hr]
  have ev := vals_letters (digs 32 m (num8 l * 2 ^ r)) (digs_lt 32 (by decide) m _)
  rw [unb32L, e, ev]
  simp only [digs_len, num_digs]
  rw [Nat.mod_eq_of_lt hlt, show 5 * m % 8 = r by omega, show 5 * m / 8 = l.length by omega, Nat.mul_mod_left, Nat.mul_div_cancel _ (Nat.two_pow_pos r), bytes_back, if_neg (by omega)]
theorem b32_unb (h d : List UInt8) (hd : unb32L h = some d) : b32L d = h := by
  unfold unb32L at hd
  split at hd
  · cases hd
  · rename_i v hv
    obtain ⟨h1, h2⟩ := letters_vals h v hv
    split at hd
    · cases hd
    · rename_i hc
      simp only [not_or, Nat.not_le, Decidable.not_not] at hc
      obtain ⟨hc1, hc2⟩ := hc
      simp only [Option.some.injEq] at hd
      obtain ⟨m, hm⟩ : ∃ m, m = v.length := ⟨_, rfl⟩
      obtain ⟨r, hr⟩ : ∃ r, r = 5 * m % 8 := ⟨_, rfl⟩
      obtain ⟨n, hn⟩ : ∃ n, n = 5 * m / 8 := ⟨_, rfl⟩
      rw [← hm, ← hr] at hc1 hc2
      rw [← hm, ← hr, ← hn] at hd
      have hlen : d.length = n := by rw [← hd]; simp [digs_len]
      have hN := num_lt 32 v h2
      rw [← hm, pow32] at hN
      have hq : num 32 v / 2 ^ r < 256 ^ n := by
        rw [show (256 : Nat) = 2 ^ 8 by decide, ← Nat.pow_mul]
        apply Nat.div_lt_of_lt_mul
        rw [← Nat.pow_add, show r + 8 * n = 5 * m by omega]; exact hN
      have hnum : num8 d = num 32 v / 2 ^ r := by
        rw [← hd, num8_ofs _ (digs_lt 256 (by decide) _ _), num_digs, Nat.mod_eq_of_lt hq]
      have hmul : num 32 v / 2 ^ r * 2 ^ r = num 32 v := Nat.div_mul_cancel (Nat.dvd_of_mod_eq_zero hc2)
      rw [b32L, hlen, show (8 * n + 4) / 5 = m by omega, show 5 * m - 8 * n = r by omega, hnum, hmul, hm, digs_num 32 v h2, h1]
end Dg
end Go.Proofs.YtlegmhmmoadggaaDoor
