/- The checksum's plain laws: it is linear, its step has an inverse, it reads bits: the residue, exclusive ors, and errors within 32 bits. -/
import Derived.Test.YtmloabphhebioaaDoorDigWords
namespace Go.Proofs.YtmloabphhebioaaDoor
namespace Dg
theorem shr_xor (x y : UInt32) : shr (x ^^^ y) 1 = shr x 1 ^^^ shr y 1 := by
  apply UInt32.toNat_inj.1
  rw [UInt32.toNat_xor, shr_toNat, shr_toNat, shr_toNat, UInt32.toNat_xor, Nat.pow_one, Nat.xor_div_two]
theorem crcBit_xor (x y : UInt32) : crcBit (x ^^^ y) = crcBit x ^^^ crcBit y := by
  have h : (x ^^^ y).toNat % 2 = (x.toNat + y.toNat) % 2 := by
    rw [UInt32.toNat_xor]
    have := @Nat.xor_mod_two_pow x.toNat y.toNat 1
    simp only [Nat.pow_one] at this
    rw [this]
    rcases Nat.mod_two_eq_zero_or_one x.toNat with h1 | h1 <;> rcases Nat.mod_two_eq_zero_or_one y.toNat with h2 | h2 <;> rw [h1, h2] <;> simp <;> omega
  have e : ∀ a b c : UInt32, (a ^^^ b) ^^^ c = (a ^^^ c) ^^^ b := fun a b c => by rw [UInt32.xor_assoc, UInt32.xor_comm b c, UInt32.xor_assoc]
  have e2 : ∀ a b c : UInt32, a ^^^ c ^^^ (b ^^^ c) = a ^^^ b := fun a b c => by rw [UInt32.xor_assoc, UInt32.xor_comm b c, ← UInt32.xor_assoc c, UInt32.xor_self, UInt32.zero_xor]
  unfold crcBit
  rw [h, shr_xor]
  rcases Nat.mod_two_eq_zero_or_one x.toNat with h1 | h1 <;> rcases Nat.mod_two_eq_zero_or_one y.toNat with h2 | h2
  · rw [if_neg (by omega), if_neg (by omega), if_neg (by omega)]
  · rw [if_pos (by omega), if_neg (by omega), if_pos (by omega), UInt32.xor_assoc]
  · rw [if_pos (by omega), if_pos (by omega), if_neg (by omega), e]
  · rw [if_neg (by omega), if_pos (by omega), if_pos (by omega), e2]
theorem crcBits_xor (n : Nat) (x y : UInt32) : crcBits n (x ^^^ y) = crcBits n x ^^^ crcBits n y := by
  induction n with
  | zero => rfl
  | succ n ih => simp only [crcBits, ih, crcBit_xor]
theorem crcBit_zero {x : UInt32} (h : crcBit x = 0) : x = 0 := by
  unfold crcBit at h
  split at h
  · have h1 : shr x 1 = 0xedb88320 := by
      have h2 := congrArg (· ^^^ (0xedb88320 : UInt32)) h
      simpa [UInt32.xor_assoc] using h2
    have h2 := shr_toNat x 1
    rw [h1] at h2
    have h3 := w32_lt x
    have h4 : (0xedb88320 : UInt32).toNat = 3988292384 := by decide
    omega
  · have h2 := shr_toNat x 1
    rw [h] at h2
    have h4 : (0 : UInt32).toNat = 0 := by decide
    apply UInt32.toNat_inj.1
    omega
theorem crcBits_zero (n : Nat) {x : UInt32} (h : crcBits n x = 0) : x = 0 := by
  induction n with
  | zero => exact h
  | succ n ih => exact ih (crcBit_zero h)
theorem xor_zero {x y : UInt32} (h : x ^^^ y = 0) : x = y := by
  have := congrArg (· ^^^ y) h
  simpa [UInt32.xor_assoc] using this
theorem crcBits_inj (n : Nat) {x y : UInt32} (h : crcBits n x = crcBits n y) : x = y := by
  apply xor_zero
  apply crcBits_zero n
  rw [crcBits_xor, h, UInt32.xor_self]
theorem crcByte_xor (x y : UInt32) (a b : UInt8) : crcByte (x ^^^ y) (a ^^^ b) = crcByte x a ^^^ crcByte y b := by
  unfold crcByte
  rw [← crcBits_xor]
  congr 1
  rw [UInt8.toUInt32_xor, UInt32.xor_assoc, UInt32.xor_assoc]
  congr 1
  rw [← UInt32.xor_assoc, UInt32.xor_comm y, UInt32.xor_assoc]

/-! ### exclusive ors -/
def xor3 (a b c : List UInt8) : Nat → List UInt8
  | 0 => []
  | k + 1 => xor3 a b c k ++ [a.getD k 0 ^^^ b.getD k 0 ^^^ c.getD k 0]
theorem xor3_len (a b c : List UInt8) (k : Nat) : (xor3 a b c k).length = k := by
  induction k with
  | zero => rfl
  | succ k ih => simp [xor3, ih]
theorem take_snocD (l : List UInt8) (k : Nat) (h : k < l.length) : l.take (k + 1) = l.take k ++ [l.getD k 0] := by
  rw [List.take_succ_eq_append_getElem h, List.getD_eq_getElem?_getD, List.getElem?_eq_getElem h]; rfl
theorem crcX_snoc (l : List UInt8) (b : UInt8) : crcX (l ++ [b]) = crcByte (crcX l) b := by simp [crcX]
theorem crcX_xor3 (a b c : List UInt8) (k : Nat) (ha : k ≤ a.length) (hb : k ≤ b.length) (hc : k ≤ c.length) :
    crcX (xor3 a b c k) = crcX (a.take k) ^^^ crcX (b.take k) ^^^ crcX (c.take k) := by
  induction k with
  | zero => simp [xor3, crcX]
  | succ k ih =>
    rw [xor3, crcX_snoc, ih (by omega) (by omega) (by omega), take_snocD a k (by omega), take_snocD b k (by omega), take_snocD c k (by omega),
      crcX_snoc, crcX_snoc, crcX_snoc, crcByte_xor, crcByte_xor]
theorem crcN_xor3 (a b c : List UInt8) (k : Nat) (ha : k ≤ a.length) (hb : k ≤ b.length) (hc : k ≤ c.length) :
    ~~~ crcX (xor3 a b c k) = ~~~ crcX (a.take k) ^^^ ~~~ crcX (b.take k) ^^^ ~~~ crcX (c.take k) := by
  rw [crcX_xor3 a b c k ha hb hc]
  simp [UInt32.not_xor, UInt32.xor_not]

/-! ### bits -/
def bit32 (b : Bool) (n : Nat) : UInt32 := UInt32.ofNat (b.toNat * 2 ^ n)
theorem bit32_toNat (b : Bool) (n : Nat) (h : n < 32) : (bit32 b n).toNat = b.toNat * 2 ^ n := by
  apply of32
  have h1 : 2 ^ n ≤ 2 ^ 31 := Nat.pow_le_pow_right (by decide) (by omega)
  have h2 : b.toNat ≤ 1 := Bool.toNat_le b
  have h3 : b.toNat * 2 ^ n ≤ 1 * 2 ^ n := Nat.mul_le_mul_right _ h2
  omega
theorem crcBit_bit (b : Bool) (n : Nat) (h : n + 1 < 32) : crcBit (bit32 b (n + 1)) = bit32 b n := by
  have h1 := bit32_toNat b (n + 1) h
  unfold crcBit
  rw [if_neg (by rw [h1, Nat.pow_succ, ← Nat.mul_assoc, Nat.mul_mod_left]; decide)]
  apply UInt32.toNat_inj.1
  rw [shr_toNat, h1, bit32_toNat b n (by omega), Nat.pow_one, Nat.pow_succ, ← Nat.mul_assoc, Nat.mul_div_cancel _ (by decide)]
theorem crcBits_comm (n : Nat) (x : UInt32) : crcBits (n + 1) x = crcBits n (crcBit x) := by
  induction n with
  | zero => rfl
  | succ n ih => rw [crcBits, ih, crcBits]
theorem crcBits_bit (b : Bool) (n : Nat) (h : n < 32) : crcBits n (bit32 b n) = bit32 b 0 := by
  induction n with
  | zero => rfl
  | succ n ih => rw [crcBits_comm, crcBit_bit b n h, ih (by omega)]
def step (x : UInt32) (b : Bool) : UInt32 := crcBit (x ^^^ bit32 b 0)
/-- the word of some bits, the first one the lowest, from bit n on -/
def word : Nat → List Bool → UInt32
  | _, [] => 0
  | n, b :: l => bit32 b n ^^^ word (n + 1) l
theorem word_snoc (l : List Bool) (b : Bool) : ∀ n, word n (l ++ [b]) = word n l ^^^ bit32 b (n + l.length) := by
  induction l with
  | nil => intro n; simp [word]
  | cons a l ih => intro n; simp only [List.cons_append, word, ih, List.length_cons, UInt32.xor_assoc]; rw [show n + 1 + l.length = n + (l.length + 1) by omega]
theorem steps (x : UInt32) (k : Nat) : ∀ l : List Bool, l.length = k → k ≤ 32 → l.foldl step x = crcBits k (x ^^^ word 0 l) := by
  induction k with
  | zero => intro l hl _; obtain rfl := List.eq_nil_of_length_eq_zero hl; simp [word, crcBits]
  | succ k ih =>
    intro l hl hk
    obtain ⟨m, b, rfl⟩ : ∃ m b, l = m ++ [b] := ⟨l.dropLast, l.getLast (by intro h; simp [h] at hl), (List.dropLast_concat_getLast _).symm⟩
    have hm : m.length = k := by simpa using hl
    rw [List.foldl_append, ih m hm (by omega), List.foldl_cons, List.foldl_nil, step, word_snoc, Nat.zero_add, hm, crcBits, ← UInt32.xor_assoc, crcBits_xor, crcBits_xor, crcBits_bit b k (by omega), crcBits_xor]
theorem step_inj {x y : UInt32} (b : Bool) (h : step x b = step y b) : x = y := by
  have h1 : x ^^^ bit32 b 0 = y ^^^ bit32 b 0 := crcBits_inj 1 h
  have := congrArg (· ^^^ bit32 b 0) h1
  simpa [UInt32.xor_assoc] using this
theorem steps_inj (l : List Bool) : ∀ {x y : UInt32}, l.foldl step x = l.foldl step y → x = y := by
  induction l with
  | nil => intro x y h; exact h
  | cons b l ih => intro x y h; exact step_inj b (ih h)
/-- words of the same bits -/
theorem word_testBit (l : List Bool) : ∀ n, n + l.length ≤ 32 → ∀ i, (word n l).toNat.testBit i = (decide (n ≤ i) && l.getD (i - n) false) := by
  induction l with
  | nil => intro n _ i; simp [word]
  | cons b l ih =>
    intro n hn i
    simp only [List.length_cons] at hn
    rw [word, UInt32.toNat_xor, Nat.testBit_xor, ih (n + 1) (by omega), bit32_toNat b n (by omega)]
    by_cases h : n = i
    · subst h
      have : ¬ n + 1 ≤ n := by omega
      cases b <;> simp [this]
    · have h3 : (b.toNat * 2 ^ n).testBit i = false := by
        cases b
        · simp
        · simp [h]
      rw [h3]
      by_cases h4 : n + 1 ≤ i
      · have h5 : n ≤ i := by omega
        obtain ⟨d, hd⟩ : ∃ d, i - n = d + 1 := ⟨i - n - 1, by omega⟩
        rw [show i - (n + 1) = d by omega, hd]
        simp [h4, h5]
      · have h5 : ¬ n ≤ i := by omega
        simp [h4, h5]
theorem word_inj {u v : List Bool} (hl : u.length = v.length) (h32 : u.length ≤ 32) (h : word 0 u = word 0 v) : u = v := by
  apply List.ext_getElem hl
  intro i h1 h2
  have e1 := word_testBit u 0 (by omega) i
  have e2 := word_testBit v 0 (by omega) i
  rw [h, e2] at e1
  simpa [List.getD_eq_getElem?_getD, List.getElem?_eq_getElem h1, List.getElem?_eq_getElem h2] using e1.symm
def bitsB (b : UInt8) : List Bool := (List.range 8).map fun j => b.toNat.testBit j
def bitsL (l : List UInt8) : List Bool := l.flatMap bitsB
theorem bitsB_len (b : UInt8) : (bitsB b).length = 8 := by simp [bitsB]
theorem bitsB_word : ∀ b : UInt8, word 0 (bitsB b) = b.toUInt32 := by
  intro b
  apply UInt32.toNat_inj.1
  apply Nat.eq_of_testBit_eq
  intro i
  rw [word_testBit _ 0 (by rw [bitsB_len]; decide), UInt8.toNat_toUInt32]
  simp only [Nat.zero_le, decide_true, Bool.true_and, Nat.sub_zero, bitsB, List.getD_eq_getElem?_getD, List.getElem?_map]
  by_cases h : i < 8
  · rw [List.getElem?_range h]; rfl
  · rw [List.getElem?_eq_none (by simpa using h)]
    have h1 := w8_lt b
    have h2 : 2 ^ 8 ≤ 2 ^ i := Nat.pow_le_pow_right (by decide) (by omega)
    rw [Nat.testBit_lt_two_pow (by omega)]; rfl
theorem crcByte_bits (x : UInt32) (b : UInt8) : crcByte x b = (bitsB b).foldl step x := by
  rw [steps x 8 (bitsB b) (bitsB_len b) (by decide), bitsB_word]; rfl
theorem foldl_bits (l : List UInt8) : ∀ x : UInt32, l.foldl crcByte x = (bitsL l).foldl step x := by
  induction l with
  | nil => intro x; rfl
  | cons b l ih =>
    intro x
    show l.foldl crcByte (crcByte x b) = (bitsB b ++ bitsL l).foldl step x
    rw [ih, List.foldl_append, crcByte_bits]
theorem bitsL_len (l : List UInt8) : (bitsL l).length = 8 * l.length := by
  induction l with
  | nil => rfl
  | cons b l ih => rw [bitsL, List.flatMap_cons, List.length_append, bitsB_len]; rw [bitsL] at ih; rw [ih, List.length_cons]; omega
theorem bitsL_get (l : List UInt8) : ∀ k, (bitsL l).getD k false = (l.getD (k / 8) 0).toNat.testBit (k % 8) := by
  induction l with
  | nil => intro k; simp [bitsL]
  | cons b l ih =>
    intro k
    rw [bitsL, List.flatMap_cons, List.getD_eq_getElem?_getD]
    by_cases h : k < 8
    · rw [List.getElem?_append_left (by rw [bitsB_len]; exact h), Nat.div_eq_of_lt h, Nat.mod_eq_of_lt h, bitsB, List.getElem?_map, List.getElem?_range h]; rfl
    · rw [List.getElem?_append_right (by rw [bitsB_len]; omega), bitsB_len, ← List.getD_eq_getElem?_getD]
      have := ih (k - 8)
      rw [bitsL] at this
      rw [this, show k / 8 = (k - 8) / 8 + 1 by omega, show (k - 8) % 8 = k % 8 by omega]; rfl
/-- the checksum tells two lists of bytes that differ within 32 bits -/
theorem crcX_tells (s t : List UInt8) (hl : s.length = t.length) (k : Nat) (h : ∀ i, i < k ∨ k + 32 ≤ i → (s.getD (i / 8) 0).toNat.testBit (i % 8) = (t.getD (i / 8) 0).toNat.testBit (i % 8))
    (hc : crcX s = crcX t) : s = t := by
  have hbl : (bitsL s).length = (bitsL t).length := by rw [bitsL_len, bitsL_len, hl]
  have hb : ∀ i, i < k ∨ k + 32 ≤ i → (bitsL s).getD i false = (bitsL t).getD i false := fun i hi => by rw [bitsL_get, bitsL_get, h i hi]
  have hg : ∀ i, i < k ∨ k + 32 ≤ i → (bitsL s)[i]? = (bitsL t)[i]? := fun i hi => by
    by_cases hlt : i < (bitsL s).length
    · have := hb i hi
      simp only [List.getD_eq_getElem?_getD] at this
      rw [List.getElem?_eq_getElem hlt, List.getElem?_eq_getElem (hbl ▸ hlt)] at this ⊢
      exact congrArg some this
    · rw [List.getElem?_eq_none (by omega), List.getElem?_eq_none (by omega)]
  have e1 : (bitsL s).take k = (bitsL t).take k := by
    apply List.ext_getElem?
    intro i
    by_cases hi : i < k
    · rw [List.getElem?_take, List.getElem?_take, if_pos hi, if_pos hi, hg i (.inl hi)]
    · rw [List.getElem?_take, List.getElem?_take, if_neg hi, if_neg hi]
  have e2 : (bitsL s).drop (k + 32) = (bitsL t).drop (k + 32) := by
    apply List.ext_getElem?
    intro i
    rw [List.getElem?_drop, List.getElem?_drop, hg _ (.inr (by omega))]
  have dec : ∀ l : List Bool, l = l.take k ++ ((l.drop k).take 32 ++ l.drop (k + 32)) := fun l => by
    rw [← List.drop_drop, List.take_append_drop, List.take_append_drop]
  rw [crcX, crcX, foldl_bits, foldl_bits, dec (bitsL s), dec (bitsL t), e1, e2, List.foldl_append, List.foldl_append, List.foldl_append, List.foldl_append] at hc
  have h3 := steps_inj _ hc
  have hlen : ((bitsL s).drop k |>.take 32).length = ((bitsL t).drop k |>.take 32).length := by simp [hbl]
  have h32 : ((bitsL s).drop k |>.take 32).length ≤ 32 := by rw [List.length_take]; omega
  rw [steps _ _ _ rfl h32, steps _ _ _ hlen.symm h32] at h3
  have h4 := crcBits_inj _ h3
  have h5 : word 0 ((bitsL s).drop k |>.take 32) = word 0 ((bitsL t).drop k |>.take 32) := by
    apply xor_zero
    have := congrArg (fun z => z ^^^ (((bitsL t).take k).foldl step 4294967295 ^^^ word 0 ((bitsL t).drop k |>.take 32))) h4
    simp only [UInt32.xor_self] at this
    rw [UInt32.xor_comm (((bitsL t).take k).foldl step 4294967295) (word 0 ((bitsL t).drop k |>.take 32)), UInt32.xor_comm (((bitsL t).take k).foldl step 4294967295) (word 0 ((bitsL s).drop k |>.take 32))] at this
    rw [UInt32.xor_assoc, UInt32.xor_comm (word 0 ((bitsL t).drop k |>.take 32)) , ← UInt32.xor_assoc (((bitsL t).take k).foldl step 4294967295), UInt32.xor_self, UInt32.zero_xor] at this
    exact this
  have h6 := word_inj hlen h32 h5
  have h7 : bitsL s = bitsL t := by rw [dec (bitsL s), dec (bitsL t), e1, e2, h6]
  apply List.ext_getElem hl
  intro i h1 h2
  apply UInt8.toNat_inj.1
  apply Nat.eq_of_testBit_eq
  intro j
  by_cases hj : j < 8
  · have := bitsL_get s (8 * i + j)
    rw [h7, bitsL_get, show (8 * i + j) / 8 = i by omega, show (8 * i + j) % 8 = j by omega, List.getD_eq_getElem?_getD, List.getElem?_eq_getElem h2, List.getD_eq_getElem?_getD, List.getElem?_eq_getElem h1] at this
    exact this.symm
  · have h8 : ∀ c : UInt8, c.toNat.testBit j = false := fun c => by
      have h1 := w8_lt c
      have h2 : 2 ^ 8 ≤ 2 ^ j := Nat.pow_le_pow_right (by decide) (by omega)
      exact Nat.testBit_lt_two_pow (by omega)
    rw [h8, h8]

/-! ### the residue -/
def le4 (n : Nat) : List UInt8 := [UInt8.ofNat (n % 256), UInt8.ofNat (n / 256 % 256), UInt8.ofNat (n / 65536 % 256), UInt8.ofNat (n / 16777216)]
theorem le4_word (y : UInt32) : word 0 (bitsL (le4 y.toNat)) = y := by
  have hy := w32_lt y
  apply UInt32.toNat_inj.1
  apply Nat.eq_of_testBit_eq
  intro i
  rw [word_testBit _ 0 (by rw [bitsL_len]; show 0 + 8 * 4 ≤ 32; decide)]
  simp only [Nat.zero_le, decide_true, Bool.true_and, Nat.sub_zero]
  rw [bitsL_get]
  have hb : ∀ n, n < 256 → (UInt8.ofNat n).toNat = n := fun n h => by simp [UInt8.toNat_ofNat', Nat.mod_eq_of_lt h]
  have ht : ∀ m j, j < 8 → (m % 256).testBit j = m.testBit j := fun m j hj => by
    have := Nat.testBit_mod_two_pow m 8 j
    rw [show (256 : Nat) = 2 ^ 8 by decide, this]; simp [hj]
  have hd : ∀ m k j, (m / 2 ^ k).testBit j = m.testBit (k + j) := fun m k j => by rw [Nat.testBit_div_two_pow, Nat.add_comm]
  have hj : i % 8 < 8 := Nat.mod_lt _ (by decide)
  by_cases h : i < 32
  · have h4 : i / 8 = 0 ∨ i / 8 = 1 ∨ i / 8 = 2 ∨ i / 8 = 3 := by omega
    rcases h4 with h4 | h4 | h4 | h4 <;> rw [h4] <;> simp only [le4, List.getD_cons_zero, List.getD_cons_succ]
    · rw [hb _ (by omega), ht _ _ hj]; congr 1; omega
    · rw [hb _ (by omega), ht _ _ hj, show (256 : Nat) = 2 ^ 8 by decide, hd]; congr 1; omega
    · rw [hb _ (by omega), ht _ _ hj, show (65536 : Nat) = 2 ^ 16 by decide, hd]; congr 1; omega
    · rw [hb _ (by omega), show (16777216 : Nat) = 2 ^ 24 by decide, hd]; congr 1; omega
  · have h1 : (le4 y.toNat).getD (i / 8) 0 = 0 := by
      rw [List.getD_eq_getElem?_getD, List.getElem?_eq_none (by simp [le4]; omega)]; rfl
    have h2 : 2 ^ 32 ≤ 2 ^ i := Nat.pow_le_pow_right (by decide) (by omega)
    rw [h1, Nat.testBit_lt_two_pow (show y.toNat < 2 ^ i by omega)]; simp
theorem residue (l : List UInt8) : crcN (l ++ le4 (crcN l)) = 558161692 := by
  have h1 : crcX (l ++ le4 (crcN l)) = crcBits 32 0xffffffff := by
    rw [crcX, List.foldl_append, foldl_bits (le4 (crcN l)), steps _ 32 _ (by rw [bitsL_len]; rfl) (Nat.le_refl _), crcN, le4_word]
    congr 1
    show crcX l ^^^ ~~~ crcX l = 0xffffffff
    rw [UInt32.xor_not, UInt32.xor_self]; decide
  rw [crcN, h1]
  decide +kernel
end Dg
end Go.Proofs.YtmloabphhebioaaDoor
