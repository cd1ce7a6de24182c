/- merkle: Leaf, Join, split, Root; the laws' few, leaves; Strings: the walks. -/
import Derived.Test.YtmapodkdnbbjgaaDoorMkSpec
import Derived.Test.YtmapodkdnbbjgaaDoorStrs
import Derived.Test.YtmapodkdnbbjgaaDoorShelf
import Derived.Deep.RegionHeld3
import Derived.Sort.AtCall
namespace Go.Proofs.YtmapodkdnbbjgaaDoor
open Go.RowKit Mk
/-- the digest's constants lie where they lie -/
def OKW (w : World) : Prop := KOK w ∧ 0 < w.heap.size
theorem OKW.below {w w' : World} (h : OKW w) (hb : Below w.heap.size w w') : OKW w' := ⟨h.1.below hb h.2, Nat.lt_of_lt_of_le h.2 hb.size⟩
theorem OKW.drewN {w : World} (h : OKW w) (n : Nat) : OKW (w.drewN n) := h
theorem H_any (s : ByteArray) (w : World) (hs : s.size ≤ 1000000) (hk : OKW w) :
    Calls Tryd.prog 33 #[.string s] w fun e w' => e = .returned (.string (H s)) ∧ Below w.heap.size w w' := sum_any s w hs hk.1 hk.2
theorem leaf_any (s : ByteArray) (w : World) (hs : s.size ≤ 100000) (hk : OKW w) :
    Calls Tryd.prog 11 #[.string s] w fun e w' => e = .returned (.string (leaf s)) ∧ Below w.heap.size w w' := by
  have HC := Lib.hid (H_any (z0 ++ s) w (by rw [ByteArray.size_append]; show 1 + s.size ≤ _; omega) hk)
  have e : (⟨#[0]⟩ : ByteArray) ++ s = z0 ++ s := rfl
  have hz : ¬ (9223372036854775807 < 1 + s.size) := by omega
  go_enter Tryd.func11, Tryd.ntmps11
  go_wp2_with fail
  refine HC.out.mono ?_
  rintro e w1 ⟨rfl, b⟩
  have HB := Lib.hid b
  clear b
  go_wp2
  go_ret
  exact ⟨rfl, HB.out⟩
theorem join_any (a b : ByteArray) (w : World) (ha : a.size ≤ 100000) (hb : b.size ≤ 100000) (hk : OKW w) :
    Calls Tryd.prog 13 #[.string a, .string b] w fun e w' => e = .returned (.string (join a b)) ∧ Below w.heap.size w w' := by
  have HC := Lib.hid (H_any (z1 ++ a ++ b) w (by rw [ByteArray.size_append, ByteArray.size_append]; show 1 + a.size + b.size ≤ _; omega) hk)
  have e : (⟨#[1]⟩ : ByteArray) ++ a = z1 ++ a := rfl
  have ez : (z1 ++ a).size = 1 + a.size := by rw [ByteArray.size_append]; rfl
  go_enter Tryd.func13, Tryd.ntmps13
  go_wp2_with fail
  refine HC.out.mono ?_
  rintro e w1 ⟨rfl, b⟩
  have HB := Lib.hid b
  clear b
  go_wp2
  go_ret
  exact ⟨rfl, HB.out⟩
theorem bitAux_log (f : Nat) : ∀ x, 0 < x → x < 2 ^ f → Lib.bitLenAux f x = x.log2 + 1 := by
  induction f with
  | zero => intro x h0 h1; simp at h1; omega
  | succ f ih =>
    intro x h0 h1
    rw [Lib.bitLenAux, if_neg (by omega), Nat.log2_def]
    by_cases h2 : 2 ≤ x
    · rw [if_pos h2, ih (x / 2) (by omega) (by rw [Nat.pow_succ] at h1; omega)]; omega
    · obtain rfl : x = 1 := by omega
      rw [if_neg (by decide)]
      cases f <;> simp [Lib.bitLenAux]
theorem bitLen_split (n : Nat) (h : 2 ≤ n) (hn : n ≤ 9223372036854775807) : 1 ≤ Lib.bitLen (n - 1) ∧ 2 ^ (Lib.bitLen (n - 1) - 1) = split n := by
  have h1 : Lib.bitLen (n - 1) = (n - 1).log2 + 1 := by
    exact bitAux_log 64 (n - 1) (by omega) (Nat.lt_of_lt_of_le (show n - 1 < 9223372036854775808 by omega) (by decide))
  rw [h1]
  exact ⟨by omega, by simp [split]⟩
theorem split_any (n : Nat) (w : World) (h : 2 ≤ n) (hn : n ≤ 9223372036854775807) :
    Calls Tryd.prog 34 #[.int .i64 n] w fun e w' => e = .returned (.int .i64 (split n : Nat)) ∧ w = w' := by
  obtain ⟨hb1, hb2⟩ := bitLen_split n h hn
  have hlt := split_lt n h
  have hsp := split_pos n
  have HB := Lib.hid hb2
  obtain ⟨e, he⟩ : ∃ e, Lib.bitLen (n - 1) - 1 = e := ⟨_, rfl⟩
  rw [he] at hb2
  have he20 : e < 63 := by
    rcases Nat.lt_or_ge e 63 with h1 | h1
    · exact h1
    · have := Nat.pow_le_pow_right (show 0 < 2 by decide) h1
      rw [show 2 ^ 63 = 9223372036854775808 by decide] at this; omega
  obtain ⟨m, hm⟩ : ∃ m : Int, (n : Int) - 1 = m := ⟨_, rfl⟩
  have HL : Hid (∀ W, Calls Tryd.prog 48 #[.int .u64 m] W fun e w' => e = .returned (.int .i64 (Lib.bitLen (n - 1) : Nat)) ∧ w' = W) := Lib.hid fun W => by
    have := Tryd.bits_Len m W (by omega) (by omega)
    rw [show m.toNat = n - 1 by omega] at this; exact this
  have hm0 : 0 ≤ m := by omega
  have hm1 : m ≤ 9223372036854775806 := by omega
  obtain ⟨bl, hbl⟩ : ∃ b, Lib.bitLen (n - 1) = b := ⟨_, rfl⟩
  rw [hbl] at HL he hb1
  have hble : (bl : Int) - 1 = (e : Int) := by omega
  have hz : (2 : Int) ^ e = ((split n : Nat) : Int) := by rw [← hb2]; simp
  have hpw : IntKind.i64.wrap ((split n : Nat) : Int) = ((split n : Nat) : Int) := IntWalk.i64_in _ (by omega)
  clear hb2 he hbl HB hn
  go_enter Tryd.func34, Tryd.ntmps34
  go_wp2_with fail
  refine (HL.out _).mono ?_
  rintro e w1 ⟨rfl, rfl⟩
  go_wp2
  go_ret
  exact ⟨rfl, rfl⟩
end Go.Proofs.YtmapodkdnbbjgaaDoor
