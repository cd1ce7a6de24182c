/- merkle.CheckGrown at any arguments; the laws' small: the walks. -/
import Derived.Test.YtmapodkdnbbjgaaDoorMkWalk7
namespace Go.Proofs.YtmapodkdnbbjgaaDoor
open Go.RowKit Mk Sl
set_option maxRecDepth 100000 in
set_option maxHeartbeats 2000000 in
theorem grownck_any (old rt : ByteArray) (m n : Int) (p : List ByteArray) (vp : Value) (w : World) (hv : SV w vp p) (hl : p.length ≤ 1000) (hn : n ≤ 9223372036854775807) (hk : OKW w) :
    Calls Tryd.prog 24 #[.string old, .int .i64 m, .string rt, .int .i64 n, vp] w fun e w' => e = .returned (.bool (checkGrownI old m rt n p)) ∧ Below w.heap.size w w' := by
  by_cases hi0 : m < 0
  · have e : checkGrownI old m rt n p = false := by unfold checkGrownI; rw [if_neg (by omega)]
    rw [e]
    clear e hv hk hn hl
    go_enter Tryd.func24, Tryd.ntmps24
    go_wp2
    go_ret
    exact ⟨rfl, Below.refl _ _⟩
  · by_cases hin : n < m
    · have e : checkGrownI old m rt n p = false := by unfold checkGrownI; rw [if_neg (by omega)]
      rw [e]
      clear e hv hk hn hl
      go_enter Tryd.func24, Tryd.ntmps24
      go_wp2
      go_ret
      exact ⟨rfl, Below.refl _ _⟩
    · obtain ⟨M, rfl⟩ := Int.eq_ofNat_of_zero_le (show 0 ≤ m by omega)
      obtain ⟨N, rfl⟩ := Int.eq_ofNat_of_zero_le (show 0 ≤ n by omega)
      have e : checkGrownI old M rt N p = checkGrown old M rt N p := by unfold checkGrownI; rw [if_pos (by omega)]; simp
      rw [e]
      have hd1 : decide ((M : Int) < 0) = false := by simp
      have hd2 : decide (N < M) = false := by simp; omega
      cases h1 : allH [old, rt] with
      | false =>
        have hf : checkGrown old M rt N p = false := by
          rw [allH_two] at h1; unfold checkGrown; rw [h1]; simp
        have HF := Lib.hid hf
        have HC1 : Hid (∀ W : World, Calls Tryd.prog 38 #[.slice (some ⟨W.heap.size, 0, none⟩) 2 2] (W.alloc (.cells #[.string old, .string rt] 9)) fun e w' => e = .returned (.bool false) ∧ (W.alloc (.cells #[.string old, .string rt] 9)) = w') := Lib.hid fun W => by
          have := hashes_any [old, rt] _ _ (two_lit (w := W) old rt); rw [h1] at this; exact this
        clear hf h1 e hv hk hn hl
        go_enter Tryd.func24, Tryd.ntmps24
        go_wp2_with fail
        refine (HC1.out _).mono ?_
        rintro e w1 ⟨rfl, rfl⟩
        go_wp2
        go_ret
        exact ⟨by rw [HF.out]; rfl, (Below.refl _ _).alloc (Nat.le_refl _) _⟩
      | true =>
        have hs : (old.size == 32 && rt.size == 32) = true := by rw [← allH_two]; exact h1
        have HC1 : Hid (∀ W : World, Calls Tryd.prog 38 #[.slice (some ⟨W.heap.size, 0, none⟩) 2 2] (W.alloc (.cells #[.string old, .string rt] 9)) fun e w' => e = .returned (.bool true) ∧ (W.alloc (.cells #[.string old, .string rt] 9)) = w') := Lib.hid fun W => by
          have := hashes_any [old, rt] _ _ (two_lit (w := W) old rt); rw [h1] at this; exact this
        cases h2 : allH p with
        | false =>
          have hf : checkGrown old M rt N p = false := by unfold checkGrown; rw [hs, h2]; simp
          have HF := Lib.hid hf
          have HC2 : Hid (∀ W, Below w.heap.size w W → Calls Tryd.prog 38 #[vp] W fun e w' => e = .returned (.bool false) ∧ W = w') := Lib.hid fun W hW => by
            have := hashes_any p _ W (hv.below hW (Nat.le_refl _)); rw [h2] at this; exact this
          clear hf h1 h2 hs e hv hk hn hl
          go_enter Tryd.func24, Tryd.ntmps24
          go_wp2_with fail
          refine (HC1.out _).mono ?_
          rintro e w1 ⟨rfl, rfl⟩
          go_wp2_with fail
          refine (HC2.out _ ((Below.refl _ _).alloc (Nat.le_refl _) _)).mono ?_
          rintro e w1 ⟨rfl, rfl⟩
          go_wp2
          go_ret
          exact ⟨by rw [HF.out]; rfl, (Below.refl _ _).alloc (Nat.le_refl _) _⟩
        | true =>
          rcases Nat.eq_zero_or_pos M with h0 | h0
          · subst h0
            have hf : checkGrown old 0 rt N p = (decide (old = H ⟨#[]⟩) && p.isEmpty) := by unfold checkGrown; rw [hs, h2]; simp
            have HF := Lib.hid hf
            obtain ⟨q, cap, rfl, _, _⟩ := hv.shape
            have HC2 : Hid (∀ W, Below w.heap.size w W → Calls Tryd.prog 38 #[.slice q p.length cap] W fun e w' => e = .returned (.bool true) ∧ W = w') := Lib.hid fun W hW => by
              have := hashes_any p _ W (hv.below hW (Nat.le_refl _)); rw [h2] at this; exact this
            have HC3 : Hid (∀ W, Below w.heap.size w W → Calls Tryd.prog 33 #[.string ⟨#[]⟩] W fun e w' => e = .returned (.string (H ⟨#[]⟩)) ∧ Below W.heap.size W w') := Lib.hid fun W hW => H_any ⟨#[]⟩ W (by show 0 ≤ _; omega) (hk.below hW)
            obtain ⟨E, hE⟩ : ∃ E, H ⟨#[]⟩ = E := ⟨_, rfl⟩
            rw [hE] at HF HC3
            have hz : p.isEmpty = decide (p.length = 0) := by cases p <;> simp
            obtain ⟨pl, hpl⟩ : ∃ k, p.length = k := ⟨_, rfl⟩
            rw [hpl] at hz HC2
            rw [hpl]
            have HZ := Lib.hid hz
            clear hf h1 h2 hs e hv hk hn hl hE hz hpl
            go_enter Tryd.func24, Tryd.ntmps24
            go_wp2_with fail
            refine (HC1.out _).mono ?_
            rintro e w1 ⟨rfl, rfl⟩
            go_wp2_with fail
            refine (HC2.out _ ((Below.refl _ _).alloc (Nat.le_refl _) _)).mono ?_
            rintro e w1 ⟨rfl, rfl⟩
            go_wp2_with fail
            refine (HC3.out _ ((Below.refl _ _).alloc (Nat.le_refl _) _)).mono ?_
            rintro e w1 ⟨rfl, b1⟩
            have HB1 : Hid (Below w.heap.size w w1) := Lib.hid (((Below.refl w.heap.size w).alloc (Nat.le_refl _) _).trans (b1.mono (by simp)))
            clear b1
            by_cases he : old.toList = E.toList
            · have hbb : (old.toList == E.toList) = true := by simp [he]
              have hee : old = E := str_ext he
              rcases Nat.eq_zero_or_pos pl with hp0 | hp0
              · have hb2 : ((pl : Int) == 0) = true := by simp; omega
                have HR : Hid (checkGrown old 0 rt N p = true) := Lib.hid (by rw [HF.out, HZ.out, hee]; simp; exact hp0)
                clear he hee hp0
                go_wp2
                go_ret
                exact ⟨by rw [HR.out]; rfl, HB1.out⟩
              · have hb2 : ((pl : Int) == 0) = false := by simp; omega
                have HR : Hid (checkGrown old 0 rt N p = false) := Lib.hid (by rw [HF.out, HZ.out, hee]; simp; omega)
                clear he hee hp0
                go_wp2
                go_ret
                exact ⟨by rw [HR.out]; rfl, HB1.out⟩
            · have hbb : (old.toList == E.toList) = false := by simp [he]
              have HR : Hid (checkGrown old 0 rt N p = false) := Lib.hid (by rw [HF.out, decide_eq_false fun h => he (by rw [h])]; rfl)
              clear he
              go_wp2
              go_ret
              exact ⟨by rw [HR.out]; rfl, HB1.out⟩
          · have hg := grown_prog old rt M N p h0 (by omega)
            refine (grownck_in old rt M N p vp w hv hl (by omega) h0 (by omega) h1 h2 hk).mono ?_
            rintro e w' ⟨rfl, hb⟩
            exact ⟨by rw [hg, hs, h2]; simp, hb⟩
theorem strings_same (a : List ByteArray) (va vb : Value) (w : World) (ha : SV w va a) (hb : SV w vb a) :
    Calls Tryd.prog 17 #[va, vb] w fun e w' => e = .returned (.bool true) ∧ ∃ m, w' = w.drewN m := by
  have := strings_any a a va vb w ha hb
  rw [decide_eq_true rfl] at this; exact this
/-- the examples, by the plain functions -/
theorem split2 : split 2 = 1 := split_unique 2 0 (by decide) (by decide)
theorem split3 : split 3 = 2 := split_unique 3 1 (by decide) (by decide)
section
variable (A B C : ByteArray)
theorem root2 : root [A, B] = join A B := by
  rw [root_step _ (by simp), show ([A, B] : List ByteArray).length = 2 from rfl, split2]
  show join (root [A]) (root [B]) = _
  rw [root_one, root_one]
theorem root3 : root [A, B, C] = join (join A B) C := by
  rw [root_step _ (by simp), show ([A, B, C] : List ByteArray).length = 3 from rfl, split3]
  show join (root [A, B]) (root [C]) = _
  rw [root2, root_one]
theorem path32 : path [A, B, C] 2 = [join A B] := by
  rw [path_right _ _ (by simp) (by rw [show ([A, B, C] : List ByteArray).length = 3 from rfl, split3]; omega), show ([A, B, C] : List ByteArray).length = 3 from rfl, split3]
  show path [C] 0 ++ [root [A, B]] = _
  rw [path_small _ _ (by simp), root2]; rfl
theorem path30 : path [A, B, C] 0 = [B, C] := by
  rw [path_left _ _ (by simp) (by rw [show ([A, B, C] : List ByteArray).length = 3 from rfl, split3]; omega), show ([A, B, C] : List ByteArray).length = 3 from rfl, split3]
  show path [A, B] 0 ++ [root [C]] = _
  rw [path_left _ _ (by simp) (by rw [show ([A, B] : List ByteArray).length = 2 from rfl, split2]; omega), show ([A, B] : List ByteArray).length = 2 from rfl, split2]
  show path [A] 0 ++ [root [B]] ++ [root [C]] = _
  rw [path_small _ _ (by simp), root_one, root_one]; rfl
theorem grow32 : growth [A, B, C] 2 true = [C] := by
  rw [growth_left _ _ _ (by simp) (by simp) (by rw [show ([A, B, C] : List ByteArray).length = 3 from rfl, split3]; omega), show ([A, B, C] : List ByteArray).length = 3 from rfl, split3]
  show growth [A, B] 2 true ++ [root [C]] = _
  rw [growth_end [A, B] 2 true (.inr rfl), root_one]; rfl
theorem grow31 : growth [A, B, C] 1 true = [B, C] := by
  rw [growth_left _ _ _ (by simp) (by simp) (by rw [show ([A, B, C] : List ByteArray).length = 3 from rfl, split3]; omega), show ([A, B, C] : List ByteArray).length = 3 from rfl, split3]
  show growth [A, B] 1 true ++ [root [C]] = _
  rw [growth_left _ _ _ (by simp) (by simp) (by rw [show ([A, B] : List ByteArray).length = 2 from rfl, split2]; omega), show ([A, B] : List ByteArray).length = 2 from rfl, split2]
  show growth [A] 1 true ++ [root [B]] ++ [root [C]] = _
  rw [growth_end [A] 1 true (.inr rfl)]; simp [root_one]
theorem rights32 : rights 3 2 = [true] := by
  rw [rights_right 3 2 (by omega) (by rw [split3]; omega), split3, rights_small _ _ (by omega)]
theorem rights31 : rights 3 1 = [false, true] := by
  rw [rights_left 3 1 (by omega) (by rw [split3]; omega), split3, rights_right 2 1 (by omega) (by rw [split2]; omega), split2, rights_small _ _ (by omega)]
theorem gright32 : gright 3 2 true = ([false], true) := by
  rw [gright_left 3 2 true (by omega) (by omega) (by rw [split3]; omega), split3, gright_end 2 2 true (by omega)]
theorem ck1 (hC : C.size = 32) : checkI (join (join A B) C) 3 2 C [join A B] = true := by
  unfold checkI
  rw [if_pos (by omega), show (3 : Int).toNat = 3 from rfl, show (2 : Int).toNat = 2 from rfl, check_prog _ _ _ _ _ (by omega), rights32]
  simp [join_size, hC, allH, upF]
theorem ck2 : checkI (join (join A B) C) 3 1 C [join A B] = false := by
  unfold checkI
  rw [if_pos (by omega), show (3 : Int).toNat = 3 from rfl, show (1 : Int).toNat = 1 from rfl, check_prog _ _ _ _ _ (by omega), rights31]
  simp
theorem ck3 (hC : C.size = 32) : checkGrownI (join A B) 2 (join (join A B) C) 3 [C] = true := by
  unfold checkGrownI
  rw [if_pos (by omega), show (3 : Int).toNat = 3 from rfl, show (2 : Int).toNat = 2 from rfl, grown_prog _ _ _ _ _ (by omega) (by omega), gright32]
  simp [join_size, hC, allH, cgP, upF, upG]
end
theorem ab_ne : leaf ⟨#[97]⟩ ≠ leaf ⟨#[98]⟩ := by decide +kernel

set_option maxRecDepth 100000 in
set_option maxHeartbeats 4000000 in
theorem small_any (w : World) (hk : OKW w) :
    Calls Tryd.prog 9 #[] w fun e w' => e = .returned (.bool true) ∧ Below w.heap.size w w' := by
  have HK := Lib.hid hk
  have HA : Hid (∀ W, Below w.heap.size w W → Calls Tryd.prog 11 #[.string ⟨#[97]⟩] W fun e w' => e = .returned (.string (leaf ⟨#[97]⟩)) ∧ Below W.heap.size W w') := Lib.hid fun W hW => leaf_any _ W (by decide) (HK.out.below hW)
  have HBb : Hid (∀ W, Below w.heap.size w W → Calls Tryd.prog 11 #[.string ⟨#[98]⟩] W fun e w' => e = .returned (.string (leaf ⟨#[98]⟩)) ∧ Below W.heap.size W w') := Lib.hid fun W hW => leaf_any _ W (by decide) (HK.out.below hW)
  have HCc : Hid (∀ W, Below w.heap.size w W → Calls Tryd.prog 11 #[.string ⟨#[99]⟩] W fun e w' => e = .returned (.string (leaf ⟨#[99]⟩)) ∧ Below W.heap.size W w') := Lib.hid fun W hW => leaf_any _ W (by decide) (HK.out.below hW)
  have hne := ab_ne
  have sA := leaf_size ⟨#[97]⟩
  have sB := leaf_size ⟨#[98]⟩
  have sC := leaf_size ⟨#[99]⟩
  obtain ⟨A, hA⟩ : ∃ A, leaf ⟨#[97]⟩ = A := ⟨_, rfl⟩
  obtain ⟨B, hB⟩ : ∃ A, leaf ⟨#[98]⟩ = A := ⟨_, rfl⟩
  obtain ⟨C, hC⟩ : ∃ A, leaf ⟨#[99]⟩ = A := ⟨_, rfl⟩
  rw [hA] at hne HA sA
  rw [hB] at hne HBb sB
  rw [hC] at HCc sC
  have hab : (!A.toList == B.toList) = true := by
    have : ¬ A.toList = B.toList := fun h => hne (str_ext h)
    simp [this]
  have sT := join_size A B
  have sR := join_size (join A B) C
  have g1 := root3 A B C; have g2 := path32 A B C; have g3 := path30 A B C; have g4 := grow32 A B C; have g5 := grow31 A B C
  have k1 := ck1 A B C sC; have k2 := ck2 A B C; have k3 := ck3 A B C sC
  obtain ⟨T, hT⟩ : ∃ T, join A B = T := ⟨_, rfl⟩
  rw [hT] at g1 g2 k1 k2 k3 sT sR
  obtain ⟨R, hR⟩ : ∃ T', join T C = T' := ⟨_, rfl⟩
  rw [hR] at g1 k1 k2 k3 sR
  have HTj : Hid (∀ W, OKW W → Calls Tryd.prog 13 #[.string A, .string B] W fun e w' => e = .returned (.string T) ∧ Below W.heap.size W w') := Lib.hid fun W hW => by
    have := join_any A B W (by omega) (by omega) hW; rw [hT] at this; exact this
  have HRj : Hid (∀ W, OKW W → Calls Tryd.prog 13 #[.string T, .string C] W fun e w' => e = .returned (.string R) ∧ Below W.heap.size W w') := Lib.hid fun W hW => by
    have := join_any T C W (by omega) (by omega) hW; rw [hR] at this; exact this
  have hSl : Short [A, B, C] 100000 := by intro s hs; simp at hs; rcases hs with rfl | rfl | rfl <;> omega
  have HRt : Hid (∀ v W, OKW W → SV W v [A, B, C] → Calls Tryd.prog 15 #[v] W fun e w' => e = .returned (.string R) ∧ Below W.heap.size W w') := Lib.hid fun v W hW hv => by
    have := root_any [A, B, C] v W (by simp) hSl hv hW; rw [g1] at this; exact this
  have HP2 : Hid (∀ v W, OKW W → SV W v [A, B, C] → Calls Tryd.prog 18 #[v, .int .i64 2] W (Ret W [T])) := Lib.hid fun v W hW hv => by
    have := path_in [A, B, C] v 2 W hv (by simp) hSl hW (by simp); rw [g2] at this; exact this
  have HP0 : Hid (∀ v W, OKW W → SV W v [A, B, C] → Calls Tryd.prog 18 #[v, .int .i64 0] W (Ret W [B, C])) := Lib.hid fun v W hW hv => by
    have := path_in [A, B, C] v 0 W hv (by simp) hSl hW (by simp); rw [g3] at this; exact this
  have HG2 : Hid (∀ v W, OKW W → SV W v [A, B, C] → Calls Tryd.prog 20 #[v, .int .i64 2] W (Ret W [C])) := Lib.hid fun v W hW hv => by
    have := grown_in [A, B, C] v 2 W hv (by simp) hSl hW (by simp) (by simp); rw [g4] at this; exact this
  have HG1 : Hid (∀ v W, OKW W → SV W v [A, B, C] → Calls Tryd.prog 20 #[v, .int .i64 1] W (Ret W [B, C])) := Lib.hid fun v W hW hv => by
    have := grown_in [A, B, C] v 1 W hv (by simp) hSl hW (by simp) (by simp); rw [g5] at this; exact this
  have HK1 : Hid (∀ v W, OKW W → SV W v [T] → Calls Tryd.prog 22 #[.string R, .int .i64 3, .int .i64 2, .string C, v] W fun e w' => e = .returned (.bool true) ∧ Below W.heap.size W w') := Lib.hid fun v W hW hv => by
    have := check_any R C 3 2 [T] v W hv (by simp) (by decide) hW; rw [k1] at this; exact this
  have HK2 : Hid (∀ v W, OKW W → SV W v [T] → Calls Tryd.prog 22 #[.string R, .int .i64 3, .int .i64 1, .string C, v] W fun e w' => e = .returned (.bool false) ∧ Below W.heap.size W w') := Lib.hid fun v W hW hv => by
    have := check_any R C 3 1 [T] v W hv (by simp) (by decide) hW; rw [k2] at this; exact this
  have HK3 : Hid (∀ v W, OKW W → SV W v [C] → Calls Tryd.prog 24 #[.string T, .int .i64 2, .string R, .int .i64 3, v] W fun e w' => e = .returned (.bool true) ∧ Below W.heap.size W w') := Lib.hid fun v W hW hv => by
    have := grownck_any T R 2 3 [C] v W hv (by simp) (by decide) hW; rw [k3] at this; exact this
  have HSA := Lib.hid sA
  clear hk hne hA hB hC hT hR g1 g2 g3 g4 g5 k1 k2 k3 sB sC sT sR hSl
  go_enter Tryd.func9, Tryd.ntmps9
  go_wp2_with fail
  refine (HA.out _ (Below.refl _ _)).mono ?_
  rintro e w1 ⟨rfl, b1⟩
  have HB1 := Lib.hid b1
  clear b1
  go_wp2_with fail
  refine (HBb.out _ HB1.out).mono ?_
  rintro e w2 ⟨rfl, b1⟩
  have HB2 : Hid (Below w.heap.size w w2) := Lib.hid (HB1.out.trans (b1.mono HB1.out.size))
  clear b1
  go_wp2_with fail
  refine (HCc.out _ HB2.out).mono ?_
  rintro e w3 ⟨rfl, b1⟩
  have HB3 : Hid (Below w.heap.size w w3) := Lib.hid (HB2.out.trans (b1.mono HB2.out.size))
  clear b1
  obtain ⟨W4, hW4⟩ : ∃ y, w3.alloc (.cells #[.string A, .string B, .string C] 9) = y := ⟨_, rfl⟩
  have hv0 : SV W4 (.slice (some ⟨w3.heap.size, 0, none⟩) 3 3) [A, B, C] := by rw [← hW4]; exact SV.lit [A, B, C] (by simp) (heap_alloc_new w3 _)
  have HB4 : Hid (Below w.heap.size w W4) := Lib.hid (by rw [← hW4]; exact HB3.out.alloc HB3.out.size _)
  have HK4 : Hid (OKW W4) := Lib.hid (HK.out.below HB4.out)
  have HV : Hid (∀ W, Below W4.heap.size W4 W → SV W (.slice (some ⟨w3.heap.size, 0, none⟩) 3 3) [A, B, C]) := Lib.hid fun W hW => hv0.below hW (Nat.le_refl _)
  obtain ⟨g, hg⟩ : ∃ g, w3.heap.size = g := ⟨_, rfl⟩
  rw [hg] at HV
  have HC0 : Hid (Below W4.heap.size W4 W4) := Lib.hid (Below.refl _ _)
  have HW4 := Lib.hid hW4
  have HG := Lib.hid hg
  clear hv0 hW4 hg
  go_wp2_with fail
  rw [HW4.out, HG.out]
  refine (HTj.out _ (HK4.out.below HC0.out)).mono ?_
  rintro e w5 ⟨rfl, b1⟩
  have HC5 : Hid (Below W4.heap.size W4 w5) := b1
  clear b1
  go_wp2_with fail
  refine (HRt.out _ _ (HK4.out.below HC5.out) (HV.out _ HC5.out)).mono ?_
  rintro e w6 ⟨rfl, b1⟩
  have HC6 : Hid (Below W4.heap.size W4 w6) := Lib.hid ((HC5.out).trans (b1.mono (HC5.out).size))
  clear b1
  go_wp2_with fail
  refine (HP2.out _ _ (HK4.out.below HC6.out) (HV.out _ HC6.out)).mono ?_
  rintro e w7 ⟨v7, rfl, ho, b1⟩
  have HC7 : Hid (Below W4.heap.size W4 w7) := Lib.hid ((HC6.out).trans (b1.mono (HC6.out).size))
  have HS7 := Lib.hid ho.sv
  clear b1 ho
  go_wp2_with fail
  refine (strings_same [T] _ _ _ (HS7.out.below ((Below.refl _ _).alloc (Nat.le_refl _) (.cells #[.string T] 9)) (Nat.le_refl _)) (SV.lit (g := w7.heap.size) [T] (by simp) (heap_alloc_new w7 _))).mono ?_
  rintro e w107 ⟨rfl, m7, rfl⟩
  have HC107 : Hid (Below W4.heap.size W4 ((w7.alloc (.cells #[.string T] 9)).drewN m7)) := Lib.hid (below_drewN (HC7.out.alloc HC7.out.size _) _)
  go_wp2_with fail
  refine (HP0.out _ _ (HK4.out.below HC107.out) (HV.out _ HC107.out)).mono ?_
  rintro e w8 ⟨v8, rfl, ho, b1⟩
  have HC8 : Hid (Below W4.heap.size W4 w8) := Lib.hid ((HC107.out).trans (b1.mono (HC107.out).size))
  have HS8 := Lib.hid ho.sv
  clear b1 ho
  go_wp2_with fail
  refine (strings_same [B, C] _ _ _ (HS8.out.below ((Below.refl _ _).alloc (Nat.le_refl _) (.cells #[.string B, .string C] 9)) (Nat.le_refl _)) (SV.lit (g := w8.heap.size) [B, C] (by simp) (heap_alloc_new w8 _))).mono ?_
  rintro e w108 ⟨rfl, m8, rfl⟩
  have HC108 : Hid (Below W4.heap.size W4 ((w8.alloc (.cells #[.string B, .string C] 9)).drewN m8)) := Lib.hid (below_drewN (HC8.out.alloc HC8.out.size _) _)
  go_wp2_with fail
  refine (HG2.out _ _ (HK4.out.below HC108.out) (HV.out _ HC108.out)).mono ?_
  rintro e w9 ⟨v9, rfl, ho, b1⟩
  have HC9 : Hid (Below W4.heap.size W4 w9) := Lib.hid ((HC108.out).trans (b1.mono (HC108.out).size))
  have HS9 := Lib.hid ho.sv
  clear b1 ho
  go_wp2_with fail
  refine (strings_same [C] _ _ _ (HS9.out.below ((Below.refl _ _).alloc (Nat.le_refl _) (.cells #[.string C] 9)) (Nat.le_refl _)) (SV.lit (g := w9.heap.size) [C] (by simp) (heap_alloc_new w9 _))).mono ?_
  rintro e w109 ⟨rfl, m9, rfl⟩
  have HC109 : Hid (Below W4.heap.size W4 ((w9.alloc (.cells #[.string C] 9)).drewN m9)) := Lib.hid (below_drewN (HC9.out.alloc HC9.out.size _) _)
  go_wp2_with fail
  refine (HG1.out _ _ (HK4.out.below HC109.out) (HV.out _ HC109.out)).mono ?_
  rintro e w10 ⟨v10, rfl, ho, b1⟩
  have HC10 : Hid (Below W4.heap.size W4 w10) := Lib.hid ((HC109.out).trans (b1.mono (HC109.out).size))
  have HS10 := Lib.hid ho.sv
  clear b1 ho
  go_wp2_with fail
  refine (strings_same [B, C] _ _ _ (HS10.out.below ((Below.refl _ _).alloc (Nat.le_refl _) (.cells #[.string B, .string C] 9)) (Nat.le_refl _)) (SV.lit (g := w10.heap.size) [B, C] (by simp) (heap_alloc_new w10 _))).mono ?_
  rintro e w110 ⟨rfl, m10, rfl⟩
  have HC110 : Hid (Below W4.heap.size W4 ((w10.alloc (.cells #[.string B, .string C] 9)).drewN m10)) := Lib.hid (below_drewN (HC10.out.alloc HC10.out.size _) _)
  have sA := HSA.out
  go_wp2_with fail
  refine (HRj.out _ (HK4.out.below HC110.out)).mono ?_
  rintro e w11 ⟨rfl, b1⟩
  have HC11 : Hid (Below W4.heap.size W4 w11) := Lib.hid ((HC110.out).trans (b1.mono (HC110.out).size))
  clear b1
  go_wp2_with fail
  refine (HK1.out _ _ (HK4.out.below (HC11.out.alloc HC11.out.size (.cells #[.string T] 9))) (SV.lit (g := w11.heap.size) [T] (by simp) (heap_alloc_new w11 _))).mono ?_
  rintro e w12 ⟨rfl, b1⟩
  have HC12 : Hid (Below W4.heap.size W4 w12) := Lib.hid (((HC11.out.alloc HC11.out.size (.cells #[.string T] 9))).trans (b1.mono ((HC11.out.alloc HC11.out.size (.cells #[.string T] 9))).size))
  clear b1
  go_wp2_with fail
  refine (HK2.out _ _ (HK4.out.below (HC12.out.alloc HC12.out.size (.cells #[.string T] 9))) (SV.lit (g := w12.heap.size) [T] (by simp) (heap_alloc_new w12 _))).mono ?_
  rintro e w13 ⟨rfl, b1⟩
  have HC13 : Hid (Below W4.heap.size W4 w13) := Lib.hid (((HC12.out.alloc HC12.out.size (.cells #[.string T] 9))).trans (b1.mono ((HC12.out.alloc HC12.out.size (.cells #[.string T] 9))).size))
  clear b1
  go_wp2_with fail
  refine (HK3.out _ _ (HK4.out.below (HC13.out.alloc HC13.out.size (.cells #[.string C] 9))) (SV.lit (g := w13.heap.size) [C] (by simp) (heap_alloc_new w13 _))).mono ?_
  rintro e w14 ⟨rfl, b1⟩
  have HC14 : Hid (Below W4.heap.size W4 w14) := Lib.hid (((HC13.out.alloc HC13.out.size (.cells #[.string C] 9))).trans (b1.mono ((HC13.out.alloc HC13.out.size (.cells #[.string C] 9))).size))
  clear b1
  go_wp2
  go_ret
  exact ⟨rfl, HB4.out.trans (HC14.out.mono HB4.out.size)⟩
end Go.Proofs.YtmapodkdnbbjgaaDoor
