/- MerkleDigests: the walk. -/
import Derived.Test.YtmapodkdnbbjgaaDoorMkWalk8
import Derived.Test.YtmapodkdnbbjgaaDoorMkRef1
namespace Go.Proofs.YtmapodkdnbbjgaaDoor
open Go.RowKit Mk Sl
theorem app_left {z a b : ByteArray} (h : z ++ a = z ++ b) : a = b := by
  have := congrArg ByteArray.data h
  simp only [ByteArray.data_append] at this
  exact ByteArray.ext (Array.append_right_inj z.data |>.1 this)
theorem z_apart (a b : ByteArray) : z0 ++ a ≠ z1 ++ b := by
  intro h
  have h1 := congrArg (fun x : ByteArray => x.data.toList) h
  simp [ByteArray.data_append, z0, z1] at h1
theorem app3 (z a b : ByteArray) : z ++ a ++ b = z ++ (a ++ b) := by
  apply ByteArray.ext; simp [ByteArray.data_append]
/-- where the examples part, two different strings have one digest -/
theorem dig_clash (a b c d : ByteArray) (h : (leaf a = leaf b ∧ a ≠ b) ∨ (join a b = join c d ∧ a ++ b ≠ c ++ d) ∨ leaf a = join c d) :
    Clash [z0 ++ a, z0 ++ b, z1 ++ a ++ b, z1 ++ c ++ d] := by
  rcases h with ⟨h1, h2⟩ | ⟨h1, h2⟩ | h1
  · exact ⟨_, by simp, z0 ++ b, by simp, fun h => h2 (app_left h), h1⟩
  · exact ⟨z1 ++ a ++ b, by simp, z1 ++ c ++ d, by simp, fun h => h2 (by rw [app3, app3] at h; exact app_left h), h1⟩
  · exact ⟨z0 ++ a, by simp, z1 ++ c ++ d, by simp, fun h => by rw [app3] at h; exact z_apart _ _ h, h1⟩
set_option maxRecDepth 100000 in
set_option maxHeartbeats 4000000 in
theorem digests_main (a b c d : ByteArray) (w : World) (hk : OKW w) (ha : a.size ≤ 40) (hb : b.size ≤ 40) (hc : c.size ≤ 40) (hd : d.size ≤ 40) :
    Calls Tryd.prog 8 #[.string a, .string b, .string c, .string d] w fun e w' => e = .returned (.bool true) ∧ Below w.heap.size w w' := by
  have HK := Lib.hid hk
  have e1 : (⟨#[0]⟩ : ByteArray) ++ a = z0 ++ a := rfl
  have e2 : (⟨#[0]⟩ : ByteArray) ++ b = z0 ++ b := rfl
  have e3 : (⟨#[1]⟩ : ByteArray) ++ a = z1 ++ a := rfl
  have e4 : (⟨#[1]⟩ : ByteArray) ++ c = z1 ++ c := rfl
  have s1 : (z0 ++ a).size = 1 + a.size := by rw [ByteArray.size_append]; rfl
  have s2 : (z0 ++ b).size = 1 + b.size := by rw [ByteArray.size_append]; rfl
  have s3 : (z1 ++ a).size = 1 + a.size := by rw [ByteArray.size_append]; rfl
  have s4 : (z1 ++ c).size = 1 + c.size := by rw [ByteArray.size_append]; rfl
  have s5 : (z1 ++ a ++ b).size = 1 + a.size + b.size := by rw [ByteArray.size_append, s3]
  have s6 : (z1 ++ c ++ d).size = 1 + c.size + d.size := by rw [ByteArray.size_append, s4]
  have hcl := dig_clash a b c d
  have hp13 : a = b → leaf a = leaf b := fun h => by rw [h]
  have hp24 : a ++ b = c ++ d → join a b = join c d := fun h => by unfold join; rw [app3, app3, h]
  have HCL : Hid (Clash [z0 ++ a, z0 ++ b, z1 ++ a ++ b, z1 ++ c ++ d] → ∀ W : World, Calls Tryd.prog 29 #[.slice (some ⟨W.heap.size, 0, none⟩) 4 4] (W.alloc (.cells #[.string (z0 ++ a), .string (z0 ++ b), .string (z1 ++ a ++ b), .string (z1 ++ c ++ d)] 9)) fun e w' => e = .returned (.bool true) ∧ Below W.heap.size W w') := Lib.hid fun hcl W => by
    refine (clash_any [z0 ++ a, z0 ++ b, z1 ++ a ++ b, z1 ++ c ++ d] _ _ (SV.lit (g := W.heap.size) _ (by simp) (heap_alloc_new W _)) (by simp) (by intro s hs; simp at hs; rcases hs with rfl | rfl | rfl | rfl <;> omega)).mono ?_
    rintro e w' ⟨q, rfl, hq, hbl⟩
    exact ⟨by rw [hq.2 hcl], ((Below.refl _ _).alloc (Nat.le_refl _) _).trans (hbl.mono (by simp))⟩
  have CL1 : Hid (∀ W, Below w.heap.size w W → Calls Tryd.prog 11 #[.string a] W fun e w' => e = .returned (.string (leaf a)) ∧ Below W.heap.size W w') := Lib.hid fun W hW => leaf_any a W (by omega) (HK.out.below hW)
  have CL2 : Hid (∀ W, Below w.heap.size w W → Calls Tryd.prog 11 #[.string b] W fun e w' => e = .returned (.string (leaf b)) ∧ Below W.heap.size W w') := Lib.hid fun W hW => leaf_any b W (by omega) (HK.out.below hW)
  have CJ1 : Hid (∀ W, Below w.heap.size w W → Calls Tryd.prog 13 #[.string a, .string b] W fun e w' => e = .returned (.string (join a b)) ∧ Below W.heap.size W w') := Lib.hid fun W hW => join_any a b W (by omega) (by omega) (HK.out.below hW)
  have CJ2 : Hid (∀ W, Below w.heap.size w W → Calls Tryd.prog 13 #[.string c, .string d] W fun e w' => e = .returned (.string (join c d)) ∧ Below W.heap.size W w') := Lib.hid fun W hW => join_any c d W (by omega) (by omega) (HK.out.below hW)
  have CS1 : Hid (∀ W, Below w.heap.size w W → Calls Tryd.prog 32 #[.string (z0 ++ a)] W fun e w' => e = .returned (.string (leaf a)) ∧ Below W.heap.size W w') := Lib.hid fun W _ => rH_any (z0 ++ a) W (by omega)
  have CS2 : Hid (∀ W, Below w.heap.size w W → Calls Tryd.prog 32 #[.string (z1 ++ a ++ b)] W fun e w' => e = .returned (.string (join a b)) ∧ Below W.heap.size W w') := Lib.hid fun W _ => rH_any (z1 ++ a ++ b) W (by omega)
  have CS3 : Hid (∀ W, Below w.heap.size w W → Calls Tryd.prog 32 #[.string ⟨#[]⟩] W fun e w' => e = .returned (.string (root [])) ∧ Below W.heap.size W w') := Lib.hid fun W _ => by rw [root_nil]; exact rH_any ⟨#[]⟩ W (by decide)
  have CR1 : Hid (∀ W, Below w.heap.size w W → Calls Tryd.prog 15 #[.slice none 0 0] W fun e w' => e = .returned (.string (root [])) ∧ Below W.heap.size W w') := Lib.hid fun W hW => root_any [] _ W (by simp) (fun s hs => by cases hs) (SV.nil W) (HK.out.below hW)
  have CR2 : Hid (∀ W : World, Below w.heap.size w W → Calls Tryd.prog 15 #[.slice (some ⟨W.heap.size, 0, none⟩) 1 1] (W.alloc (.cells #[.string a] 9)) fun e w' => e = .returned (.string a) ∧ Below W.heap.size W w') := Lib.hid fun W hW => by
    refine (root_any [a] _ _ (by simp) (by intro s hs; simp at hs; subst hs; omega) (SV.lit (g := W.heap.size) [a] (by simp) (heap_alloc_new W _)) (HK.out.below (hW.alloc hW.size _))).mono ?_
    rintro e w' ⟨rfl, hbl⟩
    exact ⟨by rw [root_one], ((Below.refl _ _).alloc (Nat.le_refl _) _).trans (hbl.mono (by simp))⟩
  obtain ⟨LA, hLA⟩ : ∃ y, leaf a = y := ⟨_, rfl⟩
  obtain ⟨LB, hLB⟩ : ∃ y, leaf b = y := ⟨_, rfl⟩
  obtain ⟨JA, hJA⟩ : ∃ y, join a b = y := ⟨_, rfl⟩
  obtain ⟨JC, hJC⟩ : ∃ y, join c d = y := ⟨_, rfl⟩
  obtain ⟨E, hE⟩ : ∃ y, root [] = y := ⟨_, rfl⟩
  rw [hLA] at CL1 CS1
  rw [hLB] at CL2
  rw [hJA] at CJ1 CS2
  rw [hJC] at CJ2
  rw [hE] at CS3 CR1
  rw [hLA, hLB] at hp13
  rw [hJA, hJC] at hp24
  rw [hLA, hLB, hJA, hJC] at hcl
  obtain ⟨AB, hAB⟩ : ∃ y, a ++ b = y := ⟨_, rfl⟩
  obtain ⟨CD, hCD⟩ : ∃ y, c ++ d = y := ⟨_, rfl⟩
  rw [hAB, hCD] at hp24 hcl
  have HHC := Lib.hid hcl
  have P13 := Lib.hid hp13
  have P24 := Lib.hid hp24
  clear hk hcl hp13 hp24 hLA hLB hJA hJC hE s5 s6
  go_enter Tryd.func8, Tryd.ntmps8
  go_wp2_with fail
  refine (small_any w HK.out).mono ?_
  rintro e w0 ⟨rfl, b1⟩
  have HB0 := Lib.hid b1
  clear b1
  go_wp2_with fail
  refine (CL1.out _ HB0.out).mono ?_
  rintro e w1 ⟨rfl, b1⟩
  have HB1 : Hid (Below w.heap.size w w1) := Lib.hid (HB0.out.trans (b1.mono HB0.out.size))
  clear b1
  go_wp2_with fail
  refine (CS1.out _ HB1.out).mono ?_
  rintro e w2 ⟨rfl, b1⟩
  have HB2 : Hid (Below w.heap.size w w2) := Lib.hid (HB1.out.trans (b1.mono HB1.out.size))
  clear b1
  go_wp2_with fail
  refine (CJ1.out _ HB2.out).mono ?_
  rintro e w3 ⟨rfl, b1⟩
  have HB3 : Hid (Below w.heap.size w w3) := Lib.hid (HB2.out.trans (b1.mono HB2.out.size))
  clear b1
  go_wp2_with fail
  refine (CS2.out _ HB3.out).mono ?_
  rintro e w4 ⟨rfl, b1⟩
  have HB4 : Hid (Below w.heap.size w w4) := Lib.hid (HB3.out.trans (b1.mono HB3.out.size))
  clear b1
  go_wp2_with fail
  refine (CR1.out _ HB4.out).mono ?_
  rintro e w5 ⟨rfl, b1⟩
  have HB5 : Hid (Below w.heap.size w w5) := Lib.hid (HB4.out.trans (b1.mono HB4.out.size))
  clear b1
  go_wp2_with fail
  refine (CS3.out _ HB5.out).mono ?_
  rintro e w6 ⟨rfl, b1⟩
  have HB6 : Hid (Below w.heap.size w w6) := Lib.hid (HB5.out.trans (b1.mono HB5.out.size))
  clear b1
  go_wp2_with fail
  refine (CR2.out _ HB6.out).mono ?_
  rintro e w7 ⟨rfl, b1⟩
  have HB7 : Hid (Below w.heap.size w w7) := Lib.hid (HB6.out.trans (b1.mono HB6.out.size))
  clear b1
  by_cases q1 : a.toList = b.toList
  · have f1 : (a.toList == b.toList) = true := by simp [q1]
    have Q1 := Lib.hid (str_ext q1)
    clear q1
    have Q3 : Hid (LA = LB) := Lib.hid (P13.out Q1.out)
    have f3 : (LA.toList == LB.toList) = true := by rw [Q3.out]; simp
    go_wp2_with fail
    refine (CL1.out _ HB7.out).mono ?_
    rintro e w8 ⟨rfl, b1⟩
    have HB8 : Hid (Below w.heap.size w w8) := Lib.hid (HB7.out.trans (b1.mono HB7.out.size))
    clear b1
    go_wp2_with fail
    refine (CL2.out _ HB8.out).mono ?_
    rintro e w9 ⟨rfl, b1⟩
    have HB9 : Hid (Below w.heap.size w w9) := Lib.hid (HB8.out.trans (b1.mono HB8.out.size))
    clear b1
    by_cases q2 : AB.toList = CD.toList
    · have f2 : (AB.toList == CD.toList) = true := by simp [q2]
      have Q2 := Lib.hid (str_ext q2)
      clear q2
      have Q4 : Hid (JA = JC) := Lib.hid (P24.out Q2.out)
      have f4 : (JA.toList == JC.toList) = true := by rw [Q4.out]; simp
      go_wp2_with fail
      refine (CJ1.out _ HB9.out).mono ?_
      rintro e w10 ⟨rfl, b1⟩
      have HB10 : Hid (Below w.heap.size w w10) := Lib.hid (HB9.out.trans (b1.mono HB9.out.size))
      clear b1
      go_wp2_with fail
      refine (CJ2.out _ HB10.out).mono ?_
      rintro e w11 ⟨rfl, b1⟩
      have HB11 : Hid (Below w.heap.size w w11) := Lib.hid (HB10.out.trans (b1.mono HB10.out.size))
      clear b1
      go_wp2_with fail
      refine (CL1.out _ HB11.out).mono ?_
      rintro e w12 ⟨rfl, b1⟩
      have HB12 : Hid (Below w.heap.size w w12) := Lib.hid (HB11.out.trans (b1.mono HB11.out.size))
      clear b1
      go_wp2_with fail
      refine (CL2.out _ HB12.out).mono ?_
      rintro e w13 ⟨rfl, b1⟩
      have HB13 : Hid (Below w.heap.size w w13) := Lib.hid (HB12.out.trans (b1.mono HB12.out.size))
      clear b1
      go_wp2_with fail
      refine (CJ1.out _ HB13.out).mono ?_
      rintro e w14 ⟨rfl, b1⟩
      have HB14 : Hid (Below w.heap.size w w14) := Lib.hid (HB13.out.trans (b1.mono HB13.out.size))
      clear b1
      go_wp2_with fail
      refine (CJ2.out _ HB14.out).mono ?_
      rintro e w15 ⟨rfl, b1⟩
      have HB15 : Hid (Below w.heap.size w w15) := Lib.hid (HB14.out.trans (b1.mono HB14.out.size))
      clear b1
      go_wp2_with fail
      refine (CL1.out _ HB15.out).mono ?_
      rintro e w16 ⟨rfl, b1⟩
      have HB16 : Hid (Below w.heap.size w w16) := Lib.hid (HB15.out.trans (b1.mono HB15.out.size))
      clear b1
      go_wp2_with fail
      refine (CJ2.out _ HB16.out).mono ?_
      rintro e w17 ⟨rfl, b1⟩
      have HB17 : Hid (Below w.heap.size w w17) := Lib.hid (HB16.out.trans (b1.mono HB16.out.size))
      clear b1
      by_cases q5 : LA.toList = JC.toList
      · have f5 : (LA.toList == JC.toList) = true := by simp [q5]
        have Q5 := Lib.hid (str_ext q5)
        clear q5
        have HCC := Lib.hid (HCL.out (HHC.out (.inr (.inr Q5.out))))
        go_wp2_with fail
        refine (HCC.out _).mono ?_
        rintro e w18 ⟨rfl, b1⟩
        have HB18 : Hid (Below w.heap.size w w18) := Lib.hid (HB17.out.trans (b1.mono HB17.out.size))
        clear b1
        go_wp2
        go_ret
        exact ⟨rfl, HB18.out⟩
      · have f5 : (LA.toList == JC.toList) = false := by simp [q5]
        have Q5 : Hid (LA ≠ JC) := Lib.hid fun h => q5 (by rw [h])
        clear q5
        go_wp2
        go_ret
        exact ⟨rfl, HB17.out⟩
    · have f2 : (AB.toList == CD.toList) = false := by simp [q2]
      have Q2 : Hid (AB ≠ CD) := Lib.hid fun h => q2 (by rw [h])
      clear q2
      go_wp2_with fail
      refine (CL1.out _ HB9.out).mono ?_
      rintro e w19 ⟨rfl, b1⟩
      have HB19 : Hid (Below w.heap.size w w19) := Lib.hid (HB9.out.trans (b1.mono HB9.out.size))
      clear b1
      go_wp2_with fail
      refine (CL2.out _ HB19.out).mono ?_
      rintro e w20 ⟨rfl, b1⟩
      have HB20 : Hid (Below w.heap.size w w20) := Lib.hid (HB19.out.trans (b1.mono HB19.out.size))
      clear b1
      go_wp2_with fail
      refine (CJ1.out _ HB20.out).mono ?_
      rintro e w21 ⟨rfl, b1⟩
      have HB21 : Hid (Below w.heap.size w w21) := Lib.hid (HB20.out.trans (b1.mono HB20.out.size))
      clear b1
      go_wp2_with fail
      refine (CJ2.out _ HB21.out).mono ?_
      rintro e w22 ⟨rfl, b1⟩
      have HB22 : Hid (Below w.heap.size w w22) := Lib.hid (HB21.out.trans (b1.mono HB21.out.size))
      clear b1
      by_cases q4 : JA.toList = JC.toList
      · have f4 : (JA.toList == JC.toList) = true := by simp [q4]
        have Q4 := Lib.hid (str_ext q4)
        clear q4
        have HCC := Lib.hid (HCL.out (HHC.out (.inr (.inl ⟨Q4.out, Q2.out⟩))))
        go_wp2_with fail
        refine (HCC.out _).mono ?_
        rintro e w23 ⟨rfl, b1⟩
        have HB23 : Hid (Below w.heap.size w w23) := Lib.hid (HB22.out.trans (b1.mono HB22.out.size))
        clear b1
        go_wp2
        go_ret
        exact ⟨rfl, HB23.out⟩
      · have f4 : (JA.toList == JC.toList) = false := by simp [q4]
        have Q4 : Hid (JA ≠ JC) := Lib.hid fun h => q4 (by rw [h])
        clear q4
        go_wp2_with fail
        refine (CL1.out _ HB22.out).mono ?_
        rintro e w24 ⟨rfl, b1⟩
        have HB24 : Hid (Below w.heap.size w w24) := Lib.hid (HB22.out.trans (b1.mono HB22.out.size))
        clear b1
        go_wp2_with fail
        refine (CJ2.out _ HB24.out).mono ?_
        rintro e w25 ⟨rfl, b1⟩
        have HB25 : Hid (Below w.heap.size w w25) := Lib.hid (HB24.out.trans (b1.mono HB24.out.size))
        clear b1
        by_cases q5 : LA.toList = JC.toList
        · have f5 : (LA.toList == JC.toList) = true := by simp [q5]
          have Q5 := Lib.hid (str_ext q5)
          clear q5
          have HCC := Lib.hid (HCL.out (HHC.out (.inr (.inr Q5.out))))
          go_wp2_with fail
          refine (HCC.out _).mono ?_
          rintro e w26 ⟨rfl, b1⟩
          have HB26 : Hid (Below w.heap.size w w26) := Lib.hid (HB25.out.trans (b1.mono HB25.out.size))
          clear b1
          go_wp2
          go_ret
          exact ⟨rfl, HB26.out⟩
        · have f5 : (LA.toList == JC.toList) = false := by simp [q5]
          have Q5 : Hid (LA ≠ JC) := Lib.hid fun h => q5 (by rw [h])
          clear q5
          go_wp2
          go_ret
          exact ⟨rfl, HB25.out⟩
  · have f1 : (a.toList == b.toList) = false := by simp [q1]
    have Q1 : Hid (a ≠ b) := Lib.hid fun h => q1 (by rw [h])
    clear q1
    by_cases q2 : AB.toList = CD.toList
    · have f2 : (AB.toList == CD.toList) = true := by simp [q2]
      have Q2 := Lib.hid (str_ext q2)
      clear q2
      have Q4 : Hid (JA = JC) := Lib.hid (P24.out Q2.out)
      have f4 : (JA.toList == JC.toList) = true := by rw [Q4.out]; simp
      go_wp2_with fail
      refine (CJ1.out _ HB7.out).mono ?_
      rintro e w27 ⟨rfl, b1⟩
      have HB27 : Hid (Below w.heap.size w w27) := Lib.hid (HB7.out.trans (b1.mono HB7.out.size))
      clear b1
      go_wp2_with fail
      refine (CJ2.out _ HB27.out).mono ?_
      rintro e w28 ⟨rfl, b1⟩
      have HB28 : Hid (Below w.heap.size w w28) := Lib.hid (HB27.out.trans (b1.mono HB27.out.size))
      clear b1
      go_wp2_with fail
      refine (CL1.out _ HB28.out).mono ?_
      rintro e w29 ⟨rfl, b1⟩
      have HB29 : Hid (Below w.heap.size w w29) := Lib.hid (HB28.out.trans (b1.mono HB28.out.size))
      clear b1
      go_wp2_with fail
      refine (CL2.out _ HB29.out).mono ?_
      rintro e w30 ⟨rfl, b1⟩
      have HB30 : Hid (Below w.heap.size w w30) := Lib.hid (HB29.out.trans (b1.mono HB29.out.size))
      clear b1
      by_cases q3 : LA.toList = LB.toList
      · have f3 : (LA.toList == LB.toList) = true := by simp [q3]
        have Q3 := Lib.hid (str_ext q3)
        clear q3
        have HCC := Lib.hid (HCL.out (HHC.out (.inl ⟨Q3.out, Q1.out⟩)))
        go_wp2_with fail
        refine (HCC.out _).mono ?_
        rintro e w31 ⟨rfl, b1⟩
        have HB31 : Hid (Below w.heap.size w w31) := Lib.hid (HB30.out.trans (b1.mono HB30.out.size))
        clear b1
        go_wp2
        go_ret
        exact ⟨rfl, HB31.out⟩
      · have f3 : (LA.toList == LB.toList) = false := by simp [q3]
        have Q3 : Hid (LA ≠ LB) := Lib.hid fun h => q3 (by rw [h])
        clear q3
        go_wp2_with fail
        refine (CJ1.out _ HB30.out).mono ?_
        rintro e w32 ⟨rfl, b1⟩
        have HB32 : Hid (Below w.heap.size w w32) := Lib.hid (HB30.out.trans (b1.mono HB30.out.size))
        clear b1
        go_wp2_with fail
        refine (CJ2.out _ HB32.out).mono ?_
        rintro e w33 ⟨rfl, b1⟩
        have HB33 : Hid (Below w.heap.size w w33) := Lib.hid (HB32.out.trans (b1.mono HB32.out.size))
        clear b1
        go_wp2_with fail
        refine (CL1.out _ HB33.out).mono ?_
        rintro e w34 ⟨rfl, b1⟩
        have HB34 : Hid (Below w.heap.size w w34) := Lib.hid (HB33.out.trans (b1.mono HB33.out.size))
        clear b1
        go_wp2_with fail
        refine (CJ2.out _ HB34.out).mono ?_
        rintro e w35 ⟨rfl, b1⟩
        have HB35 : Hid (Below w.heap.size w w35) := Lib.hid (HB34.out.trans (b1.mono HB34.out.size))
        clear b1
        by_cases q5 : LA.toList = JC.toList
        · have f5 : (LA.toList == JC.toList) = true := by simp [q5]
          have Q5 := Lib.hid (str_ext q5)
          clear q5
          have HCC := Lib.hid (HCL.out (HHC.out (.inr (.inr Q5.out))))
          go_wp2_with fail
          refine (HCC.out _).mono ?_
          rintro e w36 ⟨rfl, b1⟩
          have HB36 : Hid (Below w.heap.size w w36) := Lib.hid (HB35.out.trans (b1.mono HB35.out.size))
          clear b1
          go_wp2
          go_ret
          exact ⟨rfl, HB36.out⟩
        · have f5 : (LA.toList == JC.toList) = false := by simp [q5]
          have Q5 : Hid (LA ≠ JC) := Lib.hid fun h => q5 (by rw [h])
          clear q5
          go_wp2
          go_ret
          exact ⟨rfl, HB35.out⟩
    · have f2 : (AB.toList == CD.toList) = false := by simp [q2]
      have Q2 : Hid (AB ≠ CD) := Lib.hid fun h => q2 (by rw [h])
      clear q2
      go_wp2_with fail
      refine (CL1.out _ HB7.out).mono ?_
      rintro e w37 ⟨rfl, b1⟩
      have HB37 : Hid (Below w.heap.size w w37) := Lib.hid (HB7.out.trans (b1.mono HB7.out.size))
      clear b1
      go_wp2_with fail
      refine (CL2.out _ HB37.out).mono ?_
      rintro e w38 ⟨rfl, b1⟩
      have HB38 : Hid (Below w.heap.size w w38) := Lib.hid (HB37.out.trans (b1.mono HB37.out.size))
      clear b1
      by_cases q3 : LA.toList = LB.toList
      · have f3 : (LA.toList == LB.toList) = true := by simp [q3]
        have Q3 := Lib.hid (str_ext q3)
        clear q3
        have HCC := Lib.hid (HCL.out (HHC.out (.inl ⟨Q3.out, Q1.out⟩)))
        go_wp2_with fail
        refine (HCC.out _).mono ?_
        rintro e w39 ⟨rfl, b1⟩
        have HB39 : Hid (Below w.heap.size w w39) := Lib.hid (HB38.out.trans (b1.mono HB38.out.size))
        clear b1
        go_wp2
        go_ret
        exact ⟨rfl, HB39.out⟩
      · have f3 : (LA.toList == LB.toList) = false := by simp [q3]
        have Q3 : Hid (LA ≠ LB) := Lib.hid fun h => q3 (by rw [h])
        clear q3
        go_wp2_with fail
        refine (CJ1.out _ HB38.out).mono ?_
        rintro e w40 ⟨rfl, b1⟩
        have HB40 : Hid (Below w.heap.size w w40) := Lib.hid (HB38.out.trans (b1.mono HB38.out.size))
        clear b1
        go_wp2_with fail
        refine (CJ2.out _ HB40.out).mono ?_
        rintro e w41 ⟨rfl, b1⟩
        have HB41 : Hid (Below w.heap.size w w41) := Lib.hid (HB40.out.trans (b1.mono HB40.out.size))
        clear b1
        by_cases q4 : JA.toList = JC.toList
        · have f4 : (JA.toList == JC.toList) = true := by simp [q4]
          have Q4 := Lib.hid (str_ext q4)
          clear q4
          have HCC := Lib.hid (HCL.out (HHC.out (.inr (.inl ⟨Q4.out, Q2.out⟩))))
          go_wp2_with fail
          refine (HCC.out _).mono ?_
          rintro e w42 ⟨rfl, b1⟩
          have HB42 : Hid (Below w.heap.size w w42) := Lib.hid (HB41.out.trans (b1.mono HB41.out.size))
          clear b1
          go_wp2
          go_ret
          exact ⟨rfl, HB42.out⟩
        · have f4 : (JA.toList == JC.toList) = false := by simp [q4]
          have Q4 : Hid (JA ≠ JC) := Lib.hid fun h => q4 (by rw [h])
          clear q4
          go_wp2_with fail
          refine (CL1.out _ HB41.out).mono ?_
          rintro e w43 ⟨rfl, b1⟩
          have HB43 : Hid (Below w.heap.size w w43) := Lib.hid (HB41.out.trans (b1.mono HB41.out.size))
          clear b1
          go_wp2_with fail
          refine (CJ2.out _ HB43.out).mono ?_
          rintro e w44 ⟨rfl, b1⟩
          have HB44 : Hid (Below w.heap.size w w44) := Lib.hid (HB43.out.trans (b1.mono HB43.out.size))
          clear b1
          by_cases q5 : LA.toList = JC.toList
          · have f5 : (LA.toList == JC.toList) = true := by simp [q5]
            have Q5 := Lib.hid (str_ext q5)
            clear q5
            have HCC := Lib.hid (HCL.out (HHC.out (.inr (.inr Q5.out))))
            go_wp2_with fail
            refine (HCC.out _).mono ?_
            rintro e w45 ⟨rfl, b1⟩
            have HB45 : Hid (Below w.heap.size w w45) := Lib.hid (HB44.out.trans (b1.mono HB44.out.size))
            clear b1
            go_wp2
            go_ret
            exact ⟨rfl, HB45.out⟩
          · have f5 : (LA.toList == JC.toList) = false := by simp [q5]
            have Q5 : Hid (LA ≠ JC) := Lib.hid fun h => q5 (by rw [h])
            clear q5
            go_wp2
            go_ret
            exact ⟨rfl, HB44.out⟩
theorem digests_head (a b c d : ByteArray) (w : World) (hk : OKW w) (hs : a.size ≤ maxLen ∧ b.size ≤ maxLen ∧ c.size ≤ maxLen ∧ d.size ≤ maxLen) (h : 40 < a.size ∨ (a.size ≤ 40 ∧ 40 < b.size) ∨ (a.size ≤ 40 ∧ b.size ≤ 40 ∧ 40 < c.size) ∨ (a.size ≤ 40 ∧ b.size ≤ 40 ∧ c.size ≤ 40 ∧ 40 < d.size)) :
    Calls Tryd.prog 8 #[.string a, .string b, .string c, .string d] w fun e w' => e = .returned (.bool true) ∧ Below w.heap.size w w' := by
  unfold maxLen at hs
  obtain ⟨t1, t2, t3, t4⟩ := hs
  have HK := Lib.hid hk
  clear hk
  go_enter Tryd.func8, Tryd.ntmps8
  go_wp2_with fail
  refine (small_any w HK.out).mono ?_
  rintro e w0 ⟨rfl, b1⟩
  have HB0 := Lib.hid b1
  clear b1
  rcases h with h | ⟨h, h'⟩ | ⟨h, h', h''⟩ | ⟨h, h', h'', h3⟩
  all_goals
    go_wp2
    go_ret
    exact ⟨rfl, HB0.out⟩
theorem digests_walk (a b c d : ByteArray) (w : World) (hk : OKW w) (ha : a.size ≤ maxLen) (hb : b.size ≤ maxLen) (hc : c.size ≤ maxLen) (hd : d.size ≤ maxLen) :
    Calls Tryd.prog 8 #[.string a, .string b, .string c, .string d] w fun e w' => e = .returned (.bool true) ∧ Below w.heap.size w w' := by
  by_cases h : a.size ≤ 40 ∧ b.size ≤ 40 ∧ c.size ≤ 40 ∧ d.size ≤ 40
  · exact digests_main a b c d w hk h.1 h.2.1 h.2.2.1 h.2.2.2
  · exact digests_head a b c d w hk ⟨ha, hb, hc, hd⟩ (by omega)
end Go.Proofs.YtmapodkdnbbjgaaDoor
