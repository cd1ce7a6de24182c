/- MerkleTells: the walk. -/
import Derived.Test.YtmapodkdnbbjgaaDoorMkRef5
namespace Go.Proofs.YtmapodkdnbbjgaaDoor
open Go.RowKit Mk Sl
theorem wf_top {n : Int} (h : (Lit.int .i64 n).wf = true) : n ≤ 9223372036854775807 := by
  simp [Lit.wf, IntKind.min, IntKind.max, IntKind.signed, IntKind.bits] at h
  omega
set_option maxRecDepth 100000 in
set_option maxHeartbeats 2000000 in
theorem mtells_head (l p : List ByteArray) (vl vp : Value) (i n : Int) (a b : ByteArray) (w : World) (hv : SV w vl l) (hp : SV w vp p) (hk : OKW w) (ha : a.size ≤ maxLen) (hb : b.size ≤ maxLen)
    (bad : fewB l = false ∨ (fewB l = true ∧ fewB p = false) ∨ (fewB l = true ∧ fewB p = true ∧ 40 < a.size) ∨ (fewB l = true ∧ fewB p = true ∧ a.size ≤ 40 ∧ 40 < b.size)) :
    Calls Tryd.prog 3 #[vl, vp, .int .i64 i, .int .i64 n, .string a, .string b] w fun e w' => e = .returned (.bool true) ∧ Below w.heap.size w w' := by
  unfold maxLen at ha hb
  have HK := Lib.hid hk
  have C1 : Hid (∀ W, Below w.heap.size w W → Calls Tryd.prog 10 #[vl] W fun e w' => e = .returned (.bool (fewB l)) ∧ W = w') := Lib.hid fun W hW => few_any l _ W (hv.below hW (Nat.le_refl _))
  have C2 : Hid (∀ W, Below w.heap.size w W → Calls Tryd.prog 10 #[vp] W fun e w' => e = .returned (.bool (fewB p)) ∧ W = w') := Lib.hid fun W hW => few_any p _ W (hp.below hW (Nat.le_refl _))
  clear hk hv hp
  rcases bad with h | ⟨h, h'⟩ | ⟨h, h', h''⟩ | ⟨h, h', h'', h3⟩
  · rw [h] at C1
    clear h
    go_enter Tryd.func3, Tryd.ntmps3
    go_wp2_with fail
    refine (small_any w HK.out).mono ?_
    rintro e w0 ⟨rfl, b1⟩
    have HB0 := Lib.hid b1
    clear b1
    go_wp2_with fail
    refine (C1.out _ HB0.out).mono ?_
    rintro e w1 ⟨rfl, rfl⟩
    go_wp2
    go_ret
    exact ⟨rfl, HB0.out⟩
  · rw [h] at C1
    rw [h'] at C2
    clear h h'
    go_enter Tryd.func3, Tryd.ntmps3
    go_wp2_with fail
    refine (small_any w HK.out).mono ?_
    rintro e w0 ⟨rfl, b1⟩
    have HB0 := Lib.hid b1
    clear b1
    go_wp2_with fail
    refine (C1.out _ HB0.out).mono ?_
    rintro e w1 ⟨rfl, rfl⟩
    go_wp2_with fail
    refine (C2.out _ HB0.out).mono ?_
    rintro e w1 ⟨rfl, rfl⟩
    go_wp2
    go_ret
    exact ⟨rfl, HB0.out⟩
  · rw [h] at C1
    rw [h'] at C2
    clear h h'
    go_enter Tryd.func3, Tryd.ntmps3
    go_wp2_with fail
    refine (small_any w HK.out).mono ?_
    rintro e w0 ⟨rfl, b1⟩
    have HB0 := Lib.hid b1
    clear b1
    go_wp2_with fail
    refine (C1.out _ HB0.out).mono ?_
    rintro e w1 ⟨rfl, rfl⟩
    go_wp2_with fail
    refine (C2.out _ HB0.out).mono ?_
    rintro e w1 ⟨rfl, rfl⟩
    go_wp2
    go_ret
    exact ⟨rfl, HB0.out⟩
  · rw [h] at C1
    rw [h'] at C2
    clear h h'
    go_enter Tryd.func3, Tryd.ntmps3
    go_wp2_with fail
    refine (small_any w HK.out).mono ?_
    rintro e w0 ⟨rfl, b1⟩
    have HB0 := Lib.hid b1
    clear b1
    go_wp2_with fail
    refine (C1.out _ HB0.out).mono ?_
    rintro e w1 ⟨rfl, rfl⟩
    go_wp2_with fail
    refine (C2.out _ HB0.out).mono ?_
    rintro e w1 ⟨rfl, rfl⟩
    go_wp2
    go_ret
    exact ⟨rfl, HB0.out⟩
set_option maxRecDepth 100000 in
set_option maxHeartbeats 4000000 in
theorem mtells_main (l p : List ByteArray) (vl vp : Value) (i n : Int) (a b : ByteArray) (w : World) (hv : SV w vl l) (hp : SV w vp p) (hk : OKW w) (hn : n ≤ 9223372036854775807)
    (h1 : fewB l = true) (h2 : fewB p = true) (ha : a.size ≤ 40) (hb : b.size ≤ 40) :
    Calls Tryd.prog 3 #[vl, vp, .int .i64 i, .int .i64 n, .string a, .string b] w fun e w' => e = .returned (.bool true) ∧ Below w.heap.size w w' := by
  have HV := Lib.hid hv
  have HP := Lib.hid hp
  have HK := Lib.hid hk
  obtain ⟨sl, ll⟩ := few_short h1
  obtain ⟨sp, lp⟩ := few_short h2
  have SL : Hid (Short l 100000) := Lib.hid fun s hs => Nat.le_trans (sl s hs) (by omega)
  have SP : Hid (Short p 100000) := Lib.hid fun s hs => Nat.le_trans (sp s hs) (by omega)
  have C1 : Hid (∀ W, Below w.heap.size w W → Calls Tryd.prog 10 #[vl] W fun e w' => e = .returned (.bool true) ∧ W = w') := Lib.hid fun W hW => by
    have := few_any l _ W (HV.out.below hW (Nat.le_refl _)); rw [h1] at this; exact this
  have C2 : Hid (∀ W, Below w.heap.size w W → Calls Tryd.prog 10 #[vp] W fun e w' => e = .returned (.bool true) ∧ W = w') := Lib.hid fun W hW => by
    have := few_any p _ W (HP.out.below hW (Nat.le_refl _)); rw [h2] at this; exact this
  have D0 : Hid (∀ W, Below w.heap.size w W → Calls Tryd.prog 11 #[.string a] W fun e w' => e = .returned (.string (leaf a)) ∧ Below W.heap.size W w') := Lib.hid fun W hW => leaf_any a W (by omega) (HK.out.below hW)
  have D1 : Hid (∀ W, Below w.heap.size w W → Calls Tryd.prog 12 #[.string a] W fun e w' => e = .returned (.string (leaf a)) ∧ Below W.heap.size W w') := Lib.hid fun W hW => rleaf_any a W (by omega)
  have D2 : Hid (∀ W, Below w.heap.size w W → Calls Tryd.prog 13 #[.string a, .string b] W fun e w' => e = .returned (.string (join a b)) ∧ Below W.heap.size W w') := Lib.hid fun W hW => join_any a b W (by omega) (by omega) (HK.out.below hW)
  have D3 : Hid (∀ W, Below w.heap.size w W → Calls Tryd.prog 14 #[.string a, .string b] W fun e w' => e = .returned (.string (join a b)) ∧ Below W.heap.size W w') := Lib.hid fun W hW => rjoin_any a b W (by omega) (by omega)
  have D4 : Hid (∀ W, Below w.heap.size w W → Calls Tryd.prog 15 #[vl] W fun e w' => e = .returned (.string (root l)) ∧ Below W.heap.size W w') := Lib.hid fun W hW => root_any l _ W (by omega) SL.out (HV.out.below hW (Nat.le_refl _)) (HK.out.below hW)
  have D5 : Hid (∀ W, Below w.heap.size w W → Calls Tryd.prog 16 #[vl] W fun e w' => e = .returned (.string (root l)) ∧ Below W.heap.size W w') := Lib.hid fun W hW => rroot_any l _ W (by omega) SL.out (HV.out.below hW (Nat.le_refl _))
  have D6 : Hid (∀ W, Below w.heap.size w W → Calls Tryd.prog 22 #[.string a, .int .i64 n, .int .i64 i, .string b, vp] W fun e w' => e = .returned (.bool (checkI a n i b p)) ∧ Below W.heap.size W w') := Lib.hid fun W hW => check_any a b n i p _ W (HP.out.below hW (Nat.le_refl _)) (by omega) hn (HK.out.below hW)
  have D7 : Hid (∀ W, Below w.heap.size w W → Calls Tryd.prog 23 #[.string a, .int .i64 n, .int .i64 i, .string b, vp] W fun e w' => e = .returned (.bool (checkI a n i b p)) ∧ Below W.heap.size W w') := Lib.hid fun W hW => rcheck_any a b n i p _ W (HP.out.below hW (Nat.le_refl _)) (by omega) hn
  have D8 : Hid (∀ W, Below w.heap.size w W → Calls Tryd.prog 24 #[.string a, .int .i64 i, .string b, .int .i64 n, vp] W fun e w' => e = .returned (.bool (checkGrownI a i b n p)) ∧ Below W.heap.size W w') := Lib.hid fun W hW => grownck_any a b i n p _ W (HP.out.below hW (Nat.le_refl _)) (by omega) hn (HK.out.below hW)
  have D9 : Hid (∀ W, Below w.heap.size w W → Calls Tryd.prog 25 #[.string a, .int .i64 i, .string b, .int .i64 n, vp] W fun e w' => e = .returned (.bool (checkGrownI a i b n p)) ∧ Below W.heap.size W w') := Lib.hid fun W hW => rgrownck_any b a n i p _ W (HP.out.below hW (Nat.le_refl _)) (by omega) hn
  have E0 : Hid (∀ W, Below w.heap.size w W → Calls Tryd.prog 18 #[vl, .int .i64 i] W (Ret W (pathI l i))) := Lib.hid fun W hW => path_any l _ i W (HV.out.below hW (Nat.le_refl _)) (by omega) SL.out (HK.out.below hW)
  have E1 : Hid (∀ W, Below w.heap.size w W → Calls Tryd.prog 19 #[vl, .int .i64 i] W (Ret W (pathI l i))) := Lib.hid fun W hW => rpath_any l _ i W (by omega) SL.out (HV.out.below hW (Nat.le_refl _))
  have E2 : Hid (∀ W, Below w.heap.size w W → Calls Tryd.prog 20 #[vl, .int .i64 i] W (Ret W (growthI l i))) := Lib.hid fun W hW => grown_any l _ i W (HV.out.below hW (Nat.le_refl _)) (by omega) SL.out (HK.out.below hW)
  have E3 : Hid (∀ W, Below w.heap.size w W → Calls Tryd.prog 21 #[vl, .int .i64 i] W (Ret W (growthI l i))) := Lib.hid fun W hW => rgrown_any l _ i W (by omega) SL.out (HV.out.below hW (Nat.le_refl _))
  obtain ⟨LA, hLA⟩ : ∃ y, leaf a = y := ⟨_, rfl⟩
  obtain ⟨JA, hJA⟩ : ∃ y, join a b = y := ⟨_, rfl⟩
  obtain ⟨RL, hRL⟩ : ∃ y, root l = y := ⟨_, rfl⟩
  obtain ⟨K1, hK1⟩ : ∃ y, checkI a n i b p = y := ⟨_, rfl⟩
  obtain ⟨K2, hK2⟩ : ∃ y, checkGrownI a i b n p = y := ⟨_, rfl⟩
  obtain ⟨PL, hPL⟩ : ∃ y, pathI l i = y := ⟨_, rfl⟩
  obtain ⟨GL, hGL⟩ : ∃ y, growthI l i = y := ⟨_, rfl⟩
  rw [hLA] at D0 D1
  rw [hJA] at D2 D3
  rw [hRL] at D4 D5
  rw [hK1] at D6 D7
  rw [hK2] at D8 D9
  rw [hPL] at E0 E1
  rw [hGL] at E2 E3
  clear hv hp hk hn h1 h2 sl sp hLA hJA hRL hK1 hK2 hPL hGL
  go_enter Tryd.func3, Tryd.ntmps3
  go_wp2_with fail
  refine (small_any w HK.out).mono ?_
  rintro e w0 ⟨rfl, b1⟩
  have HB0 := Lib.hid b1
  clear b1
  go_wp2_with fail
  refine (C1.out _ HB0.out).mono ?_
  rintro e w1 ⟨rfl, rfl⟩
  go_wp2_with fail
  refine (C2.out _ HB0.out).mono ?_
  rintro e w1 ⟨rfl, rfl⟩
  go_wp2_with fail
  refine (D0.out _ HB0.out).mono ?_
  rintro e w1 ⟨rfl, b1⟩
  have HB1 : Hid (Below w.heap.size w w1) := Lib.hid ((HB0.out).trans (b1.mono (HB0.out).size))
  clear b1
  go_wp2_with fail
  refine (D1.out _ HB1.out).mono ?_
  rintro e w2 ⟨rfl, b1⟩
  have HB2 : Hid (Below w.heap.size w w2) := Lib.hid ((HB1.out).trans (b1.mono (HB1.out).size))
  clear b1
  go_wp2_with fail
  refine (D2.out _ HB2.out).mono ?_
  rintro e w3 ⟨rfl, b1⟩
  have HB3 : Hid (Below w.heap.size w w3) := Lib.hid ((HB2.out).trans (b1.mono (HB2.out).size))
  clear b1
  go_wp2_with fail
  refine (D3.out _ HB3.out).mono ?_
  rintro e w4 ⟨rfl, b1⟩
  have HB4 : Hid (Below w.heap.size w w4) := Lib.hid ((HB3.out).trans (b1.mono (HB3.out).size))
  clear b1
  go_wp2_with fail
  refine (D4.out _ HB4.out).mono ?_
  rintro e w5 ⟨rfl, b1⟩
  have HB5 : Hid (Below w.heap.size w w5) := Lib.hid ((HB4.out).trans (b1.mono (HB4.out).size))
  clear b1
  go_wp2_with fail
  refine (D5.out _ HB5.out).mono ?_
  rintro e w6 ⟨rfl, b1⟩
  have HB6 : Hid (Below w.heap.size w w6) := Lib.hid ((HB5.out).trans (b1.mono (HB5.out).size))
  clear b1
  go_wp2_with fail
  refine (E0.out _ HB6.out).mono ?_
  rintro e w7 ⟨v7, rfl, ho, b1⟩
  have HB7 : Hid (Below w.heap.size w w7) := Lib.hid ((HB6.out).trans (b1.mono (HB6.out).size))
  have HS7 := Lib.hid ho.sv
  clear b1 ho
  go_wp2_with fail
  refine (E1.out _ HB7.out).mono ?_
  rintro e w8 ⟨v8, rfl, ho, b1⟩
  have HB8 : Hid (Below w.heap.size w w8) := Lib.hid ((HB7.out).trans (b1.mono (HB7.out).size))
  have HS8 := Lib.hid ho.sv
  have HT8 := Lib.hid (HS7.out.below b1 (Nat.le_refl _))
  clear b1 ho
  go_wp2_with fail
  refine (strings_same PL _ _ w8 HT8.out HS8.out).mono ?_
  rintro e wx ⟨rfl, m8, rfl⟩
  have HX8 : Hid (Below w.heap.size w (w8.drewN m8)) := Lib.hid (below_drewN HB8.out m8)
  go_wp2_with fail
  refine (E2.out _ HX8.out).mono ?_
  rintro e w9 ⟨v9, rfl, ho, b1⟩
  have HB9 : Hid (Below w.heap.size w w9) := Lib.hid ((HX8.out).trans (b1.mono (HX8.out).size))
  have HS9 := Lib.hid ho.sv
  clear b1 ho
  go_wp2_with fail
  refine (E3.out _ HB9.out).mono ?_
  rintro e w10 ⟨v10, rfl, ho, b1⟩
  have HB10 : Hid (Below w.heap.size w w10) := Lib.hid ((HB9.out).trans (b1.mono (HB9.out).size))
  have HS10 := Lib.hid ho.sv
  have HT10 := Lib.hid (HS9.out.below b1 (Nat.le_refl _))
  clear b1 ho
  go_wp2_with fail
  refine (strings_same GL _ _ w10 HT10.out HS10.out).mono ?_
  rintro e wx ⟨rfl, m10, rfl⟩
  have HX10 : Hid (Below w.heap.size w (w10.drewN m10)) := Lib.hid (below_drewN HB10.out m10)
  cases K1 with
  | true =>
    go_wp2_with fail
    refine (D6.out _ HX10.out).mono ?_
    rintro e w11 ⟨rfl, b1⟩
    have HB11 : Hid (Below w.heap.size w w11) := Lib.hid ((HX10.out).trans (b1.mono (HX10.out).size))
    clear b1
    go_wp2_with fail
    refine (D7.out _ HB11.out).mono ?_
    rintro e w12 ⟨rfl, b1⟩
    have HB12 : Hid (Below w.heap.size w w12) := Lib.hid ((HB11.out).trans (b1.mono (HB11.out).size))
    clear b1
    cases K2 with
    | true =>
      go_wp2_with fail
      refine (D8.out _ HB12.out).mono ?_
      rintro e w13 ⟨rfl, b1⟩
      have HB13 : Hid (Below w.heap.size w w13) := Lib.hid ((HB12.out).trans (b1.mono (HB12.out).size))
      clear b1
      go_wp2_with fail
      refine (D9.out _ HB13.out).mono ?_
      rintro e w14 ⟨rfl, b1⟩
      have HB14 : Hid (Below w.heap.size w w14) := Lib.hid ((HB13.out).trans (b1.mono (HB13.out).size))
      clear b1
      go_wp2
      go_ret
      exact ⟨rfl, HB14.out⟩
    | false =>
      go_wp2_with fail
      refine (D8.out _ HB12.out).mono ?_
      rintro e w13 ⟨rfl, b1⟩
      have HB13 : Hid (Below w.heap.size w w13) := Lib.hid ((HB12.out).trans (b1.mono (HB12.out).size))
      clear b1
      go_wp2_with fail
      refine (D9.out _ HB13.out).mono ?_
      rintro e w14 ⟨rfl, b1⟩
      have HB14 : Hid (Below w.heap.size w w14) := Lib.hid ((HB13.out).trans (b1.mono (HB13.out).size))
      clear b1
      go_wp2
      go_ret
      exact ⟨rfl, HB14.out⟩
  | false =>
    go_wp2_with fail
    refine (D6.out _ HX10.out).mono ?_
    rintro e w11 ⟨rfl, b1⟩
    have HB11 : Hid (Below w.heap.size w w11) := Lib.hid ((HX10.out).trans (b1.mono (HX10.out).size))
    clear b1
    go_wp2_with fail
    refine (D7.out _ HB11.out).mono ?_
    rintro e w12 ⟨rfl, b1⟩
    have HB12 : Hid (Below w.heap.size w w12) := Lib.hid ((HB11.out).trans (b1.mono (HB11.out).size))
    clear b1
    cases K2 with
    | true =>
      go_wp2_with fail
      refine (D8.out _ HB12.out).mono ?_
      rintro e w13 ⟨rfl, b1⟩
      have HB13 : Hid (Below w.heap.size w w13) := Lib.hid ((HB12.out).trans (b1.mono (HB12.out).size))
      clear b1
      go_wp2_with fail
      refine (D9.out _ HB13.out).mono ?_
      rintro e w14 ⟨rfl, b1⟩
      have HB14 : Hid (Below w.heap.size w w14) := Lib.hid ((HB13.out).trans (b1.mono (HB13.out).size))
      clear b1
      go_wp2
      go_ret
      exact ⟨rfl, HB14.out⟩
    | false =>
      go_wp2_with fail
      refine (D8.out _ HB12.out).mono ?_
      rintro e w13 ⟨rfl, b1⟩
      have HB13 : Hid (Below w.heap.size w w13) := Lib.hid ((HB12.out).trans (b1.mono (HB12.out).size))
      clear b1
      go_wp2_with fail
      refine (D9.out _ HB13.out).mono ?_
      rintro e w14 ⟨rfl, b1⟩
      have HB14 : Hid (Below w.heap.size w w14) := Lib.hid ((HB13.out).trans (b1.mono (HB13.out).size))
      clear b1
      go_wp2
      go_ret
      exact ⟨rfl, HB14.out⟩
theorem mtells_walk (l p : List ByteArray) (vl vp : Value) (i n : Int) (a b : ByteArray) (w : World) (hv : SV w vl l) (hp : SV w vp p) (hk : OKW w) (hnw : (Lit.int .i64 n).wf = true) (ha : a.size ≤ maxLen) (hb : b.size ≤ maxLen) :
    Calls Tryd.prog 3 #[vl, vp, .int .i64 i, .int .i64 n, .string a, .string b] w fun e w' => e = .returned (.bool true) ∧ Below w.heap.size w w' := by
  have hn : n ≤ 9223372036854775807 := (wf_top hnw)
  cases h1 : fewB l with
  | false => exact mtells_head l p vl vp i n a b w hv hp hk ha hb (.inl h1)
  | true =>
    cases h2 : fewB p with
    | false => exact mtells_head l p vl vp i n a b w hv hp hk ha hb (.inr (.inl ⟨h1, h2⟩))
    | true =>
      by_cases h3 : a.size ≤ 40
      · by_cases h4 : b.size ≤ 40
        · exact mtells_main l p vl vp i n a b w hv hp hk hn h1 h2 h3 h4
        · exact mtells_head l p vl vp i n a b w hv hp hk ha hb (.inr (.inr (.inr ⟨h1, h2, h3, by omega⟩)))
      · exact mtells_head l p vl vp i n a b w hv hp hk ha hb (.inr (.inr (.inl ⟨h1, h2, by omega⟩)))
end Go.Proofs.YtmapodkdnbbjgaaDoor
