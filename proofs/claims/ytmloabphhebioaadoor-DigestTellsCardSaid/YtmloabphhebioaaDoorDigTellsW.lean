/- DigestTells: the walk. -/
import Derived.Test.YtmloabphhebioaaDoorDigSmall
import Derived.Test.YtmloabphhebioaaDoorRefSum
import Derived.Test.YtmloabphhebioaaDoorRefMac
import Derived.Test.YtmloabphhebioaaDoorRefU32W
namespace Go.Proofs.YtmloabphhebioaaDoor
open Go.RowKit Dg
theorem rsum_ok : RSum := rsum_any
set_option maxRecDepth 100000 in
set_option maxHeartbeats 4000000 in
theorem digtells_walk (s h : ByteArray) (w : World) (hs : s.size ≤ maxLen) (hh : h.size ≤ maxLen) (hK : KOK w) (hg : 0 < w.heap.size) :
    Calls Tryd.prog 8 #[.string s, .string h] w fun e w' => e = .returned (.bool true) ∧ Below w.heap.size w w' := by
  unfold maxLen at hs hh
  have HK := Lib.hid hK
  by_cases h2 : s.size ≤ 2000 ∧ h.size ≤ 2000
  · obtain ⟨h2, h3⟩ := h2
    obtain ⟨V1, hV1⟩ : ∃ y, bs (sumL s.data.toList) = y := ⟨_, rfl⟩
    obtain ⟨V2, hV2⟩ : ∃ y : Nat, shortN s.data.toList = y := ⟨_, rfl⟩
    obtain ⟨V3, hV3⟩ : ∃ y : Nat, crcN s.data.toList = y := ⟨_, rfl⟩
    obtain ⟨V4, hV4⟩ : ∃ y, bs (hexL s.data.toList) = y := ⟨_, rfl⟩
    obtain ⟨V5, hV5⟩ : ∃ y, bs (b32L s.data.toList) = y := ⟨_, rfl⟩
    obtain ⟨V6, hV6⟩ : ∃ y, bs (macL h.data.toList s.data.toList) = y := ⟨_, rfl⟩
    obtain ⟨B1, T1, hO1⟩ : ∃ b t, optS (unhexL h.data.toList) = .tuple #[.string b, .bool t] := ⟨_, _, rfl⟩
    obtain ⟨B2, T2, hO2⟩ : ∃ b t, optS (unb32L h.data.toList) = .tuple #[.string b, .bool t] := ⟨_, _, rfl⟩
    have ls : s.size ≤ 140737488351232 := by omega
    have l1 : s.size ≤ 1000000 := by omega
    have l2 : h.size ≤ 1000000 := by omega
    have l3 : s.size ≤ 900000 := by omega
    have C0 : Hid (∀ W, Calls Tryd.prog 12 #[.string h] W fun e w' => e = .returned (.tuple #[.string B1, .bool T1]) ∧ Below W.heap.size W w') := Lib.hid (fun W => by have h := unhex_any h W l2; rw [hO1] at h; exact h)
    have C1 : Hid (∀ W, Calls Tryd.prog 19 #[.string h] W fun e w' => e = .returned (.tuple #[.string B1, .bool T1]) ∧ Below W.heap.size W w') := Lib.hid (fun W => by have h := runhex_any h W l2; rw [hO1] at h; exact h)
    have C2 : Hid (∀ W, Calls Tryd.prog 14 #[.string h] W fun e w' => e = .returned (.tuple #[.string B2, .bool T2]) ∧ Below W.heap.size W w') := Lib.hid (fun W => by have h := unb32_any h W l2; rw [hO2] at h; exact h)
    have C3 : Hid (∀ W, Calls Tryd.prog 20 #[.string h] W fun e w' => e = .returned (.tuple #[.string B2, .bool T2]) ∧ Below W.heap.size W w') := Lib.hid (fun W => by have h := runb32_any h W l2; rw [hO2] at h; exact h)
    have C4 : Hid (∀ W, KOK W → 0 < W.heap.size → Calls Tryd.prog 18 #[.string s] W fun e w' => e = .returned (.string V1) ∧ Below W.heap.size W w') := Lib.hid (fun W k g => by have h := sum_any s W l1 k g; rw [hV1] at h; exact h)
    have C5 : Hid (∀ W, Calls Tryd.prog 21 #[.string s] W fun e w' => e = .returned (.string V1) ∧ Below W.heap.size W w') := Lib.hid (fun W => by have h := rsum_any s W l1; rw [hV1] at h; exact h)
    have C6 : Hid (∀ W, KOK W → 0 < W.heap.size → Calls Tryd.prog 22 #[.string s] W fun e w' => e = .returned (.int .i64 (V2 : Nat)) ∧ Below W.heap.size W w') := Lib.hid (fun W k g => by have h := short_any s W l1 k g; rw [hV2] at h; exact h)
    have C7 : Hid (∀ W, Calls Tryd.prog 23 #[.string s] W fun e w' => e = .returned (.int .i64 (V2 : Nat)) ∧ Below W.heap.size W w') := Lib.hid (fun W => by have h := rshort_any rsum_ok s W l1; rw [hV2] at h; exact h)
    have C8 : Hid (∀ W, Calls Tryd.prog 16 #[.string s] W fun e w' => e = .returned (.int .i64 (V3 : Nat)) ∧ W = w') := Lib.hid (fun W => by have h := crc_any s W ls; rw [hV3] at h; exact h)
    have C9 : Hid (∀ W, Calls Tryd.prog 24 #[.string s] W fun e w' => e = .returned (.int .i64 (V3 : Nat)) ∧ W = w') := Lib.hid (fun W => by have h := rcrc_any s W ls; rw [hV3] at h; exact h)
    have C10 : Hid (∀ W, Calls Tryd.prog 11 #[.string s] W fun e w' => e = .returned (.string V4) ∧ Below W.heap.size W w') := Lib.hid (fun W => by have h := hex_any s W l1; rw [hV4] at h; exact h)
    have C11 : Hid (∀ W, Calls Tryd.prog 25 #[.string s] W fun e w' => e = .returned (.string V4) ∧ Below W.heap.size W w') := Lib.hid (fun W => by have h := rhex_any s W l1; rw [hV4] at h; exact h)
    have C12 : Hid (∀ W, Calls Tryd.prog 13 #[.string s] W fun e w' => e = .returned (.string V5) ∧ Below W.heap.size W w') := Lib.hid (fun W => by have h := b32_any s W l1; rw [hV5] at h; exact h)
    have C13 : Hid (∀ W, Calls Tryd.prog 26 #[.string s] W fun e w' => e = .returned (.string V5) ∧ Below W.heap.size W w') := Lib.hid (fun W => by have h := rb32_any s W l1; rw [hV5] at h; exact h)
    have C14 : Hid (∀ W, KOK W → 0 < W.heap.size → Calls Tryd.prog 17 #[.string h, .string s] W fun e w' => e = .returned (.string V6) ∧ Below W.heap.size W w') := Lib.hid (fun W k g => by have h := mac_any h s W l2 l3 k g; rw [hV6] at h; exact h)
    have C15 : Hid (∀ W, Calls Tryd.prog 27 #[.string h, .string s] W fun e w' => e = .returned (.string V6) ∧ Below W.heap.size W w') := Lib.hid (fun W => by have h := rmac_any rsum_ok h s W l2 l3; rw [hV6] at h; exact h)
    clear hV1 hV2 hV3 hV4 hV5 hV6 hO1 hO2 ls l1 l2 l3
    go_enter Tryd.func8, Tryd.ntmps8
    go_wp2_with fail
    refine (small_any w HK.out hg).mono ?_
    rintro e w0 ⟨rfl, hb⟩
    have HB0 := Lib.hid hb
    clear hb hK
    go_wp2_with fail
    refine (C0.out _).mono ?_
    rintro e w1 ⟨rfl, hb⟩
    have HB1 := Lib.hid (HB0.out.trans (hb.mono HB0.out.size))
    clear hb C0
    go_wp2_with fail
    refine (C1.out _).mono ?_
    rintro e w2 ⟨rfl, hb⟩
    have HB2 := Lib.hid (HB1.out.trans (hb.mono HB1.out.size))
    clear hb C1
    go_wp2_with fail
    refine (C2.out _).mono ?_
    rintro e w3 ⟨rfl, hb⟩
    have HB3 := Lib.hid (HB2.out.trans (hb.mono HB2.out.size))
    clear hb C2
    go_wp2_with fail
    refine (C3.out _).mono ?_
    rintro e w4 ⟨rfl, hb⟩
    have HB4 := Lib.hid (HB3.out.trans (hb.mono HB3.out.size))
    clear hb C3
    go_wp2_with fail
    refine (C4.out _ (HK.out.below HB4.out hg) (Nat.lt_of_lt_of_le hg HB4.out.size)).mono ?_
    rintro e w5 ⟨rfl, hb⟩
    have HB5 := Lib.hid (HB4.out.trans (hb.mono HB4.out.size))
    clear hb C4
    go_wp2_with fail
    refine (C5.out _).mono ?_
    rintro e w6 ⟨rfl, hb⟩
    have HB6 := Lib.hid (HB5.out.trans (hb.mono HB5.out.size))
    clear hb C5
    go_wp2_with fail
    refine (C6.out _ (HK.out.below HB6.out hg) (Nat.lt_of_lt_of_le hg HB6.out.size)).mono ?_
    rintro e w7 ⟨rfl, hb⟩
    have HB7 := Lib.hid (HB6.out.trans (hb.mono HB6.out.size))
    clear hb C6
    go_wp2_with fail
    refine (C7.out _).mono ?_
    rintro e w8 ⟨rfl, hb⟩
    have HB8 := Lib.hid (HB7.out.trans (hb.mono HB7.out.size))
    clear hb C7
    go_wp2_with fail
    refine (C8.out _).mono ?_
    rintro e w9 ⟨rfl, rfl⟩
    go_wp2_with fail
    refine (C9.out _).mono ?_
    rintro e w10 ⟨rfl, rfl⟩
    go_wp2_with fail
    refine (C10.out _).mono ?_
    rintro e w11 ⟨rfl, hb⟩
    have HB11 := Lib.hid (HB8.out.trans (hb.mono HB8.out.size))
    clear hb C10
    go_wp2_with fail
    refine (C11.out _).mono ?_
    rintro e w12 ⟨rfl, hb⟩
    have HB12 := Lib.hid (HB11.out.trans (hb.mono HB11.out.size))
    clear hb C11
    go_wp2_with fail
    refine (C12.out _).mono ?_
    rintro e w13 ⟨rfl, hb⟩
    have HB13 := Lib.hid (HB12.out.trans (hb.mono HB12.out.size))
    clear hb C12
    go_wp2_with fail
    refine (C13.out _).mono ?_
    rintro e w14 ⟨rfl, hb⟩
    have HB14 := Lib.hid (HB13.out.trans (hb.mono HB13.out.size))
    clear hb C13
    go_wp2_with fail
    refine (C14.out _ (HK.out.below HB14.out hg) (Nat.lt_of_lt_of_le hg HB14.out.size)).mono ?_
    rintro e w15 ⟨rfl, hb⟩
    have HB15 := Lib.hid (HB14.out.trans (hb.mono HB14.out.size))
    clear hb C14
    go_wp2_with fail
    refine (C15.out _).mono ?_
    rintro e w16 ⟨rfl, hb⟩
    have HB16 := Lib.hid (HB15.out.trans (hb.mono HB15.out.size))
    clear hb C15
    go_wp2
    go_ret
    exact ⟨rfl, HB16.out⟩
  · go_enter Tryd.func8, Tryd.ntmps8
    go_wp2_with fail
    refine (small_any w HK.out hg).mono ?_
    rintro e w1 ⟨rfl, hb⟩
    have HB := Lib.hid hb
    clear hb hK
    rcases Nat.lt_or_ge 2000 s.size with h3 | h3
    · go_wp2
      go_ret
      exact ⟨rfl, HB.out⟩
    · have h4 : 2000 < h.size := by omega
      go_wp2
      go_ret
      exact ⟨rfl, HB.out⟩
end Go.Proofs.YtmloabphhebioaaDoor
