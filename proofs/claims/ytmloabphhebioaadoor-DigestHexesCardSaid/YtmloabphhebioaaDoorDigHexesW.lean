/- DigestHexes: the walk. -/
import Derived.Test.YtmloabphhebioaaDoorDigSmall
import Derived.Test.YtmloabphhebioaaDoorDigTrip
namespace Go.Proofs.YtmloabphhebioaaDoor
open Go.RowKit Dg
theorem emp_eq : (bs ([] : List UInt8)) = ⟨#[]⟩ := rfl
set_option maxRecDepth 100000 in
set_option maxHeartbeats 4000000 in
theorem hexes_walk (s h : ByteArray) (w : World) (hs : s.size ≤ maxLen) (hh : h.size ≤ maxLen) (hK : KOK w) (hg : 0 < w.heap.size) :
    Calls Tryd.prog 3 #[.string s, .string h] w fun e w' => e = .returned (.bool true) ∧ Below w.heap.size w w' := by
  unfold maxLen at hs hh
  have HK := Lib.hid hK
  by_cases h2 : s.size ≤ 2000 ∧ h.size ≤ 2000
  · obtain ⟨h2, h3⟩ := h2
    go_enter Tryd.func3, Tryd.ntmps3
    go_wp2_with fail
    refine (small_any w HK.out hg).mono ?_
    rintro e w1 ⟨rfl, hb⟩
    have HB1 := Lib.hid hb
    clear hb hK HK
    go_wp2_with fail
    refine (hex_any s w1 (by omega)).mono ?_
    rintro e w2 ⟨rfl, hb⟩
    have HB2 := Lib.hid (HB1.out.trans (hb.mono HB1.out.size))
    clear hb HB1
    have zx : (bs (hexL s.data.toList)).size = 2 * s.size := by rw [bs_size, hexL_len]; simp
    have HX : Hid (unhexL (bs (hexL s.data.toList)).data.toList = some s.data.toList) := unhex_hex _
    obtain ⟨x, hx⟩ : ∃ x, x = bs (hexL s.data.toList) := ⟨_, rfl⟩
    rw [← hx] at zx HX ⊢
    clear hx
    go_wp2_with fail
    refine (unhex_any x w2 (by omega)).mono ?_
    rintro e w3 ⟨rfl, hb⟩
    have HB3 := Lib.hid (HB2.out.trans (hb.mono HB2.out.size))
    clear hb HB2
    have e1 : optS (unhexL x.data.toList) = .tuple #[.string s, .bool true] := by rw [HX.out]; rfl
    rw [e1]
    clear e1
    go_wp2_with fail
    refine (unhex_any h w3 (by omega)).mono ?_
    rintro e w4 ⟨rfl, hb⟩
    have HB4 := Lib.hid (HB3.out.trans (hb.mono HB3.out.size))
    clear hb HB3
    obtain ⟨o1, ho1⟩ : ∃ o, o = unhexL h.data.toList := ⟨_, rfl⟩
    rw [← ho1]
    have HO1 := Lib.hid ho1
    clear ho1
    have eo1 : optS o1 = .tuple #[.string (bs (o1.getD [])), .bool o1.isSome] := rfl
    rw [eo1]
    clear eo1
    obtain ⟨b1, hb1⟩ : ∃ b, b = bs (o1.getD []) := ⟨_, rfl⟩
    obtain ⟨t1, ht1⟩ : ∃ b, b = o1.isSome := ⟨_, rfl⟩
    rw [← hb1, ← ht1]
    have HX1 : Hid (b1 = bs (o1.getD []) ∧ t1 = o1.isSome) := ⟨hb1, ht1⟩
    clear hb1 ht1
    go_wp2_with fail
    refine (b32_any s w4 (by omega)).mono ?_
    rintro e w5 ⟨rfl, hb⟩
    have HB5 := Lib.hid (HB4.out.trans (hb.mono HB4.out.size))
    clear hb HB4
    have zy : (bs (b32L s.data.toList)).size = (8 * s.size + 4) / 5 := by rw [bs_size, b32L_len]; simp
    have HY : Hid (unb32L (bs (b32L s.data.toList)).data.toList = some s.data.toList) := unb_b32 _
    obtain ⟨y, hy⟩ : ∃ y, y = bs (b32L s.data.toList) := ⟨_, rfl⟩
    rw [← hy] at zy HY ⊢
    clear hy
    go_wp2_with fail
    refine (unb32_any y w5 (by omega)).mono ?_
    rintro e w6 ⟨rfl, hb⟩
    have HB6 := Lib.hid (HB5.out.trans (hb.mono HB5.out.size))
    clear hb HB5
    have e1 : optS (unb32L y.data.toList) = .tuple #[.string s, .bool true] := by rw [HY.out]; rfl
    rw [e1]
    clear e1
    go_wp2_with fail
    refine (unb32_any h w6 (by omega)).mono ?_
    rintro e w7 ⟨rfl, hb⟩
    have HB7 := Lib.hid (HB6.out.trans (hb.mono HB6.out.size))
    clear hb HB6
    obtain ⟨o2, ho2⟩ : ∃ o, o = unb32L h.data.toList := ⟨_, rfl⟩
    rw [← ho2]
    have HO2 := Lib.hid ho2
    clear ho2
    have eo2 : optS o2 = .tuple #[.string (bs (o2.getD [])), .bool o2.isSome] := rfl
    rw [eo2]
    clear eo2
    obtain ⟨b2, hb2⟩ : ∃ b, b = bs (o2.getD []) := ⟨_, rfl⟩
    obtain ⟨t2, ht2⟩ : ∃ b, b = o2.isSome := ⟨_, rfl⟩
    rw [← hb2, ← ht2]
    have HX2 : Hid (b2 = bs (o2.getD []) ∧ t2 = o2.isSome) := ⟨hb2, ht2⟩
    clear hb2 ht2
    have F1 : Hid (t1 = false → b1 = ⟨#[]⟩) := fun e => by
      obtain ⟨h1, h2⟩ := HX1.out
      cases o1 with
      | none => exact h1
      | some _ => rw [h2] at e; cases e
    have T1 : Hid (t1 = true → bs (hexL b1.data.toList) = h ∧ b1.size ≤ 1000000) := fun e => by
      obtain ⟨h1, h2⟩ := HX1.out
      cases o1 with
      | none => rw [h2] at e; cases e
      | some b =>
        have e1 : hexL b = h.data.toList := hex_unhex _ _ HO1.out.symm
        have e2 : 2 * b.length = h.size := by rw [← hexL_len, e1]; simp
        subst h1
        refine ⟨by show bs (hexL b) = h; rw [e1]; rfl, by show b.length ≤ _; omega⟩
    have F2 : Hid (t2 = false → b2 = ⟨#[]⟩) := fun e => by
      obtain ⟨h1, h2⟩ := HX2.out
      cases o2 with
      | none => exact h1
      | some _ => rw [h2] at e; cases e
    have T2 : Hid (t2 = true → bs (b32L b2.data.toList) = h ∧ b2.size ≤ 1000000) := fun e => by
      obtain ⟨h1, h2⟩ := HX2.out
      cases o2 with
      | none => rw [h2] at e; cases e
      | some b =>
        have e1 : b32L b = h.data.toList := b32_unb _ _ HO2.out.symm
        have e2 : (8 * b.length + 4) / 5 = h.size := by rw [← b32L_len, e1]; simp
        subst h1
        refine ⟨by show bs (b32L b) = h; rw [e1]; rfl, by show b.length ≤ _; omega⟩
    clear HX1 HX2 HO1 HO2 HX HY
    cases t2 with
    | false =>
      have e2 := F2.out rfl
      subst e2
      clear F2 T2
      cases t1 with
      | false =>
        have e1 := F1.out rfl
        subst e1
        clear F1 T1
        go_wp2
        go_ret
        exact ⟨rfl, HB7.out⟩
      | true =>
        obtain ⟨e1, s1⟩ := T1.out rfl
        have E1 := Lib.hid e1
        have S1 := Lib.hid s1
        clear F1 T1 e1 s1
        go_wp2_with fail
        refine (hex_any b1 w7 S1.out).mono ?_
        rintro e w8 ⟨rfl, hb⟩
        have HB8 := Lib.hid (HB7.out.trans (hb.mono HB7.out.size))
        clear hb HB7
        rw [E1.out]
        go_wp2
        go_ret
        exact ⟨rfl, HB8.out⟩
    | true =>
      obtain ⟨e2, s2⟩ := T2.out rfl
      have E2 := Lib.hid e2
      have S2 := Lib.hid s2
      clear F2 T2 e2 s2
      cases t1 with
      | false =>
        have e1 := F1.out rfl
        subst e1
        clear F1 T1
        go_wp2_with fail
        refine (b32_any b2 w7 S2.out).mono ?_
        rintro e w8 ⟨rfl, hb⟩
        have HB8 := Lib.hid (HB7.out.trans (hb.mono HB7.out.size))
        clear hb HB7
        rw [E2.out]
        go_wp2
        go_ret
        exact ⟨rfl, HB8.out⟩
      | true =>
        obtain ⟨e1, s1⟩ := T1.out rfl
        have E1 := Lib.hid e1
        have S1 := Lib.hid s1
        clear F1 T1 e1 s1
        go_wp2_with fail
        refine (b32_any b2 w7 S2.out).mono ?_
        rintro e w8 ⟨rfl, hb⟩
        have HB8 := Lib.hid (HB7.out.trans (hb.mono HB7.out.size))
        clear hb HB7
        rw [E2.out]
        go_wp2_with fail
        refine (hex_any b1 w8 S1.out).mono ?_
        rintro e w9 ⟨rfl, hb⟩
        have HB9 := Lib.hid (HB8.out.trans (hb.mono HB8.out.size))
        clear hb HB8
        rw [E1.out]
        go_wp2
        go_ret
        exact ⟨rfl, HB9.out⟩
  · go_enter Tryd.func3, Tryd.ntmps3
    go_wp2_with fail
    refine (small_any w HK.out hg).mono ?_
    rintro e w1 ⟨rfl, hb⟩
    have HB := Lib.hid hb
    clear hb hK
    rcases Nat.lt_or_ge 2000 s.size with h3 | h3
    · go_wp2
      go_ret
      exact ⟨rfl, HB.out⟩
    · have h4 : 2000 < h.size := by omega
      go_wp2
      go_ret
      exact ⟨rfl, HB.out⟩
end Go.Proofs.YtmloabphhebioaaDoor
