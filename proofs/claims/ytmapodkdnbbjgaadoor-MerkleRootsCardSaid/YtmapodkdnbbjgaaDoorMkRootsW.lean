/- MerkleRoots: the walk. -/
import Derived.Test.YtmapodkdnbbjgaaDoorMkRoots0
namespace Go.Proofs.YtmapodkdnbbjgaaDoor
open Go.RowKit Mk Sl
set_option maxHeartbeats 2000000 in
theorem mroots_head (l m : List ByteArray) (v u : Value) (w : World) (hv : SV w v l) (hu : SV w u m) (hk : OKW w)
    (bad : fewB l = false ∨ (fewB l = true ∧ fewB m = false) ∨ (fewB l = true ∧ fewB m = true ∧ l.length ≠ m.length)) :
    Calls Tryd.prog 6 #[v, u] w fun e w' => e = .returned (.bool true) ∧ Below w.heap.size w w' := by
  obtain ⟨p, cap, rfl, _, _⟩ := hv.shape
  obtain ⟨q, caq, rfl, _, _⟩ := hu.shape
  have HK := Lib.hid hk
  have C1 : Hid (∀ W, Below w.heap.size w W → Calls Tryd.prog 10 #[.slice p l.length cap] W fun e w' => e = .returned (.bool (fewB l)) ∧ W = w') := Lib.hid fun W hW => few_any l _ W (hv.below hW (Nat.le_refl _))
  have C2 : Hid (∀ W, Below w.heap.size w W → Calls Tryd.prog 10 #[.slice q m.length caq] W fun e w' => e = .returned (.bool (fewB m)) ∧ W = w') := Lib.hid fun W hW => few_any m _ W (hu.below hW (Nat.le_refl _))
  clear hk hv hu
  rcases bad with h | ⟨h, h'⟩ | ⟨h, h', h''⟩
  · rw [h] at C1
    clear h
    go_enter Tryd.func6, Tryd.ntmps6
    go_wp2_with fail
    refine (small_any w HK.out).mono ?_
    rintro e w0 ⟨rfl, b1⟩
    have HB0 := Lib.hid b1
    clear b1
    go_wp2_with fail
    refine (C1.out _ HB0.out).mono ?_
    rintro e w1 ⟨rfl, rfl⟩
    go_wp2
    go_ret
    exact ⟨rfl, HB0.out⟩
  · rw [h] at C1
    rw [h'] at C2
    clear h h'
    go_enter Tryd.func6, Tryd.ntmps6
    go_wp2_with fail
    refine (small_any w HK.out).mono ?_
    rintro e w0 ⟨rfl, b1⟩
    have HB0 := Lib.hid b1
    clear b1
    go_wp2_with fail
    refine (C1.out _ HB0.out).mono ?_
    rintro e w1 ⟨rfl, rfl⟩
    go_wp2_with fail
    refine (C2.out _ HB0.out).mono ?_
    rintro e w1 ⟨rfl, rfl⟩
    go_wp2
    go_ret
    exact ⟨rfl, HB0.out⟩
  · rw [h] at C1
    rw [h'] at C2
    have hd : ((l.length : Int) != (m.length : Int)) = true := by rw [bne_iff_ne]; omega
    clear h h' h''
    go_enter Tryd.func6, Tryd.ntmps6
    go_wp2_with fail
    refine (small_any w HK.out).mono ?_
    rintro e w0 ⟨rfl, b1⟩
    have HB0 := Lib.hid b1
    clear b1
    go_wp2_with fail
    refine (C1.out _ HB0.out).mono ?_
    rintro e w1 ⟨rfl, rfl⟩
    go_wp2_with fail
    refine (C2.out _ HB0.out).mono ?_
    rintro e w1 ⟨rfl, rfl⟩
    go_wp2
    go_ret
    exact ⟨rfl, HB0.out⟩
set_option maxHeartbeats 2000000 in
theorem mroots_main (l m : List ByteArray) (v u : Value) (w : World) (hv : SV w v l) (hu : SV w u m) (hk : OKW w) (h1 : fewB l = true) (h2 : fewB m = true) (h3 : l.length = m.length) :
    Calls Tryd.prog 6 #[v, u] w fun e w' => e = .returned (.bool true) ∧ Below w.heap.size w w' := by
  obtain ⟨p, cap, rfl, _, _⟩ := hv.shape
  obtain ⟨q, caq, rfl, _, _⟩ := hu.shape
  have HV := Lib.hid hv
  have HU := Lib.hid hu
  have HK := Lib.hid hk
  obtain ⟨sl, ll⟩ := few_short h1
  obtain ⟨sm, lm⟩ := few_short h2
  have SL : Hid (Short l 1000) := Lib.hid fun s hs => Nat.le_trans (sl s hs) (by omega)
  have SM : Hid (Short m 1000) := Lib.hid fun s hs => Nat.le_trans (sm s hs) (by omega)
  have C1 : Hid (∀ W, Below w.heap.size w W → Calls Tryd.prog 10 #[.slice p l.length cap] W fun e w' => e = .returned (.bool true) ∧ W = w') := Lib.hid fun W hW => by
    have := few_any l _ W (HV.out.below hW (Nat.le_refl _)); rw [h1] at this; exact this
  have C2 : Hid (∀ W, Below w.heap.size w W → Calls Tryd.prog 10 #[.slice q m.length caq] W fun e w' => e = .returned (.bool true) ∧ W = w') := Lib.hid fun W hW => by
    have := few_any m _ W (HU.out.below hW (Nat.le_refl _)); rw [h2] at this; exact this
  have CL1 : Hid (∀ W, Below w.heap.size w W → Calls Tryd.prog 26 #[.slice p l.length cap] W (Ret W (l.map leaf))) := Lib.hid fun W hW => leaves_any l _ W (HV.out.below hW (Nat.le_refl _)) (by omega) SL.out (HK.out.below hW)
  have CL2 : Hid (∀ W, Below w.heap.size w W → Calls Tryd.prog 26 #[.slice q m.length caq] W (Ret W (m.map leaf))) := Lib.hid fun W hW => leaves_any m _ W (HU.out.below hW (Nat.le_refl _)) (by omega) SM.out (HK.out.below hW)
  have CS : Hid (∀ W, Below w.heap.size w W → Calls Tryd.prog 17 #[.slice p l.length cap, .slice q m.length caq] W fun e w' => e = .returned (.bool (decide (l = m))) ∧ ∃ m, w' = W.drewN m) := Lib.hid fun W hW => strings_any l m _ _ W (HV.out.below hW (Nat.le_refl _)) (HU.out.below hW (Nat.le_refl _))
  have CH : Hid (∀ W, Below w.heap.size w W → Calls Tryd.prog 31 #[.slice p l.length cap, .slice q m.length caq] W (Ret W (hashedL l m))) := Lib.hid fun W hW => hashed_any l m _ _ W (HV.out.below hW (Nat.le_refl _)) (HU.out.below hW (Nat.le_refl _)) (by omega) (by omega) SL.out SM.out
  have hlaw := roots_law l m h3
  have SA : Hid (Short (l.map leaf) 32) := Lib.hid fun s hs => Nat.le_of_eq (all32_leaves l s hs)
  have SB : Hid (Short (m.map leaf) 32) := Lib.hid fun s hs => Nat.le_of_eq (all32_leaves m s hs)
  have SHd : Hid (Short (hashedL l m) 41) := Lib.hid fun s hs => by
    simp only [hashedL, List.mem_append, List.mem_map] at hs
    rcases hs with ⟨x, hx, rfl⟩ | ⟨x, hx, rfl⟩
    · rw [ByteArray.size_append]; have := sl x hx; show 1 + _ ≤ _; omega
    · rw [ByteArray.size_append]; have := sm x hx; show 1 + _ ≤ _; omega
  have hhl : (hashedL l m).length ≤ 140 := by simp [hashedL]; omega
  have hia : (inner (l.map leaf)).length ≤ 70 := Nat.le_trans (inner_len _ _ (Nat.le_refl _)) (by simp; omega)
  have hib : (inner (m.map leaf)).length ≤ 70 := Nat.le_trans (inner_len _ _ (Nat.le_refl _)) (by simp; omega)
  have SIA : Hid (Short (inner (l.map leaf)) 65) := Lib.hid (inner_short 32 (by omega) _ _ (Nat.le_refl _) SA.out)
  have SIB : Hid (Short (inner (m.map leaf)) 65) := Lib.hid (inner_short 32 (by omega) _ _ (Nat.le_refl _) SB.out)
  have hal : (l.map leaf).length ≤ 70 := by simp; omega
  have hbl : (m.map leaf).length ≤ 70 := by simp; omega
  obtain ⟨A, hA⟩ : ∃ y, l.map leaf = y := ⟨_, rfl⟩
  obtain ⟨B, hB⟩ : ∃ y, m.map leaf = y := ⟨_, rfl⟩
  rw [hA] at CL1 hlaw SA hia SIA hal
  rw [hB] at CL2 hlaw SB hib SIB hbl
  have HAB : Hid (l = m → A = B) := Lib.hid fun h => by rw [← hA, ← hB, h]
  obtain ⟨RA, hRA⟩ : ∃ y, root A = y := ⟨_, rfl⟩
  obtain ⟨RB, hRB⟩ : ∃ y, root B = y := ⟨_, rfl⟩
  obtain ⟨IA, hIA⟩ : ∃ y, inner A = y := ⟨_, rfl⟩
  obtain ⟨IB, hIB⟩ : ∃ y, inner B = y := ⟨_, rfl⟩
  obtain ⟨HL, hHL⟩ : ∃ y, hashedL l m = y := ⟨_, rfl⟩
  rw [hRA, hRB, hIA, hIB, hHL] at hlaw
  rw [hIA] at hia SIA
  rw [hIB] at hib SIB
  rw [hHL] at hhl SHd CH
  have HLw := Lib.hid hlaw
  have HRA := Lib.hid hRA; have HRB := Lib.hid hRB
  have CRA : Hid (∀ W x, OKW W → SV W x A → Calls Tryd.prog 15 #[x] W fun e w' => e = .returned (.string RA) ∧ Below W.heap.size W w') := Lib.hid fun W x hW hx => by
    rw [← hRA]; exact root_any A x W (by omega) (fun s hs => Nat.le_trans (SA.out s hs) (by omega)) hx hW
  have CRB : Hid (∀ W x, OKW W → SV W x B → Calls Tryd.prog 15 #[x] W fun e w' => e = .returned (.string RB) ∧ Below W.heap.size W w') := Lib.hid fun W x hW hx => by
    rw [← hRB]; exact root_any B x W (by omega) (fun s hs => Nat.le_trans (SB.out s hs) (by omega)) hx hW
  have CIA : Hid (∀ W x, SV W x A → Calls Tryd.prog 28 #[x] W (Ret W IA)) := Lib.hid fun W x hx => by
    rw [← hIA]; exact rinner_any A x W (by omega) (fun s hs => Nat.le_trans (SA.out s hs) (by omega)) hx
  have CIB : Hid (∀ W x, SV W x B → Calls Tryd.prog 28 #[x] W (Ret W IB)) := Lib.hid fun W x hx => by
    rw [← hIB]; exact rinner_any B x W (by omega) (fun s hs => Nat.le_trans (SB.out s hs) (by omega)) hx
  have hd : ((l.length : Int) != (m.length : Int)) = false := by rw [h3]; simp
  clear hk hv hu h1 h2 sl sm hlaw hA hB hRA hRB hIA hIB hHL h3
  go_enter Tryd.func6, Tryd.ntmps6
  go_wp2_with fail
  refine (small_any w HK.out).mono ?_
  rintro e w0 ⟨rfl, b1⟩
  have HB0 := Lib.hid b1
  clear b1
  go_wp2_with fail
  refine (C1.out _ HB0.out).mono ?_
  rintro e w1 ⟨rfl, rfl⟩
  go_wp2_with fail
  refine (C2.out _ HB0.out).mono ?_
  rintro e w1 ⟨rfl, rfl⟩
  go_wp2_with fail
  refine (CL1.out _ HB0.out).mono ?_
  rintro e w1 ⟨v1, rfl, ho, b1⟩
  have HB1 : Hid (Below w.heap.size w w1) := Lib.hid (HB0.out.trans (b1.mono HB0.out.size))
  have HVA1 := Lib.hid ho.sv
  clear ho b1
  go_wp2_with fail
  refine (CL2.out _ HB1.out).mono ?_
  rintro e w2 ⟨v2, rfl, ho, b1⟩
  have HB2 : Hid (Below w.heap.size w w2) := Lib.hid (HB1.out.trans (b1.mono HB1.out.size))
  have HVA2 := Lib.hid (HVA1.out.below b1 (Nat.le_refl _))
  have HVB2 := Lib.hid ho.sv
  clear ho b1
  by_cases hlm : l = m
  · have hdd : decide (l = m) = true := decide_eq_true hlm
    have hRR : RA = RB := by rw [← HRA.out, ← HRB.out, HAB.out hlm]
    rw [hdd] at CS
    rw [hRR] at CRA
    clear hlm hdd hRR
    go_wp2_with fail
    refine (CS.out _ HB2.out).mono ?_
    rintro e w3 ⟨rfl, m3, rfl⟩
    have HB3 : Hid (Below w.heap.size w (w2.drewN m3)) := Lib.hid (below_drewN HB2.out m3)
    go_wp2_with fail
    refine (CRA.out _ _ (HK.out.below HB3.out) HVA2.out).mono ?_
    rintro e w4 ⟨rfl, b1⟩
    have HB4 : Hid (Below w.heap.size w w4) := Lib.hid (HB3.out.trans (b1.mono HB3.out.size))
    have HVB4 : Hid (SV w4 v2 B) := Lib.hid (SV.below (w := w2.drewN m3) HVB2.out b1 (Nat.le_refl _))
    clear b1
    go_wp2_with fail
    refine (CRB.out _ _ (HK.out.below HB4.out) HVB4.out).mono ?_
    rintro e w5 ⟨rfl, b1⟩
    have HB5 : Hid (Below w.heap.size w w5) := Lib.hid (HB4.out.trans (b1.mono HB4.out.size))
    clear b1
    go_wp2
    go_ret
    exact ⟨rfl, HB5.out⟩
  · have hdd : decide (l = m) = false := decide_eq_false hlm
    rw [hdd] at CS
    have HNE := Lib.hid hlm
    clear hlm hdd
    go_wp2_with fail
    refine (CS.out _ HB2.out).mono ?_
    rintro e w3 ⟨rfl, m3, rfl⟩
    have HB3 : Hid (Below w.heap.size w (w2.drewN m3)) := Lib.hid (below_drewN HB2.out m3)
    go_wp2_with fail
    refine (CRA.out _ _ (HK.out.below HB3.out) HVA2.out).mono ?_
    rintro e w4 ⟨rfl, b1⟩
    have HB4 : Hid (Below w.heap.size w w4) := Lib.hid (HB3.out.trans (b1.mono HB3.out.size))
    have HVB4 : Hid (SV w4 v2 B) := Lib.hid (SV.below (w := w2.drewN m3) HVB2.out b1 (Nat.le_refl _))
    have HVA4 : Hid (SV w4 v1 A) := Lib.hid (SV.below (w := w2.drewN m3) HVA2.out b1 (Nat.le_refl _))
    clear b1
    go_wp2_with fail
    refine (CRB.out _ _ (HK.out.below HB4.out) HVB4.out).mono ?_
    rintro e w5 ⟨rfl, b1⟩
    have HB5 : Hid (Below w.heap.size w w5) := Lib.hid (HB4.out.trans (b1.mono HB4.out.size))
    have HVB5 := Lib.hid (HVB4.out.below b1 (Nat.le_refl _))
    have HVA5 := Lib.hid (HVA4.out.below b1 (Nat.le_refl _))
    clear b1
    by_cases hRR : RA.toList = RB.toList
    · have hb1 : (!RA.toList == RB.toList) = false := by simp [hRR]
      have HCl : Hid (Clash (IA ++ IB ++ HL)) := Lib.hid (HLw.out (str_ext hRR) HNE.out)
      clear hRR
      go_wp2_with fail
      refine (CIA.out _ _ HVA5.out).mono ?_
      rintro e w6 ⟨v6, rfl, ho, b1⟩
      have HB6 : Hid (Below w.heap.size w w6) := Lib.hid (HB5.out.trans (b1.mono HB5.out.size))
      have HVB6 := Lib.hid (HVB5.out.below b1 (Nat.le_refl _))
      have HO6 : Hid (SO w6 w.heap.size v6 IA) := Lib.hid (ho.mono HB5.out.size)
      clear ho b1
      go_wp2_with fail
      refine (CIB.out _ _ HVB6.out).mono ?_
      rintro e w7 ⟨v7, rfl, ho, b1⟩
      have HB7 : Hid (Below w.heap.size w w7) := Lib.hid (HB6.out.trans (b1.mono HB6.out.size))
      have HO7 := Lib.hid (HO6.out.below b1 (Nat.le_refl _))
      have HV7 := Lib.hid ho.sv
      clear ho b1
      go_wp2_with (at_builtin; refine wpList_append_g (by rfl) _ _ (by rfl) w.heap.size _ IA IB (by rfl) HO7.out _ (by rfl) HV7.out (by omega) HB7.out.size ?_; intro v8 w8 ho8 hb8 _; have HO8 := Lib.hid ho8; have HB8 : Hid (Below w.heap.size w w8) := Lib.hid (HB7.out.trans hb8); clear ho8 hb8)
      refine (CH.out _ HB8.out).mono ?_
      rintro e w9 ⟨v9, rfl, ho, b1⟩
      have HB9 : Hid (Below w.heap.size w w9) := Lib.hid (HB8.out.trans (b1.mono HB8.out.size))
      have HO9 := Lib.hid (HO8.out.below b1 (Nat.le_refl _))
      have HV9 := Lib.hid ho.sv
      have hln : (IA ++ IB).length + HL.length ≤ 1000000 := by simp; omega
      clear ho b1
      go_wp2_with (at_builtin; refine wpList_append_g (by rfl) _ _ (by rfl) w.heap.size _ (IA ++ IB) HL (by rfl) HO9.out _ (by rfl) HV9.out hln HB9.out.size ?_; intro va wa hoa hba _; have HOa := Lib.hid hoa; have HBa : Hid (Below w.heap.size w wa) := Lib.hid (HB9.out.trans hba); clear hoa hba)
      have CC := Lib.hid (clash_any (IA ++ IB ++ HL) va wa HOa.out.sv (by simp; omega) (by
        intro s hs
        rcases List.mem_append.1 hs with hs | hs
        · rcases List.mem_append.1 hs with hs | hs
          · exact Nat.le_trans (SIA.out s hs) (by omega)
          · exact Nat.le_trans (SIB.out s hs) (by omega)
        · exact Nat.le_trans (SHd.out s hs) (by omega)))
      refine CC.out.mono ?_
      rintro e wb ⟨bb, rfl, hiff, b1⟩
      have hbb : bb = true := hiff.2 HCl.out
      subst hbb
      have HBb : Hid (Below w.heap.size w wb) := Lib.hid (HBa.out.trans (b1.mono HBa.out.size))
      clear b1 hiff
      go_wp2
      go_ret
      exact ⟨rfl, HBb.out⟩
    · have hb1 : (!RA.toList == RB.toList) = true := by simp [hRR]
      clear hRR
      go_wp2
      go_ret
      exact ⟨rfl, HB5.out⟩
theorem mroots_walk (l m : List ByteArray) (v u : Value) (w : World) (hv : SV w v l) (hu : SV w u m) (hk : OKW w) :
    Calls Tryd.prog 6 #[v, u] w fun e w' => e = .returned (.bool true) ∧ Below w.heap.size w w' := by
  cases h1 : fewB l with
  | false => exact mroots_head l m v u w hv hu hk (.inl h1)
  | true =>
    cases h2 : fewB m with
    | false => exact mroots_head l m v u w hv hu hk (.inr (.inl ⟨h1, h2⟩))
    | true =>
      by_cases h3 : l.length = m.length
      · exact mroots_main l m v u w hv hu hk h1 h2 h3
      · exact mroots_head l m v u w hv hu hk (.inr (.inr ⟨h1, h2, h3⟩))
end Go.Proofs.YtmapodkdnbbjgaaDoor
