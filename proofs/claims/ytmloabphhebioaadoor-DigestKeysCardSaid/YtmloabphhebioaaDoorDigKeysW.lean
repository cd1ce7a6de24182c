/- DigestKeys: the walk. -/
import Derived.Test.YtmloabphhebioaaDoorDigSmall
import Derived.Test.YtmloabphhebioaaDoorOwnStep
import Derived.WalkSmall
import Derived.Deep.RegionHeld3
import Derived.BigQuiet
namespace Go.Proofs.YtmloabphhebioaaDoor
open Go.RowKit Dg
theorem keyL_zero (key : List UInt8) (h : key.length < 64) (m : UInt8) : maskL (keyL (key ++ [0])) m = maskL (keyL key) m := by
  rw [keyL, keyL, if_neg (by simp; omega), if_neg (by omega), maskL, maskL]
  apply List.map_congr_left
  intro i _
  congr 1
  rw [List.getD_eq_getElem?_getD, List.getD_eq_getElem?_getD, List.getElem?_append]
  split
  · rfl
  · rename_i hi
    rw [List.getElem?_eq_none (show key.length ≤ i by omega)]
    by_cases e : i - key.length = 0
    · rw [e]; rfl
    · rw [List.getElem?_eq_none (by simp; omega)]
theorem mac_zero (key s : List UInt8) (h : key.length < 64) : macL (key ++ [0]) s = macL key s := by
  rw [macL, macL, keyL_zero key h, keyL_zero key h]
theorem mac_sum (key s : List UInt8) (h : 64 < key.length) : macL (sumL key) s = macL key s := by
  have e : keyL (sumL key) = keyL key := by rw [keyL, keyL, if_neg (by rw [sumL_len]; omega), if_pos h]
  rw [macL, macL, e]
theorem mac_small (key s : List UInt8) (h : key.length ≤ 64) : sumL (maskL key 92 ++ sumL (maskL key 54 ++ s)) = macL key s := by
  rw [macL, keyL, if_neg (by omega)]
theorem macL_len (key s : List UInt8) : (macL key s).length = 32 := sumL_len _
theorem mask_take (key : List UInt8) (m : UInt8) (k : Nat) (h : k < 64) : (maskL key m).take (k + 1) = (maskL key m).take k ++ [key.getD k 0 ^^^ m] := by
  rw [List.take_succ_eq_append_getElem (by rw [maskL_len]; exact h)]; simp [maskL]
theorem Own.grown {w w' : World} {base : Nat} {e : TypeId} {size : Nat} {u : Value} {n : Nat} {xs : List Value} {row : Option Nat} (hu : Own w base e size u n xs) (hg : w.grownBy w' row) (hne : ∀ g, u.ownBlock = some g → some g ≠ row) :
    Own w' base e size u n xs := hu.kept fun g h hl => hg.block g hl (hne g h)
/-- two slices have no block in common -/
def Apart (u v : Value) : Prop := ∀ g, u.ownBlock = some g → v.ownBlock ≠ some g
theorem Apart.symm {u v : Value} (h : Apart u v) : Apart v u := fun g h1 h2 => h g h2 h1
theorem Apart.grown {u v v' : Value} {N : Nat} (h : Apart u v) (hu : ∀ g, u.ownBlock = some g → g < N) (hv : v'.ownBlock = v.ownBlock ∨ ∃ g, v'.ownBlock = some g ∧ N ≤ g) : Apart u v' := by
  intro g h1 h2
  rcases hv with e | ⟨g', e, hg⟩
  · exact h g h1 (e ▸ h2)
  · rw [e] at h2
    have := hu g h1
    simp at h2; omega
set_option maxRecDepth 100000 in
set_option maxHeartbeats 8000000 in
theorem keys_walk (key s : ByteArray) (w : World) (hk0 : key.size ≤ maxLen) (hs : s.size ≤ maxLen) (hK : KOK w) (hg : 0 < w.heap.size) :
    Calls Tryd.prog 7 #[.string key, .string s] w fun e w' => e = .returned (.bool true) ∧ Below w.heap.size w w' := by
  unfold maxLen at hs hk0
  have HK := Lib.hid hK
  by_cases h2 : key.size ≤ 2000 ∧ s.size ≤ 2000
  · obtain ⟨h2, h3⟩ := h2
    obtain ⟨m, hm⟩ : ∃ m, m = bs (macL key.data.toList s.data.toList) := ⟨_, rfl⟩
    have zm : m.size = 32 := by rw [hm]; exact macL_len _ _
    have HM := Lib.hid hm
    clear hm
    go_enter Tryd.func7, Tryd.ntmps7
    go_wp2_with fail
    refine (small_any w HK.out hg).mono ?_
    rintro e w1 ⟨rfl, hb⟩
    have HB1 := Lib.hid hb
    have HK1 := Lib.hid (HK.out.below hb hg)
    have hg1 := Nat.lt_of_lt_of_le hg hb.size
    clear hb hK
    go_wp2_with fail
    refine (mac_any key s w1 (by omega) (by omega) HK1.out hg1).mono ?_
    rintro e w2 ⟨rfl, hb⟩
    have HB2 := Lib.hid (HB1.out.trans (hb.mono HB1.out.size))
    have HK2 := Lib.hid (HK.out.below HB2.out hg)
    have hg2 := Nat.lt_of_lt_of_le hg HB2.out.size
    clear hb HK1 HB1 hg1
    rw [← HM.out]
    rcases Nat.lt_trichotomy key.size 64 with h64 | h64 | h64
    · have z0 : (ByteArray.mk #[0]).size = 1 := rfl
      have EM : Hid (bs (macL (key ++ ⟨#[0]⟩).data.toList s.data.toList) = m) := by
        have e : (key ++ ⟨#[0]⟩ : ByteArray).data.toList = key.data.toList ++ [0] := by simp [ByteArray.data_append]
        show _ = _; rw [HM.out, e, mac_zero _ _ (by simpa using h64)]
      have SZ : Hid ((key ++ ⟨#[0]⟩ : ByteArray).size ≤ 1000000) := by show _ ≤ _; rw [ByteArray.size_append, z0]; omega
      go_wp2_with fail
      refine (mac_any _ s w2 SZ.out (by omega) HK2.out hg2).mono ?_
      rintro e w3 ⟨rfl, hb⟩
      have HB3 := Lib.hid (HB2.out.trans (hb.mono HB2.out.size))
      have HK3 := Lib.hid (HK.out.below HB3.out hg)
      have hg3 := Nat.lt_of_lt_of_le hg HB3.out.size
      clear hb HK2 HB2 hg2 z0 SZ
      rw [EM.out]
      clear EM
      go_wp2
      obtain ⟨wo, rfl⟩ : ∃ wo : World, wo = w3 := ⟨_, rfl⟩
      go_loopw [7, 8, 9, 10] (fun v1 v2 i _ wr => ∃ (k n : Nat), k ≤ 64 ∧ i = .int .i64 k ∧ k ≤ n ∧ n ≤ k ∧ OB wr wo.heap.size v1 n ((maskL key.data.toList 54).take k) ∧ OB wr wo.heap.size v2 n ((maskL key.data.toList 92).take k) ∧ Apart v1 v2 ∧ Below wo.heap.size wo wr) (fun _ _ i _ _ => 64 - (intOf i).toNat)
      case atStart => exact ⟨0, 0, by omega, rfl, Nat.le_refl _, Nat.le_refl _, Own.nil _ _ _ _, Own.nil _ _ _ _, (fun g h => by simp [Value.ownBlock] at h), Below.refl _ _⟩
      case round =>
        obtain ⟨k, n, hk, rfl, hn1, hn2, ho1, ho2, hap, hbe⟩ := hrel
        have HO1 := Lib.hid ho1
        have HO2 := Lib.hid ho2
        have HAp := Lib.hid hap
        have HBe := Lib.hid hbe
        clear ho1 ho2 hap hbe
        by_cases hk64 : k < 64
        · obtain ⟨i0, hi, hz0, hz1, hz2⟩ := info_parts byte_info
          by_cases hks : k < key.size
          · have hgd : key.data.toList.getD k 0 = key[k] := by rw [List.getD_eq_getElem?_getD, List.getElem?_eq_getElem (by simpa using hks)]; rfl
            obtain ⟨a1, ha1⟩ : ∃ a, a = key[k] ^^^ 54 := ⟨_, rfl⟩
            obtain ⟨a2, ha2⟩ : ∃ a, a = key[k] ^^^ 92 := ⟨_, rfl⟩
            have r1 : bits .xor .u8 (key[k].toNat : Int) 54 = (a1.toNat : Int) := by rw [ha1]; exact xor8 key[k] 54
            have r2 : bits .xor .u8 (key[k].toNat : Int) 92 = (a2.toNat : Int) := by rw [ha2]; exact xor8 key[k] 92
            have HA1 : Hid (a1 = key.data.toList.getD k 0 ^^^ 54) := by show _ = _; rw [hgd, ha1]
            have HA2 : Hid (a2 = key.data.toList.getD k 0 ^^^ 92) := by show _ = _; rw [hgd, ha2]
            clear hgd ha1 ha2
            go_wp2_with (first
                | ((with_reducible show wpList _ _ _ (Oper.mk (some 68) _ _ _ _ _ :: _) _ _); refine wpList_append_x rfl _ _ 30 rfl wo.heap.size 5 i0 (.int .u8 0) 1 1 Tryd.underlying30 hi hz0 hz1 hz2 rfl (by decide) _ _ _ rfl (HO1.out.alloc _) ⟨wr.heap.size, 0, none⟩ 1 1 [.int .u8 (a1.toNat : Int)] rfl rfl (cell_one_new _ _ _) (bytes_one a1) (by unfold maxLen; omega) (by omega) (by have := HBe.out.size; simp; omega) ?_; intro v1 w4 hown1 hg1 _ hv1;
                    have HO1' : Hid (OB w4 wo.heap.size v1 (n + 1) ((maskL key.data.toList 54).take k ++ [a1])) := OB.snoc hown1;
                    have HO2' : Hid (OB w4 wo.heap.size u8 n ((maskL key.data.toList 92).take k)) := (HO2.out.alloc _).grown hg1 (fun g h e => HAp.out g e.symm h);
                    have HAp' : Hid (Apart v1 u8) := (HAp.out.symm.grown (fun g h => by have := ((HO2.out.alloc (.cells #[.int .u8 (a1.toNat : Int)] 5)).block_ge g h).2; exact this) hv1).symm;
                    have HBe' : Hid (Below wo.heap.size wo w4) := (HBe.out.alloc HBe.out.size _).grown hg1 (by have := HBe.out.size; simp; omega) (fun k hk => (HO1.out.block_ge k hk).1);
                    clear hown1 hg1 hv1)
                | ((with_reducible show wpList _ _ _ (Oper.mk (some 73) _ _ _ _ _ :: _) _ _); refine wpList_append_x rfl _ _ 30 rfl wo.heap.size 5 i0 (.int .u8 0) 1 1 Tryd.underlying30 hi hz0 hz1 hz2 rfl (by decide) _ _ _ rfl (HO2'.out.alloc _) ⟨w4.heap.size, 0, none⟩ 1 1 [.int .u8 (a2.toNat : Int)] rfl rfl (cell_one_new _ _ _) (bytes_one a2) (by unfold maxLen; omega) (by omega) (by have := HBe'.out.size; simp; omega) ?_; intro v2 w5 hown2 hg2' _ hv2))
            have HP2 : Hid (OB w5 wo.heap.size v2 (n + 1) ((maskL key.data.toList 92).take k ++ [a2])) := OB.snoc hown2
            have HP1 : Hid (OB w5 wo.heap.size v1 (n + 1) ((maskL key.data.toList 54).take k ++ [a1])) := (HO1'.out.alloc _).grown hg2' (fun g h e => HAp'.out g h e.symm)
            have HApp : Hid (Apart v1 v2) := HAp'.out.grown (fun g h => by have := ((HO1'.out.alloc (.cells #[.int .u8 (a2.toNat : Int)] 5)).block_ge g h).2; exact this) hv2
            have HBp : Hid (Below wo.heap.size wo w5) := (HBe'.out.alloc HBe'.out.size _).grown hg2' (by have := HBe'.out.size; simp; omega) (fun k hk => (HO2'.out.block_ge k hk).1)
            clear hown2 hg2' hv2 HO1' HO2' HAp' HBe' r1 r2
            go_wp2
            go_roundw
            case rel => exact ⟨k + 1, n + 1, by omega, by go_num, by omega, by omega, by rw [mask_take _ _ _ hk64, ← HA1.out]; exact HP1.out, by rw [mask_take _ _ _ hk64, ← HA2.out]; exact HP2.out, HApp.out, HBp.out⟩
            case measure => simp [intOf]; omega
          · have hgd : key.data.toList.getD k 0 = 0 := by rw [List.getD_eq_getElem?_getD, List.getElem?_eq_none (by simpa using hks)]; rfl
            obtain ⟨a1, ha1⟩ : ∃ a : UInt8, a = 54 := ⟨_, rfl⟩
            obtain ⟨a2, ha2⟩ : ∃ a : UInt8, a = 92 := ⟨_, rfl⟩
            have r1 : bits .xor .u8 0 54 = (a1.toNat : Int) := by rw [ha1]; decide
            have r2 : bits .xor .u8 0 92 = (a2.toNat : Int) := by rw [ha2]; decide
            have HA1 : Hid (a1 = key.data.toList.getD k 0 ^^^ 54) := by show _ = _; rw [hgd, ha1]; rfl
            have HA2 : Hid (a2 = key.data.toList.getD k 0 ^^^ 92) := by show _ = _; rw [hgd, ha2]; rfl
            clear hgd ha1 ha2
            go_wp2_with (first
                | ((with_reducible show wpList _ _ _ (Oper.mk (some 68) _ _ _ _ _ :: _) _ _); refine wpList_append_x rfl _ _ 30 rfl wo.heap.size 5 i0 (.int .u8 0) 1 1 Tryd.underlying30 hi hz0 hz1 hz2 rfl (by decide) _ _ _ rfl (HO1.out.alloc _) ⟨wr.heap.size, 0, none⟩ 1 1 [.int .u8 (a1.toNat : Int)] rfl rfl (cell_one_new _ _ _) (bytes_one a1) (by unfold maxLen; omega) (by omega) (by have := HBe.out.size; simp; omega) ?_; intro v1 w4 hown1 hg1 _ hv1;
                    have HO1' : Hid (OB w4 wo.heap.size v1 (n + 1) ((maskL key.data.toList 54).take k ++ [a1])) := OB.snoc hown1;
                    have HO2' : Hid (OB w4 wo.heap.size u8 n ((maskL key.data.toList 92).take k)) := (HO2.out.alloc _).grown hg1 (fun g h e => HAp.out g e.symm h);
                    have HAp' : Hid (Apart v1 u8) := (HAp.out.symm.grown (fun g h => by have := ((HO2.out.alloc (.cells #[.int .u8 (a1.toNat : Int)] 5)).block_ge g h).2; exact this) hv1).symm;
                    have HBe' : Hid (Below wo.heap.size wo w4) := (HBe.out.alloc HBe.out.size _).grown hg1 (by have := HBe.out.size; simp; omega) (fun k hk => (HO1.out.block_ge k hk).1);
                    clear hown1 hg1 hv1)
                | ((with_reducible show wpList _ _ _ (Oper.mk (some 73) _ _ _ _ _ :: _) _ _); refine wpList_append_x rfl _ _ 30 rfl wo.heap.size 5 i0 (.int .u8 0) 1 1 Tryd.underlying30 hi hz0 hz1 hz2 rfl (by decide) _ _ _ rfl (HO2'.out.alloc _) ⟨w4.heap.size, 0, none⟩ 1 1 [.int .u8 (a2.toNat : Int)] rfl rfl (cell_one_new _ _ _) (bytes_one a2) (by unfold maxLen; omega) (by omega) (by have := HBe'.out.size; simp; omega) ?_; intro v2 w5 hown2 hg2' _ hv2))
            have HP2 : Hid (OB w5 wo.heap.size v2 (n + 1) ((maskL key.data.toList 92).take k ++ [a2])) := OB.snoc hown2
            have HP1 : Hid (OB w5 wo.heap.size v1 (n + 1) ((maskL key.data.toList 54).take k ++ [a1])) := (HO1'.out.alloc _).grown hg2' (fun g h e => HAp'.out g h e.symm)
            have HApp : Hid (Apart v1 v2) := HAp'.out.grown (fun g h => by have := ((HO1'.out.alloc (.cells #[.int .u8 (a2.toNat : Int)] 5)).block_ge g h).2; exact this) hv2
            have HBp : Hid (Below wo.heap.size wo w5) := (HBe'.out.alloc HBe'.out.size _).grown hg2' (by have := HBe'.out.size; simp; omega) (fun k hk => (HO2'.out.block_ge k hk).1)
            clear hown2 hg2' hv2 HO1' HO2' HAp' HBe' r1 r2
            go_wp2
            go_roundw
            case rel => exact ⟨k + 1, n + 1, by omega, by go_num, by omega, by omega, by rw [mask_take _ _ _ hk64, ← HA1.out]; exact HP1.out, by rw [mask_take _ _ _ hk64, ← HA2.out]; exact HP2.out, HApp.out, HBp.out⟩
            case measure => simp [intOf]; omega
        · have hd : decide ((key.size : Int) ≤ 64) = true := by simpa using (show (key.size : Int) ≤ 64 by omega)
          have e64 : k = 64 := by omega
          have HI : Hid (OB wr wo.heap.size u7 n (maskL key.data.toList 54)) := by
            have h := HO1.out
            rw [e64, List.take_of_length_le (by rw [maskL_len]; omega)] at h
            exact h
          have HO : Hid (OB wr wo.heap.size u8 n (maskL key.data.toList 92)) := by
            have h := HO2.out
            rw [e64, List.take_of_length_le (by rw [maskL_len]; omega)] at h
            exact h
          clear HO1 HO2
          have HCI : Hid (∀ W, Below wr.heap.size wr W → (convert 30 9 u7).run Tryd.prog W = .ok (.string (bs (maskL key.data.toList 54))) W) := fun W hW =>
            (HI.out.below hW (Nat.le_refl _)).run_str _ _ Tryd.underlying30 Tryd.underlying5 Tryd.underlying9
          have HCO : Hid (∀ W, Below wr.heap.size wr W → (convert 30 9 u8).run Tryd.prog W = .ok (.string (bs (maskL key.data.toList 92))) W) := fun W hW =>
            (HO.out.below hW (Nat.le_refl _)).run_str _ _ Tryd.underlying30 Tryd.underlying5 Tryd.underlying9
          obtain ⟨I, hI⟩ : ∃ I, I = bs (maskL key.data.toList 54) := ⟨_, rfl⟩
          obtain ⟨O, hO⟩ : ∃ I, I = bs (maskL key.data.toList 92) := ⟨_, rfl⟩
          have zI : I.size = 64 := by rw [hI]; exact maskL_len _ _
          have zO : O.size = 64 := by rw [hO]; exact maskL_len _ _
          have EM : Hid (bs (sumL (O ++ bs (sumL (I ++ s).data.toList)).data.toList) = m) := by
            show _ = _; rw [HM.out, ← mac_small _ _ (show key.data.toList.length ≤ 64 by simp; omega), hI, hO]
            congr 2
          rw [← hI] at HCI
          rw [← hO] at HCO
          clear hI hO HI HO
          obtain ⟨A1, ha1⟩ : ∃ A, A = I ++ s := ⟨_, rfl⟩
          have SI : A1.size ≤ 1000000 := by rw [ha1, ByteArray.size_append, zI]; omega
          rw [← ha1] at EM
          obtain ⟨D1, hd1⟩ : ∃ A, A = bs (sumL A1.data.toList) := ⟨_, rfl⟩
          have zD : D1.size = 32 := by rw [hd1]; exact sumL_len _
          rw [← hd1] at EM
          obtain ⟨A2, ha2⟩ : ∃ A, A = O ++ D1 := ⟨_, rfl⟩
          have SO : A2.size ≤ 1000000 := by rw [ha2, ByteArray.size_append, zO, zD]; omega
          rw [← ha2] at EM
          have S1 : Hid (∀ W, KOK W → 0 < W.heap.size → Calls Tryd.prog 18 #[.string A1] W fun e w' => e = .returned (.string D1) ∧ Below W.heap.size W w') := fun W h1 h2 => by
            rw [hd1]; exact sum_any A1 W SI h1 h2
          have S2 : Hid (∀ W, KOK W → 0 < W.heap.size → Calls Tryd.prog 18 #[.string A2] W fun e w' => e = .returned (.string m) ∧ Below W.heap.size W w') := fun W h1 h2 => by
            rw [← EM.out]; exact sum_any A2 W SO h1 h2
          have x1 : I ++ s = A1 := ha1.symm
          have x2 : O ++ D1 = A2 := ha2.symm
          have l1 : ¬ 9223372036854775807 < 64 + s.size := by omega
          have l2 : ¬ 9223372036854775743 < s.size := by omega
          clear ha1 ha2 hd1 EM SI SO HM
          have HBd : Hid (Below wr.heap.size wr wr.drew) := (Below.refl _ wr).drew
          have HBw : Hid (Below wo.heap.size wo wr.drew) := HBe.out.drew
          have c1 := HCI.out wr.drew HBd.out
          have c2 := HCO.out wr.drew HBd.out
          have HKr : Hid (KOK wr.drew) := HK3.out.below HBw.out hg3
          have hgr : 0 < wr.drew.heap.size := Nat.lt_of_lt_of_le hg3 HBw.out.size
          go_wp2_with fail
          go_region_held3 (fun w' => (convert 30 9 u7).run Tryd.prog w' = .ok (.string I) w' ∧ (convert 30 9 u8).run Tryd.prog w' = .ok (.string O) w')
            (first | go_keep | exact ⟨hc5i, hc5⟩ | exact ⟨hc6i, hc6⟩)
            ((first
              | (go_at_call 18; refine (S2.out _ HK5.out hg5).mono ?_; rintro e w6 ⟨rfl, hb6⟩; have hc6 := HCO.out w6 (HBd5.out.trans (hb6.mono HBd5.out.size)); have hc6i := HCI.out w6 (HBd5.out.trans (hb6.mono HBd5.out.size)); have HB6 : Hid (Below wo.heap.size wo w6) := HB5.out.trans (hb6.mono HB5.out.size); clear hb6)
              | (go_at_call 18; refine (S1.out _ HKr.out hgr).mono ?_; rintro e w5 ⟨rfl, hb5⟩; have hc5 := HCO.out w5 (HBd.out.trans (hb5.mono HBd.out.size)); have hc5i := HCI.out w5 (HBd.out.trans (hb5.mono HBd.out.size)); have HBd5 : Hid (Below wr.heap.size wr w5) := (HBd.out.trans (hb5.mono HBd.out.size)); have HK5 : Hid (KOK w5) := HKr.out.below hb5 hgr; have hg5 := Nat.lt_of_lt_of_le hgr hb5.size; have HB5 : Hid (Below wo.heap.size wo w5) := HBw.out.trans (hb5.mono HBw.out.size); clear hb5)))
          clear hc5 hc5i hc6 hc6i c1 c2 x1 x2 HBd5 l1 l2
          go_wp2
          go_ret
          exact ⟨rfl, HB3.out.trans (HB6.out.mono HB3.out.size)⟩
    · obtain ⟨w3, rfl⟩ : ∃ w3 : World, w3 = w2 := ⟨_, rfl⟩
      have HB3 := HB2
      have HK3 := HK2
      have hg3 := hg2
      clear HK2 HB2 hg2
      go_wp2
      obtain ⟨wo, rfl⟩ : ∃ wo : World, wo = w3 := ⟨_, rfl⟩
      go_loopw [7, 8, 9, 10] (fun v1 v2 i _ wr => ∃ (k n : Nat), k ≤ 64 ∧ i = .int .i64 k ∧ k ≤ n ∧ n ≤ k ∧ OB wr wo.heap.size v1 n ((maskL key.data.toList 54).take k) ∧ OB wr wo.heap.size v2 n ((maskL key.data.toList 92).take k) ∧ Apart v1 v2 ∧ Below wo.heap.size wo wr) (fun _ _ i _ _ => 64 - (intOf i).toNat)
      case atStart => exact ⟨0, 0, by omega, rfl, Nat.le_refl _, Nat.le_refl _, Own.nil _ _ _ _, Own.nil _ _ _ _, (fun g h => by simp [Value.ownBlock] at h), Below.refl _ _⟩
      case round =>
        obtain ⟨k, n, hk, rfl, hn1, hn2, ho1, ho2, hap, hbe⟩ := hrel
        have HO1 := Lib.hid ho1
        have HO2 := Lib.hid ho2
        have HAp := Lib.hid hap
        have HBe := Lib.hid hbe
        clear ho1 ho2 hap hbe
        by_cases hk64 : k < 64
        · obtain ⟨i0, hi, hz0, hz1, hz2⟩ := info_parts byte_info
          by_cases hks : k < key.size
          · have hgd : key.data.toList.getD k 0 = key[k] := by rw [List.getD_eq_getElem?_getD, List.getElem?_eq_getElem (by simpa using hks)]; rfl
            obtain ⟨a1, ha1⟩ : ∃ a, a = key[k] ^^^ 54 := ⟨_, rfl⟩
            obtain ⟨a2, ha2⟩ : ∃ a, a = key[k] ^^^ 92 := ⟨_, rfl⟩
            have r1 : bits .xor .u8 (key[k].toNat : Int) 54 = (a1.toNat : Int) := by rw [ha1]; exact xor8 key[k] 54
            have r2 : bits .xor .u8 (key[k].toNat : Int) 92 = (a2.toNat : Int) := by rw [ha2]; exact xor8 key[k] 92
            have HA1 : Hid (a1 = key.data.toList.getD k 0 ^^^ 54) := by show _ = _; rw [hgd, ha1]
            have HA2 : Hid (a2 = key.data.toList.getD k 0 ^^^ 92) := by show _ = _; rw [hgd, ha2]
            clear hgd ha1 ha2
            go_wp2_with (first
                | ((with_reducible show wpList _ _ _ (Oper.mk (some 68) _ _ _ _ _ :: _) _ _); refine wpList_append_x rfl _ _ 30 rfl wo.heap.size 5 i0 (.int .u8 0) 1 1 Tryd.underlying30 hi hz0 hz1 hz2 rfl (by decide) _ _ _ rfl (HO1.out.alloc _) ⟨wr.heap.size, 0, none⟩ 1 1 [.int .u8 (a1.toNat : Int)] rfl rfl (cell_one_new _ _ _) (bytes_one a1) (by unfold maxLen; omega) (by omega) (by have := HBe.out.size; simp; omega) ?_; intro v1 w4 hown1 hg1 _ hv1;
                    have HO1' : Hid (OB w4 wo.heap.size v1 (n + 1) ((maskL key.data.toList 54).take k ++ [a1])) := OB.snoc hown1;
                    have HO2' : Hid (OB w4 wo.heap.size u8 n ((maskL key.data.toList 92).take k)) := (HO2.out.alloc _).grown hg1 (fun g h e => HAp.out g e.symm h);
                    have HAp' : Hid (Apart v1 u8) := (HAp.out.symm.grown (fun g h => by have := ((HO2.out.alloc (.cells #[.int .u8 (a1.toNat : Int)] 5)).block_ge g h).2; exact this) hv1).symm;
                    have HBe' : Hid (Below wo.heap.size wo w4) := (HBe.out.alloc HBe.out.size _).grown hg1 (by have := HBe.out.size; simp; omega) (fun k hk => (HO1.out.block_ge k hk).1);
                    clear hown1 hg1 hv1)
                | ((with_reducible show wpList _ _ _ (Oper.mk (some 73) _ _ _ _ _ :: _) _ _); refine wpList_append_x rfl _ _ 30 rfl wo.heap.size 5 i0 (.int .u8 0) 1 1 Tryd.underlying30 hi hz0 hz1 hz2 rfl (by decide) _ _ _ rfl (HO2'.out.alloc _) ⟨w4.heap.size, 0, none⟩ 1 1 [.int .u8 (a2.toNat : Int)] rfl rfl (cell_one_new _ _ _) (bytes_one a2) (by unfold maxLen; omega) (by omega) (by have := HBe'.out.size; simp; omega) ?_; intro v2 w5 hown2 hg2' _ hv2))
            have HP2 : Hid (OB w5 wo.heap.size v2 (n + 1) ((maskL key.data.toList 92).take k ++ [a2])) := OB.snoc hown2
            have HP1 : Hid (OB w5 wo.heap.size v1 (n + 1) ((maskL key.data.toList 54).take k ++ [a1])) := (HO1'.out.alloc _).grown hg2' (fun g h e => HAp'.out g h e.symm)
            have HApp : Hid (Apart v1 v2) := HAp'.out.grown (fun g h => by have := ((HO1'.out.alloc (.cells #[.int .u8 (a2.toNat : Int)] 5)).block_ge g h).2; exact this) hv2
            have HBp : Hid (Below wo.heap.size wo w5) := (HBe'.out.alloc HBe'.out.size _).grown hg2' (by have := HBe'.out.size; simp; omega) (fun k hk => (HO2'.out.block_ge k hk).1)
            clear hown2 hg2' hv2 HO1' HO2' HAp' HBe' r1 r2
            go_wp2
            go_roundw
            case rel => exact ⟨k + 1, n + 1, by omega, by go_num, by omega, by omega, by rw [mask_take _ _ _ hk64, ← HA1.out]; exact HP1.out, by rw [mask_take _ _ _ hk64, ← HA2.out]; exact HP2.out, HApp.out, HBp.out⟩
            case measure => simp [intOf]; omega
          · omega
        · have hd : decide ((key.size : Int) ≤ 64) = true := by simpa using (show (key.size : Int) ≤ 64 by omega)
          have e64 : k = 64 := by omega
          have HI : Hid (OB wr wo.heap.size u7 n (maskL key.data.toList 54)) := by
            have h := HO1.out
            rw [e64, List.take_of_length_le (by rw [maskL_len]; omega)] at h
            exact h
          have HO : Hid (OB wr wo.heap.size u8 n (maskL key.data.toList 92)) := by
            have h := HO2.out
            rw [e64, List.take_of_length_le (by rw [maskL_len]; omega)] at h
            exact h
          clear HO1 HO2
          have HCI : Hid (∀ W, Below wr.heap.size wr W → (convert 30 9 u7).run Tryd.prog W = .ok (.string (bs (maskL key.data.toList 54))) W) := fun W hW =>
            (HI.out.below hW (Nat.le_refl _)).run_str _ _ Tryd.underlying30 Tryd.underlying5 Tryd.underlying9
          have HCO : Hid (∀ W, Below wr.heap.size wr W → (convert 30 9 u8).run Tryd.prog W = .ok (.string (bs (maskL key.data.toList 92))) W) := fun W hW =>
            (HO.out.below hW (Nat.le_refl _)).run_str _ _ Tryd.underlying30 Tryd.underlying5 Tryd.underlying9
          obtain ⟨I, hI⟩ : ∃ I, I = bs (maskL key.data.toList 54) := ⟨_, rfl⟩
          obtain ⟨O, hO⟩ : ∃ I, I = bs (maskL key.data.toList 92) := ⟨_, rfl⟩
          have zI : I.size = 64 := by rw [hI]; exact maskL_len _ _
          have zO : O.size = 64 := by rw [hO]; exact maskL_len _ _
          have EM : Hid (bs (sumL (O ++ bs (sumL (I ++ s).data.toList)).data.toList) = m) := by
            show _ = _; rw [HM.out, ← mac_small _ _ (show key.data.toList.length ≤ 64 by simp; omega), hI, hO]
            congr 2
          rw [← hI] at HCI
          rw [← hO] at HCO
          clear hI hO HI HO
          obtain ⟨A1, ha1⟩ : ∃ A, A = I ++ s := ⟨_, rfl⟩
          have SI : A1.size ≤ 1000000 := by rw [ha1, ByteArray.size_append, zI]; omega
          rw [← ha1] at EM
          obtain ⟨D1, hd1⟩ : ∃ A, A = bs (sumL A1.data.toList) := ⟨_, rfl⟩
          have zD : D1.size = 32 := by rw [hd1]; exact sumL_len _
          rw [← hd1] at EM
          obtain ⟨A2, ha2⟩ : ∃ A, A = O ++ D1 := ⟨_, rfl⟩
          have SO : A2.size ≤ 1000000 := by rw [ha2, ByteArray.size_append, zO, zD]; omega
          rw [← ha2] at EM
          have S1 : Hid (∀ W, KOK W → 0 < W.heap.size → Calls Tryd.prog 18 #[.string A1] W fun e w' => e = .returned (.string D1) ∧ Below W.heap.size W w') := fun W h1 h2 => by
            rw [hd1]; exact sum_any A1 W SI h1 h2
          have S2 : Hid (∀ W, KOK W → 0 < W.heap.size → Calls Tryd.prog 18 #[.string A2] W fun e w' => e = .returned (.string m) ∧ Below W.heap.size W w') := fun W h1 h2 => by
            rw [← EM.out]; exact sum_any A2 W SO h1 h2
          have x1 : I ++ s = A1 := ha1.symm
          have x2 : O ++ D1 = A2 := ha2.symm
          have l1 : ¬ 9223372036854775807 < 64 + s.size := by omega
          have l2 : ¬ 9223372036854775743 < s.size := by omega
          clear ha1 ha2 hd1 EM SI SO HM
          have HBd : Hid (Below wr.heap.size wr wr.drew) := (Below.refl _ wr).drew
          have HBw : Hid (Below wo.heap.size wo wr.drew) := HBe.out.drew
          have c1 := HCI.out wr.drew HBd.out
          have c2 := HCO.out wr.drew HBd.out
          have HKr : Hid (KOK wr.drew) := HK3.out.below HBw.out hg3
          have hgr : 0 < wr.drew.heap.size := Nat.lt_of_lt_of_le hg3 HBw.out.size
          go_wp2_with fail
          go_region_held3 (fun w' => (convert 30 9 u7).run Tryd.prog w' = .ok (.string I) w' ∧ (convert 30 9 u8).run Tryd.prog w' = .ok (.string O) w')
            (first | go_keep | exact ⟨hc5i, hc5⟩ | exact ⟨hc6i, hc6⟩)
            ((first
              | (go_at_call 18; refine (S2.out _ HK5.out hg5).mono ?_; rintro e w6 ⟨rfl, hb6⟩; have hc6 := HCO.out w6 (HBd5.out.trans (hb6.mono HBd5.out.size)); have hc6i := HCI.out w6 (HBd5.out.trans (hb6.mono HBd5.out.size)); have HB6 : Hid (Below wo.heap.size wo w6) := HB5.out.trans (hb6.mono HB5.out.size); clear hb6)
              | (go_at_call 18; refine (S1.out _ HKr.out hgr).mono ?_; rintro e w5 ⟨rfl, hb5⟩; have hc5 := HCO.out w5 (HBd.out.trans (hb5.mono HBd.out.size)); have hc5i := HCI.out w5 (HBd.out.trans (hb5.mono HBd.out.size)); have HBd5 : Hid (Below wr.heap.size wr w5) := (HBd.out.trans (hb5.mono HBd.out.size)); have HK5 : Hid (KOK w5) := HKr.out.below hb5 hgr; have hg5 := Nat.lt_of_lt_of_le hgr hb5.size; have HB5 : Hid (Below wo.heap.size wo w5) := HBw.out.trans (hb5.mono HBw.out.size); clear hb5)))
          clear hc5 hc5i hc6 hc6i c1 c2 x1 x2 HBd5 l1 l2
          go_wp2
          go_ret
          exact ⟨rfl, HB3.out.trans (HB6.out.mono HB3.out.size)⟩
    · have EM : Hid (bs (macL (bs (sumL key.data.toList)).data.toList s.data.toList) = m) := by
        show _ = _; rw [HM.out, bs_data, mac_sum _ _ (by simpa using h64)]
      have SZ : Hid ((bs (sumL key.data.toList)).size ≤ 1000000) := by show (sumL _).length ≤ _; rw [sumL_len]; omega
      go_wp2_with fail
      refine (sum_any key w2 (by omega) HK2.out hg2).mono ?_
      rintro e w4 ⟨rfl, hb⟩
      have HB4 := Lib.hid (HB2.out.trans (hb.mono HB2.out.size))
      have HK4 := Lib.hid (HK.out.below HB4.out hg)
      have hg4 := Nat.lt_of_lt_of_le hg HB4.out.size
      clear hb HK2 HB2 hg2
      go_wp2_with fail
      refine (mac_any _ s w4 SZ.out (by omega) HK4.out hg4).mono ?_
      rintro e w3 ⟨rfl, hb⟩
      have HB3 := Lib.hid (HB4.out.trans (hb.mono HB4.out.size))
      have HK3 := Lib.hid (HK.out.below HB3.out hg)
      have hg3 := Nat.lt_of_lt_of_le hg HB3.out.size
      clear hb HK4 HB4 hg4 SZ
      rw [EM.out]
      clear EM
      go_wp2
      obtain ⟨wo, rfl⟩ : ∃ wo : World, wo = w3 := ⟨_, rfl⟩
      go_loopw [7, 8, 9, 10] (fun v1 v2 i _ wr => ∃ (k n : Nat), k ≤ 64 ∧ i = .int .i64 k ∧ k ≤ n ∧ n ≤ k ∧ OB wr wo.heap.size v1 n ((maskL key.data.toList 54).take k) ∧ OB wr wo.heap.size v2 n ((maskL key.data.toList 92).take k) ∧ Apart v1 v2 ∧ Below wo.heap.size wo wr) (fun _ _ i _ _ => 64 - (intOf i).toNat)
      case atStart => exact ⟨0, 0, by omega, rfl, Nat.le_refl _, Nat.le_refl _, Own.nil _ _ _ _, Own.nil _ _ _ _, (fun g h => by simp [Value.ownBlock] at h), Below.refl _ _⟩
      case round =>
        obtain ⟨k, n, hk, rfl, hn1, hn2, ho1, ho2, hap, hbe⟩ := hrel
        have HO1 := Lib.hid ho1
        have HO2 := Lib.hid ho2
        have HAp := Lib.hid hap
        have HBe := Lib.hid hbe
        clear ho1 ho2 hap hbe
        by_cases hk64 : k < 64
        · obtain ⟨i0, hi, hz0, hz1, hz2⟩ := info_parts byte_info
          by_cases hks : k < key.size
          · have hgd : key.data.toList.getD k 0 = key[k] := by rw [List.getD_eq_getElem?_getD, List.getElem?_eq_getElem (by simpa using hks)]; rfl
            obtain ⟨a1, ha1⟩ : ∃ a, a = key[k] ^^^ 54 := ⟨_, rfl⟩
            obtain ⟨a2, ha2⟩ : ∃ a, a = key[k] ^^^ 92 := ⟨_, rfl⟩
            have r1 : bits .xor .u8 (key[k].toNat : Int) 54 = (a1.toNat : Int) := by rw [ha1]; exact xor8 key[k] 54
            have r2 : bits .xor .u8 (key[k].toNat : Int) 92 = (a2.toNat : Int) := by rw [ha2]; exact xor8 key[k] 92
            have HA1 : Hid (a1 = key.data.toList.getD k 0 ^^^ 54) := by show _ = _; rw [hgd, ha1]
            have HA2 : Hid (a2 = key.data.toList.getD k 0 ^^^ 92) := by show _ = _; rw [hgd, ha2]
            clear hgd ha1 ha2
            go_wp2_with (first
                | ((with_reducible show wpList _ _ _ (Oper.mk (some 68) _ _ _ _ _ :: _) _ _); refine wpList_append_x rfl _ _ 30 rfl wo.heap.size 5 i0 (.int .u8 0) 1 1 Tryd.underlying30 hi hz0 hz1 hz2 rfl (by decide) _ _ _ rfl (HO1.out.alloc _) ⟨wr.heap.size, 0, none⟩ 1 1 [.int .u8 (a1.toNat : Int)] rfl rfl (cell_one_new _ _ _) (bytes_one a1) (by unfold maxLen; omega) (by omega) (by have := HBe.out.size; simp; omega) ?_; intro v1 w4 hown1 hg1 _ hv1;
                    have HO1' : Hid (OB w4 wo.heap.size v1 (n + 1) ((maskL key.data.toList 54).take k ++ [a1])) := OB.snoc hown1;
                    have HO2' : Hid (OB w4 wo.heap.size u8 n ((maskL key.data.toList 92).take k)) := (HO2.out.alloc _).grown hg1 (fun g h e => HAp.out g e.symm h);
                    have HAp' : Hid (Apart v1 u8) := (HAp.out.symm.grown (fun g h => by have := ((HO2.out.alloc (.cells #[.int .u8 (a1.toNat : Int)] 5)).block_ge g h).2; exact this) hv1).symm;
                    have HBe' : Hid (Below wo.heap.size wo w4) := (HBe.out.alloc HBe.out.size _).grown hg1 (by have := HBe.out.size; simp; omega) (fun k hk => (HO1.out.block_ge k hk).1);
                    clear hown1 hg1 hv1)
                | ((with_reducible show wpList _ _ _ (Oper.mk (some 73) _ _ _ _ _ :: _) _ _); refine wpList_append_x rfl _ _ 30 rfl wo.heap.size 5 i0 (.int .u8 0) 1 1 Tryd.underlying30 hi hz0 hz1 hz2 rfl (by decide) _ _ _ rfl (HO2'.out.alloc _) ⟨w4.heap.size, 0, none⟩ 1 1 [.int .u8 (a2.toNat : Int)] rfl rfl (cell_one_new _ _ _) (bytes_one a2) (by unfold maxLen; omega) (by omega) (by have := HBe'.out.size; simp; omega) ?_; intro v2 w5 hown2 hg2' _ hv2))
            have HP2 : Hid (OB w5 wo.heap.size v2 (n + 1) ((maskL key.data.toList 92).take k ++ [a2])) := OB.snoc hown2
            have HP1 : Hid (OB w5 wo.heap.size v1 (n + 1) ((maskL key.data.toList 54).take k ++ [a1])) := (HO1'.out.alloc _).grown hg2' (fun g h e => HAp'.out g h e.symm)
            have HApp : Hid (Apart v1 v2) := HAp'.out.grown (fun g h => by have := ((HO1'.out.alloc (.cells #[.int .u8 (a2.toNat : Int)] 5)).block_ge g h).2; exact this) hv2
            have HBp : Hid (Below wo.heap.size wo w5) := (HBe'.out.alloc HBe'.out.size _).grown hg2' (by have := HBe'.out.size; simp; omega) (fun k hk => (HO2'.out.block_ge k hk).1)
            clear hown2 hg2' hv2 HO1' HO2' HAp' HBe' r1 r2
            go_wp2
            go_roundw
            case rel => exact ⟨k + 1, n + 1, by omega, by go_num, by omega, by omega, by rw [mask_take _ _ _ hk64, ← HA1.out]; exact HP1.out, by rw [mask_take _ _ _ hk64, ← HA2.out]; exact HP2.out, HApp.out, HBp.out⟩
            case measure => simp [intOf]; omega
          · omega
        · have hd : decide ((key.size : Int) ≤ 64) = false := by simpa using (show ¬ (key.size : Int) ≤ 64 by omega)
          go_wp2_with fail
          go_quiet (fail)
          go_wp2
          go_ret
          exact ⟨rfl, HB3.out.trans ((below_drewN HBe.out _).mono HB3.out.size)⟩
  · go_enter Tryd.func7, Tryd.ntmps7
    go_wp2_with fail
    refine (small_any w HK.out hg).mono ?_
    rintro e w1 ⟨rfl, hb⟩
    have HB := Lib.hid hb
    clear hb hK
    rcases Nat.lt_or_ge 2000 key.size with h3 | h3
    · go_wp2
      go_ret
      exact ⟨rfl, HB.out⟩
    · have h4 : 2000 < s.size := by omega
      go_wp2
      go_ret
      exact ⟨rfl, HB.out⟩
end Go.Proofs.YtmloabphhebioaaDoor
