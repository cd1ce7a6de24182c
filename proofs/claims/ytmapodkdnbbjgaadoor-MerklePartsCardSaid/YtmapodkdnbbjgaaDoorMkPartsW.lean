/- MerkleParts: the walk. -/
import Derived.Test.YtmapodkdnbbjgaaDoorMkWalk8
namespace Go.Proofs.YtmapodkdnbbjgaaDoor
open Go.RowKit Mk Sl
set_option maxHeartbeats 2000000 in
theorem parts_head (l : List ByteArray) (v : Value) (k i : Int) (w : World) (hv : SV w v l) (hk : OKW w)
    (bad : fewB l = false ∨ k < 1 ∨ 6 < k ∨ ∃ K at' : Nat, k = K ∧ 1 ≤ K ∧ K ≤ 6 ∧ at' = 2 ^ K ∧ (l.length ≤ at' ∨ (at' < l.length ∧ 2 * at' < l.length) ∨ (at' < l.length ∧ l.length ≤ 2 * at' ∧ i < 0) ∨ (at' < l.length ∧ l.length ≤ 2 * at' ∧ 0 ≤ i ∧ (l.length : Int) ≤ i))) :
    Calls Tryd.prog 7 #[v, .int .i64 k, .int .i64 i] w fun e w' => e = .returned (.bool true) ∧ Below w.heap.size w w' := by
  obtain ⟨p, cap, rfl, _, _⟩ := hv.shape
  have HV := Lib.hid hv
  have HK := Lib.hid hk
  have HBad := Lib.hid bad
  obtain ⟨fb, hfb⟩ : ∃ b, fewB l = b := ⟨_, rfl⟩
  have HC : Hid (∀ W, Below w.heap.size w W → Calls Tryd.prog 10 #[.slice p l.length cap] W fun e w' => e = .returned (.bool fb) ∧ W = w') := Lib.hid fun W hW => by
    have := few_any l _ W (HV.out.below hW (Nat.le_refl _)); rw [hfb] at this; exact this
  have HFB := Lib.hid hfb
  obtain ⟨n, hn⟩ : ∃ n, l.length = n := ⟨_, rfl⟩
  rw [hn] at HBad HC ⊢
  have HN := Lib.hid hn
  clear hv hk bad hfb hn
  go_enter Tryd.func7, Tryd.ntmps7
  go_wp2_with fail
  refine (small_any w HK.out).mono ?_
  rintro e w1 ⟨rfl, b1⟩
  have HB := Lib.hid b1
  clear b1
  go_wp2_with fail
  refine (HC.out _ HB.out).mono ?_
  rintro e w2 ⟨rfl, rfl⟩
  cases fb with
  | false =>
    go_wp2
    go_ret
    exact ⟨rfl, HB.out⟩
  | true =>
    rcases HBad.out with h | h | h | ⟨K, at', rfl, h1, h2, h3, h4⟩
    · rw [HFB.out] at h; cases h
    · clear HBad HFB
      go_wp2
      go_ret
      exact ⟨rfl, HB.out⟩
    · clear HBad HFB
      have h' : ¬ (k < 1) := by omega
      go_wp2
      go_ret
      exact ⟨rfl, HB.out⟩
    · have hat : at' ≤ 64 := by rw [h3]; exact Nat.pow_le_pow_right (n := 2) (by decide) h2
      have hz : (2 : Int) ^ K = (at' : Int) := by rw [h3]; simp
      have hw1 : IntKind.i64.wrap (at' : Int) = (at' : Int) := IntWalk.i64_in _ (by omega)
      clear HBad HFB h3
      rcases h4 with h | ⟨h, h'⟩ | ⟨h, h', h''⟩ | ⟨h, h', h'', h3⟩
      all_goals
        go_wp2
        go_ret
        exact ⟨rfl, HB.out⟩
theorem path_len (l : List ByteArray) : ∀ i, l.length ≤ 70 → (path l i).length ≤ 70 := by
  intro i h
  have : ∀ N (l : List ByteArray) i, l.length ≤ N → (path l i).length ≤ N := by
    intro N
    induction N with
    | zero => intro l i h; rw [path_small _ _ (by omega)]; simp
    | succ N ih =>
      intro l i h
      by_cases h2 : 2 ≤ l.length
      · have h3 := split_lt l.length h2; have h4 := split_pos l.length
        by_cases hi : i < split l.length
        · rw [path_left l i h2 hi, List.length_append]; have := ih (l.take (split l.length)) i (by rw [List.length_take]; omega); simp; omega
        · rw [path_right l i h2 hi, List.length_append]; have := ih (l.drop (split l.length)) (i - split l.length) (by rw [List.length_drop]; omega); simp; omega
      · rw [path_small _ _ (by omega)]; simp
  exact this 70 l i h
theorem pathI_len (l : List ByteArray) (i : Int) (h : l.length ≤ 70) : (pathI l i).length ≤ 70 := by
  unfold pathI; split
  · exact path_len l _ h
  · simp
set_option maxHeartbeats 1000000 in
theorem parts_main (l : List ByteArray) (v : Value) (K at' I : Nat) (w : World) (hv : SV w v l) (hk : OKW w)
    (hf : fewB l = true) (h1 : 1 ≤ K) (h2 : K ≤ 6) (hat : at' = 2 ^ K) (ha : at' < l.length) (hb : l.length ≤ 2 * at') (hi : I < l.length) :
    Calls Tryd.prog 7 #[v, .int .i64 K, .int .i64 I] w fun e w' => e = .returned (.bool true) ∧ Below w.heap.size w w' := by
  obtain ⟨p, cap, rfl, _, _⟩ := hv.shape
  have HV := Lib.hid hv
  have HK := Lib.hid hk
  obtain ⟨hS40, h70⟩ := few_short hf
  have hsp : split l.length = at' := by rw [hat]; exact split_unique _ _ (by omega) (by omega)
  have HC : Hid (∀ W, Below w.heap.size w W → Calls Tryd.prog 10 #[.slice p l.length cap] W fun e w' => e = .returned (.bool true) ∧ W = w') := Lib.hid fun W hW => by
    have := few_any l _ W (HV.out.below hW (Nat.le_refl _)); rw [hf] at this; exact this
  have HLv : Hid (∀ W, Below w.heap.size w W → Calls Tryd.prog 26 #[.slice p l.length cap] W (Ret W (l.map leaf))) := Lib.hid fun W hW =>
    leaves_any l _ W (HV.out.below hW (Nat.le_refl _)) (by omega) (fun s hs => Nat.le_trans (hS40 s hs) (by omega)) (HK.out.below hW)
  obtain ⟨L, hL⟩ : ∃ L, l.map leaf = L := ⟨_, rfl⟩
  have hLl : L.length = l.length := by rw [← hL]; simp
  have hLS : Short L 32 := by
    intro s hs; rw [← hL] at hs; obtain ⟨x, _, rfl⟩ := List.mem_map.1 hs; rw [leaf_size]; exact Nat.le_refl _
  rw [hL] at HLv
  obtain ⟨n, hn⟩ : ∃ n, l.length = n := ⟨_, rfl⟩
  rw [hn] at HC HLv ha hb hi h70 hsp hLl ⊢
  have hat6 : at' ≤ 64 := by rw [hat]; exact Nat.pow_le_pow_right (n := 2) (by decide) h2
  have hat1 : 2 ≤ at' := by rw [hat]; exact Nat.pow_le_pow_right (n := 2) (by decide) h1
  have hz : (2 : Int) ^ K = (at' : Int) := by rw [hat]; simp
  have hw1 : IntKind.i64.wrap (at' : Int) = (at' : Int) := IntWalk.i64_in _ (by omega)
  have hLr := root_step L (by omega)
  rw [hLl, hsp] at hLr
  have HLS := Lib.hid hLS
  have HLl := Lib.hid hLl
  have HSp := Lib.hid hsp
  obtain ⟨ONE, hONE⟩ : ∃ y, root (L.take at') = y := ⟨_, rfl⟩
  obtain ⟨TWO, hTWO⟩ : ∃ y, root (L.drop at') = y := ⟨_, rfl⟩
  have hONEs : ONE.size ≤ 32 := by rw [← hONE]; exact root_short _ _ (hLS.take _) (by omega)
  have hTWOs : TWO.size ≤ 32 := by rw [← hTWO]; exact root_short _ _ (hLS.drop _) (by omega)
  rw [hONE, hTWO] at hLr
  have H1 := Lib.hid hONE; have H2 := Lib.hid hTWO; have HLr := Lib.hid hLr
  have HLS5 : Hid (Short L 100000) := Lib.hid fun s hs => Nat.le_trans (hLS s hs) (by omega)
  clear hv hk hf hS40 hL hLl hLS hn hat hLr hONE hTWO hsp
  go_enter Tryd.func7, Tryd.ntmps7
  go_wp2_with fail
  refine (small_any w HK.out).mono ?_
  rintro e w1 ⟨rfl, b1⟩
  have HB1 := Lib.hid b1
  clear b1
  go_wp2_with fail
  refine (HC.out _ HB1.out).mono ?_
  rintro e w1' ⟨rfl, rfl⟩
  go_wp2_with fail
  refine (HLv.out _ HB1.out).mono ?_
  rintro e w2 ⟨v8, rfl, ho8, b2⟩
  have HB2 : Hid (Below w.heap.size w w2) := Lib.hid (HB1.out.trans (b2.mono HB1.out.size))
  have HK2 := Lib.hid (HK.out.below HB2.out)
  obtain ⟨q, cq, rfl, _, _⟩ := ho8.sv.shape
  have hv8 := ho8.sv
  rw [HLl.out] at hv8 ⊢
  obtain ⟨p1, c1, hs1, hv1⟩ := hv8.upto at' (by omega)
  obtain ⟨p2, c2, hs2, hv2⟩ := hv8.from at' (by omega)
  have HV8 := Lib.hid hv8
  have HV1 := Lib.hid hv1
  have HV2 := Lib.hid hv2
  clear ho8 b2 hv8 hv1 hv2 HC HLv
  go_wp2_with fail
  have R1 := root_any (L.take at') _ w2 (by rw [List.length_take]; omega) (HLS5.out.take _) HV1.out HK2.out
  rw [H1.out] at R1
  refine R1.mono ?_
  rintro e w3 ⟨rfl, b3⟩
  clear R1
  have HD3 := Lib.hid b3
  clear b3
  go_wp2_with fail
  have R1 := root_any (L.drop at') _ w3 (by rw [List.length_drop]; have := HLl.out; omega) (HLS5.out.drop _) (HV2.out.below HD3.out (Nat.le_refl _)) (HK2.out.below HD3.out)
  rw [H2.out] at R1
  refine R1.mono ?_
  rintro e w4 ⟨rfl, b3⟩
  clear R1
  have HD4 : Hid (Below w2.heap.size w2 w4) := Lib.hid (HD3.out.trans (b3.mono HD3.out.size))
  clear b3
  go_wp2_with fail
  refine (path_any (L.take at') _ I w4 (HV1.out.below HD4.out (Nat.le_refl _)) (by rw [List.length_take]; omega) (HLS5.out.take _) (HK2.out.below HD4.out)).mono ?_
  rintro e w5 ⟨v5, rfl, ho5, b3⟩
  have HD5 : Hid (Below w2.heap.size w2 w5) := Lib.hid (HD4.out.trans (b3.mono HD4.out.size))
  have HO5 := Lib.hid ho5
  have HZ5 : Hid (w4.heap.size ≤ w5.heap.size) := Lib.hid b3.size
  clear b3 ho5
  have hpl : (pathI (L.take at') I).length ≤ 70 := pathI_len _ _ (by rw [List.length_take]; omega)
  have HPL := Lib.hid hpl
  clear hpl

  by_cases hI : I < at'
  · have hd : decide (at' ≤ I) = false := by simp; omega
    have hd' : decide ((at' : Int) ≤ (I : Int)) = false := by simp; omega
    have HPI : Hid (path L I = pathI (L.take at') I ++ [TWO]) := Lib.hid (by
      have e := path_left L I (by have := HLl.out; omega) (by rw [HLl.out, HSp.out]; exact hI)
      rw [HLl.out, HSp.out, H2.out] at e
      rw [e]; unfold pathI; rw [if_pos ⟨by omega, by rw [List.length_take]; have := HLl.out; omega⟩]; simp)
    go_wp2_with (at_builtin; refine wpList_append rfl _ _ rfl w4.heap.size _ _ [TWO] rfl (HO5.out.alloc _) _ rfl (SV.lit (g := w5.heap.size) [TWO] (by simp) (heap_alloc_new w5 _)) (by have := HPL.out; simp; omega) (by have := HZ5.out; simp; omega) ?_; intro v6 w6 ho6 hb6 _; have HO6 := Lib.hid ho6; have HD6 : Hid (Below w2.heap.size w2 w6) := Lib.hid ((HD5.out.alloc HD5.out.size _).trans (hb6.mono HD4.out.size)); clear ho6 hb6)
    have HOw := HO6
    go_wp2_with fail
    have R1 := root_any L _ w6 (by have := HLl.out; omega) HLS5.out (by have := HV8.out.below HD6.out (Nat.le_refl _); exact this) (HK2.out.below HD6.out)
    rw [HLr.out] at R1
    refine R1.mono ?_
    rintro e w7 ⟨rfl, b3⟩
    clear R1
    have HD7 : Hid (Below w2.heap.size w2 w7) := Lib.hid (HD6.out.trans (b3.mono HD6.out.size))
    have HOw7 := Lib.hid (HOw.out.below b3 (Nat.le_refl _))
    clear b3
    go_wp2_with fail
    refine (join_any ONE TWO w7 (by omega) (by omega) (HK2.out.below HD7.out)).mono ?_
    rintro e w8 ⟨rfl, b3⟩
    have HD8 : Hid (Below w2.heap.size w2 w8) := Lib.hid (HD7.out.trans (b3.mono HD7.out.size))
    have HOw8 := Lib.hid (HOw7.out.below b3 (Nat.le_refl _))
    clear b3
    go_wp2_with fail
    refine (path_in L _ I w8 (HV8.out.below HD8.out (Nat.le_refl _)) (by have := HLl.out; omega) HLS5.out (HK2.out.below HD8.out) (by have := HLl.out; omega)).mono ?_
    rintro e w9 ⟨v9, rfl, ho9, b3⟩
    have HD9 : Hid (Below w2.heap.size w2 w9) := Lib.hid (HD8.out.trans (b3.mono HD8.out.size))
    have HOw9 := Lib.hid (HOw8.out.below b3 (Nat.le_refl _))
    have HS9 := Lib.hid ho9.sv
    clear b3 ho9
    go_wp2_with fail
    have R1 := strings_same (path L I) _ _ w9 HS9.out (by rw [HPI.out]; exact HOw9.out.sv)
    refine R1.mono ?_
    rintro e w10 ⟨rfl, m10, rfl⟩
    clear R1
    go_wp2
    go_ret
    exact ⟨rfl, HB2.out.trans ((below_drewN HD9.out _).mono HB2.out.size)⟩
  · have hd : decide (at' ≤ I) = true := by simp; omega
    have hd' : decide ((at' : Int) ≤ (I : Int)) = true := by simp; omega
    have hge : at' ≤ I := by omega
    have hsub : (I : Int) - (at' : Int) = ((I - at' : Nat) : Int) := by omega
    have HPI : Hid (path L I = path (L.drop at') (I - at') ++ [ONE]) := Lib.hid (by
      have e := path_right L I (by have := HLl.out; omega) (by rw [HLl.out, HSp.out]; omega)
      rw [HLl.out, HSp.out, H1.out] at e
      exact e)
    go_wp2_with (at_builtin; refine wpList_append rfl _ _ rfl w4.heap.size _ _ [TWO] rfl (HO5.out.alloc _) _ rfl (SV.lit (g := w5.heap.size) [TWO] (by simp) (heap_alloc_new w5 _)) (by have := HPL.out; simp; omega) (by have := HZ5.out; simp; omega) ?_; intro v6 w6 ho6 hb6 _; have HO6 := Lib.hid ho6; have HD6 : Hid (Below w2.heap.size w2 w6) := Lib.hid ((HD5.out.alloc HD5.out.size _).trans (hb6.mono HD4.out.size)); clear ho6 hb6)
    go_wp2_with fail
    refine (path_in (L.drop at') _ (I - at') w6 (HV2.out.below HD6.out (Nat.le_refl _)) (by rw [List.length_drop]; have := HLl.out; omega) (HLS5.out.drop _) (HK2.out.below HD6.out) (by rw [List.length_drop]; have := HLl.out; omega)).mono ?_
    rintro e wa ⟨va, rfl, hoa, b3⟩
    have HDa : Hid (Below w2.heap.size w2 wa) := Lib.hid (HD6.out.trans (b3.mono HD6.out.size))
    have HOa := Lib.hid hoa
    have HZa : Hid (w6.heap.size ≤ wa.heap.size) := Lib.hid b3.size
    clear b3 hoa
    have hpl : (path (L.drop at') (I - at')).length ≤ 70 := path_len _ _ (by rw [List.length_drop]; have := HLl.out; omega)
    have HPL2 := Lib.hid hpl
    clear hpl
    go_wp2_with (at_builtin; refine wpList_append rfl _ _ rfl w6.heap.size _ _ [ONE] rfl (HOa.out.alloc _) _ rfl (SV.lit (g := wa.heap.size) [ONE] (by simp) (heap_alloc_new wa _)) (by have := HPL2.out; simp; omega) (by have := HZa.out; simp; omega) ?_; intro vb wb hob hbb _; have HOb := Lib.hid hob; have HDb : Hid (Below w2.heap.size w2 wb) := Lib.hid ((HDa.out.alloc HDa.out.size _).trans (hbb.mono HD6.out.size)); clear hob hbb)
    have HOw := HOb
    go_wp2_with fail
    have R1 := root_any L _ wb (by have := HLl.out; omega) HLS5.out (by have := HV8.out.below HDb.out (Nat.le_refl _); exact this) (HK2.out.below HDb.out)
    rw [HLr.out] at R1
    refine R1.mono ?_
    rintro e w7 ⟨rfl, b3⟩
    clear R1
    have HD7 : Hid (Below w2.heap.size w2 w7) := Lib.hid (HDb.out.trans (b3.mono HDb.out.size))
    have HOw7 := Lib.hid (HOw.out.below b3 (Nat.le_refl _))
    clear b3
    go_wp2_with fail
    refine (join_any ONE TWO w7 (by omega) (by omega) (HK2.out.below HD7.out)).mono ?_
    rintro e w8 ⟨rfl, b3⟩
    have HD8 : Hid (Below w2.heap.size w2 w8) := Lib.hid (HD7.out.trans (b3.mono HD7.out.size))
    have HOw8 := Lib.hid (HOw7.out.below b3 (Nat.le_refl _))
    clear b3
    go_wp2_with fail
    refine (path_in L _ I w8 (HV8.out.below HD8.out (Nat.le_refl _)) (by have := HLl.out; omega) HLS5.out (HK2.out.below HD8.out) (by have := HLl.out; omega)).mono ?_
    rintro e w9 ⟨v9, rfl, ho9, b3⟩
    have HD9 : Hid (Below w2.heap.size w2 w9) := Lib.hid (HD8.out.trans (b3.mono HD8.out.size))
    have HOw9 := Lib.hid (HOw8.out.below b3 (Nat.le_refl _))
    have HS9 := Lib.hid ho9.sv
    clear b3 ho9
    go_wp2_with fail
    have R1 := strings_same (path L I) _ _ w9 HS9.out (by rw [HPI.out]; exact HOw9.out.sv)
    refine R1.mono ?_
    rintro e w10 ⟨rfl, m10, rfl⟩
    clear R1
    go_wp2
    go_ret
    exact ⟨rfl, HB2.out.trans ((below_drewN HD9.out _).mono HB2.out.size)⟩
theorem parts_walk (l : List ByteArray) (v : Value) (k i : Int) (w : World) (hv : SV w v l) (hk : OKW w) :
    Calls Tryd.prog 7 #[v, .int .i64 k, .int .i64 i] w fun e w' => e = .returned (.bool true) ∧ Below w.heap.size w w' := by
  cases hf : fewB l with
  | false => exact parts_head l v k i w hv hk (.inl hf)
  | true =>
    by_cases h1 : k < 1
    · exact parts_head l v k i w hv hk (.inr (.inl h1))
    · by_cases h2 : 6 < k
      · exact parts_head l v k i w hv hk (.inr (.inr (.inl h2)))
      · obtain ⟨K, rfl⟩ := Int.eq_ofNat_of_zero_le (show 0 ≤ k by omega)
        by_cases h3 : l.length ≤ 2 ^ K
        · exact parts_head l v _ i w hv hk (.inr (.inr (.inr ⟨K, _, rfl, by omega, by omega, rfl, .inl h3⟩)))
        · by_cases h4 : 2 * 2 ^ K < l.length
          · exact parts_head l v _ i w hv hk (.inr (.inr (.inr ⟨K, _, rfl, by omega, by omega, rfl, .inr (.inl ⟨by omega, h4⟩)⟩)))
          · by_cases h5 : i < 0
            · exact parts_head l v _ i w hv hk (.inr (.inr (.inr ⟨K, _, rfl, by omega, by omega, rfl, .inr (.inr (.inl ⟨by omega, by omega, h5⟩))⟩)))
            · by_cases h6 : (l.length : Int) ≤ i
              · exact parts_head l v _ i w hv hk (.inr (.inr (.inr ⟨K, _, rfl, by omega, by omega, rfl, .inr (.inr (.inr ⟨by omega, by omega, by omega, h6⟩))⟩)))
              · obtain ⟨I, rfl⟩ := Int.eq_ofNat_of_zero_le (show 0 ≤ i by omega)
                exact parts_main l v K _ I w hv hk hf (by omega) (by omega) rfl (by omega) (by omega) (by omega)
end Go.Proofs.YtmapodkdnbbjgaaDoor
