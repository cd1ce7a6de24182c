/- missiveref04's hashes, Path, growth, Grown, Check, CheckGrown: the walks. -/
import Derived.Test.YtmapodkdnbbjgaaDoorMkRef3
import Derived.Test.YtmapodkdnbbjgaaDoorMkWalk8
namespace Go.Proofs.YtmapodkdnbbjgaaDoor
open Go.RowKit Mk Sl
set_option maxHeartbeats 1000000 in
theorem rhashes_any (l : List ByteArray) (v : Value) (w : World) (hv : SV w v l) :
    Calls Tryd.prog 39 #[v] w fun e w' => e = .returned (.bool (allH l)) ∧ w = w' := by
  obtain ⟨p, cap, rfl, hcap, hml⟩ := hv.shape
  have HV := Lib.hid hv
  have hll : l.length ≤ maxLen := by omega
  unfold maxLen at hll
  obtain ⟨b, hb⟩ : ∃ b, allH l = b := ⟨_, rfl⟩
  rw [hb]
  have HB := Lib.hid hb
  clear hb hv hcap hml
  go_enter Tryd.func39, Tryd.ntmps39
  go_wp2
  go_loop [3] (fun i => ∃ j : Nat, j ≤ l.length ∧ i = .int .i64 j ∧ Hid (allH (l.take j) = true)) (fun i => l.length - (intOf i).toNat)
  case atStart => exact ⟨0, Nat.zero_le _, rfl, Lib.hid rfl⟩
  case round =>
    obtain ⟨j, hj, rfl, hS⟩ := hrel
    by_cases hlt : j < l.length
    · obtain ⟨g, o, c, hpv, _, _, _, hc⟩ := HV.out.row (by omega)
      simp only [Value.slice.injEq, true_and] at hpv
      obtain ⟨rfl, rfl⟩ := hpv
      have c0 := hc j hlt
      have e0 : l[j]'hlt = l.getD j ⟨#[]⟩ := by simp [List.getD_eq_getElem?_getD, List.getElem?_eq_getElem hlt]
      have hts : l.take (j + 1) = l.take j ++ [l.getD j ⟨#[]⟩] := by rw [List.take_succ_eq_append_getElem hlt, e0]
      have hmem : l.getD j ⟨#[]⟩ ∈ l := by rw [← e0]; exact List.getElem_mem hlt
      obtain ⟨x, hx⟩ : ∃ x, l.getD j ⟨#[]⟩ = x := ⟨_, rfl⟩
      rw [hx] at c0 hts hmem
      have HT := Lib.hid hts
      have HM := Lib.hid hmem
      clear hc hx hts hmem e0
      by_cases h32 : x.size = 32
      · have hd : ((x.size : Int) != 32) = false := by simp; omega
        have HZ : Hid ((x.size == 32) = true) := Lib.hid (by simpa using h32)
        clear h32
        go_wp2
        go_round
        case rel => exact ⟨j + 1, by omega, by go_num, Lib.hid (by
          have := hS.out
          unfold allH at *
          rw [HT.out, List.all_append, this]; simpa using HZ.out)⟩
        case measure => simp [intOf]; omega
      · have hd : ((x.size : Int) != 32) = true := by rw [bne_iff_ne]; omega
        have hbf : b = false := by
          rw [← HB.out]; unfold allH; rw [List.all_eq_false]
          exact ⟨x, HM.out, by simpa using h32⟩
        subst hbf
        clear h32
        go_wp2
        go_ret
        exact ⟨rfl, rfl⟩
    · have hbt : b = true := by
        rw [← HB.out]
        have := hS.out
        rw [List.take_of_length_le (by omega)] at this; exact this
      subst hbt
      go_wp2
      go_ret
      exact ⟨rfl, rfl⟩

theorem growth_len (N : Nat) : ∀ (l : List ByteArray) (m : Nat) (b : Bool), l.length ≤ N → (growth l m b).length ≤ N + 1 := by
  induction N with
  | zero => intro l m b h; rw [growth_end _ _ _ (by omega)]; cases b <;> simp
  | succ N ih =>
    intro l m b h
    by_cases h2 : 2 ≤ l.length ∧ m ≠ l.length
    · have h3 := split_lt l.length h2.1; have h4 := split_pos l.length
      by_cases hi : m ≤ split l.length
      · rw [growth_left l m b h2.1 h2.2 hi, List.length_append]; have := ih (l.take (split l.length)) m b (by rw [List.length_take]; omega); simp; omega
      · rw [growth_right l m b h2.1 h2.2 hi, List.length_append]; have := ih (l.drop (split l.length)) (m - split l.length) false (by rw [List.length_drop]; omega); simp; omega
    · rw [growth_end _ _ _ (by omega)]; cases b <;> simp
theorem path_len' (N : Nat) : ∀ (l : List ByteArray) (i : Nat), l.length ≤ N → (path l i).length ≤ N := by
  induction N with
  | zero => intro l i h; rw [path_small _ _ (by omega)]; simp
  | succ N ih =>
    intro l i h
    by_cases h2 : 2 ≤ l.length
    · have h3 := split_lt l.length h2; have h4 := split_pos l.length
      by_cases hi : i < split l.length
      · rw [path_left l i h2 hi, List.length_append]; have := ih (l.take (split l.length)) i (by rw [List.length_take]; omega); simp; omega
      · rw [path_right l i h2 hi, List.length_append]; have := ih (l.drop (split l.length)) (i - split l.length) (by rw [List.length_drop]; omega); simp; omega
    · rw [path_small _ _ (by omega)]; simp

def RPathOK (N : Nat) : Prop := ∀ (l : List ByteArray) (v : Value) (i : Nat) (w : World), l.length ≤ N → l.length ≤ 1000 → i < l.length → Short l 100000 → SV w v l →
    Calls Tryd.prog 19 #[v, .int .i64 i] w (Ret w (path l i))
set_option maxHeartbeats 4000000 in
theorem rpath_step (N : Nat) (ih : RPathOK N) : RPathOK (N + 1) := by
  intro l v i w hN hM hi hS hv
  have HI := Lib.hid ih
  clear ih
  obtain ⟨p, cap, rfl, _, _⟩ := hv.shape
  rcases Nat.lt_or_ge l.length 2 with h2 | h2
  · have hl1 : l.length = 1 := by omega
    have HE := Lib.hid (path_small l i h2)
    have hi0 : i = 0 := by omega
    subst hi0
    rw [hl1]
    clear hv hS hN hM hi h2 hl1
    go_enter Tryd.func19, Tryd.ntmps19
    go_wp2
    go_ret
    exact ⟨_, rfl, by rw [HE.out]; exact SO.nil _ _, Below.refl _ _⟩
  · have hlt := split_lt l.length h2
    have hpos := split_pos l.length
    obtain ⟨p1, c1, hs1, hv1⟩ := hv.upto (split l.length) (by omega)
    obtain ⟨p2, c2, hs2, hv2⟩ := hv.from (split l.length) (by omega)
    have HSp := Lib.hid fun W => rsplit_any l.length W h2 (by omega)
    have hd0 : ((l.length : Int) == 1) = false := beq_eq_false_iff_ne.2 (by omega)
    have hdi : decide ((i : Int) < 0) = false := by simp
    by_cases hc : i < split l.length
    · have hE := path_left l i h2 hc
      obtain ⟨R, hR⟩ : ∃ R, root (l.drop (split l.length)) = R := ⟨_, rfl⟩
      obtain ⟨PL, hPL⟩ : ∃ R, path (l.take (split l.length)) i = R := ⟨_, rfl⟩
      have hpl : PL.length ≤ 1001 := by rw [← hPL]; exact Nat.le_trans (path_len' _ _ _ (Nat.le_refl _)) (by rw [List.length_take]; omega)
      rw [hR, hPL] at hE
      have HE := Lib.hid hE
      have H1 : Hid (∀ W, Below w.heap.size w W → Calls Tryd.prog 19 #[.slice p1 (split l.length) c1, .int .i64 (i : Nat)] W (Ret W PL)) := Lib.hid fun W hW => by
        rw [← hPL]
        exact HI.out _ _ i W (by rw [List.length_take]; omega) (by rw [List.length_take]; omega) (by rw [List.length_take]; omega) (hS.take _) (hv1.below hW (Nat.le_refl _))
      have H3 : Hid (∀ W, Below w.heap.size w W → Calls Tryd.prog 16 #[.slice p2 (l.length - split l.length) c2] W fun e w' => e = .returned (.string R) ∧ Below W.heap.size W w') := Lib.hid fun W hW => by
        rw [← hR]
        exact rroot_any _ _ W (by rw [List.length_drop]; omega) (hS.drop _) (hv2.below hW (Nat.le_refl _))
      obtain ⟨n, hn⟩ : ∃ n, l.length = n := ⟨_, rfl⟩
      obtain ⟨k, hk'⟩ : ∃ k, split l.length = k := ⟨_, rfl⟩
      rw [hk'] at H1 H3 HSp hs1 hs2 hlt hpos hc
      rw [hn] at H3 HSp hs2 hs1 hlt h2 hd0 hi
      rw [hn]
      have hd3 : decide (i < k) = true := by simp; omega
      clear hv hv1 hv2 hS hR hPL hE hN hM HI hk' hn
      go_enter Tryd.func19, Tryd.ntmps19
      go_wp2_with fail
      refine (HSp.out _).mono ?_
      rintro e w1 ⟨rfl, rfl⟩
      go_wp2_with fail
      go_region_held3 (fun _ => True) (first | go_keep | trivial)
        ((first
          | (go_at_call_has 19 (Value.slice p1 k c1); first
            | (refine (H1.out _ ((Below.refl _ _).alloc (Nat.le_refl _) (.cells #[] 9)).drew).mono ?_; rintro e w2 ⟨v2, rfl, ho, hb⟩; have HB2 : Hid (Below w.heap.size w w2) := Lib.hid (((Below.refl w.heap.size w).alloc (Nat.le_refl _) (.cells #[] 9)).drew.trans (hb.mono (by simp))); have HV2 : Hid (SV w2 v2 PL) := Lib.hid ho.sv; have HE2 : Hid (SO w2 w.heap.size (.slice (some ⟨w.heap.size, 0, none⟩) 0 0) []) := Lib.hid (SO.below (w := (w.alloc (.cells #[] 9)).drew) (SO.empty (heap_alloc_new w _) (Nat.le_refl _)) hb (Nat.le_refl _)); clear ho hb)
            | (refine (H1.out _ (Below.refl _ _).drew).mono ?_; rintro e w2 ⟨v2, rfl, ho, hb⟩; have HB2 : Hid (Below w.heap.size w w2) := Lib.hid ((Below.refl w.heap.size w).drew.trans hb); have HV2 : Hid (SV w2 v2 PL) := Lib.hid ho.sv; have HMark := Lib.hid trivial; clear ho hb))
          | (go_at_call_has 16 (Value.slice p2 (n - k) c2); refine (H3.out _ HB4.out).mono ?_; rintro e w5 ⟨rfl, hb⟩; have HB5 := Lib.hid (HB4.out.trans (hb.mono HB4.out.size)); have HO5 := Lib.hid (HO4.out.below hb (Nat.le_refl _)); clear hb)
          | (have := HB5; refine step_append (by rfl) _ _ (by rfl) w.heap.size _ PL [R] (by rfl) (HO5.out.alloc _) (.slice (some ⟨w5.heap.size, 0, none⟩) 1 1) (by rfl) (SV.lit (g := w5.heap.size) [R] (by simp) (heap_alloc_new w5 _)) (by simp; omega) (by have := HB5.out.size; simp; omega) ?_; intro v7 w7 ho7 hb7 _)
          | (have := HE2; refine step_append (by rfl) _ _ (by rfl) w.heap.size _ [] PL (by rfl) HE2.out v2 (by rfl) HV2.out (by simp; omega) HB2.out.size ?_; intro v4 w4 ho4 hb4 _; have HO4 : Hid (SO w4 w.heap.size v4 PL) := Lib.hid ho4; have HB4 := Lib.hid (HB2.out.trans hb4); clear ho4 hb4)
          | (have := HMark; refine step_append (by rfl) _ _ (by rfl) w.heap.size _ [] PL (by rfl) (SO.empty (heap_alloc_new w2 _) HB2.out.size) v2 (by rfl) (HV2.out.below ((Below.refl _ _).alloc (Nat.le_refl _) _) (Nat.le_refl _)) (by simp; omega) (by have := HB2.out.size; simp; omega) ?_; intro v4 w4 ho4 hb4 _; have HO4 : Hid (SO w4 w.heap.size v4 PL) := Lib.hid ho4; have HB4 := Lib.hid ((HB2.out.alloc HB2.out.size _).trans hb4); clear ho4 hb4)))
      all_goals
        have HO7 : Hid (SO w7 w.heap.size v7 (path l i)) := Lib.hid (by rw [HE.out]; exact ho7)
        have HB7 := Lib.hid ((HB5.out.alloc HB5.out.size _).trans hb7)
        clear ho7 hb7
        go_wp2
        go_ret
        exact ⟨_, rfl, HO7.out, HB7.out⟩
    · have hE := path_right l i h2 hc
      obtain ⟨R, hR⟩ : ∃ R, root (l.take (split l.length)) = R := ⟨_, rfl⟩
      obtain ⟨PL, hPL⟩ : ∃ R, path (l.drop (split l.length)) (i - split l.length) = R := ⟨_, rfl⟩
      have hpl : PL.length ≤ 1001 := by rw [← hPL]; exact Nat.le_trans (path_len' _ _ _ (Nat.le_refl _)) (by rw [List.length_drop]; omega)
      rw [hR, hPL] at hE
      have HE := Lib.hid hE
      have H1 : Hid (∀ W, Below w.heap.size w W → Calls Tryd.prog 19 #[.slice p2 (l.length - split l.length) c2, .int .i64 (i - split l.length : Nat)] W (Ret W PL)) := Lib.hid fun W hW => by
        rw [← hPL]
        exact HI.out _ _ (i - split l.length) W (by rw [List.length_drop]; omega) (by rw [List.length_drop]; omega) (by rw [List.length_drop]; omega) (hS.drop _) (hv2.below hW (Nat.le_refl _))
      have H3 : Hid (∀ W, Below w.heap.size w W → Calls Tryd.prog 16 #[.slice p1 (split l.length) c1] W fun e w' => e = .returned (.string R) ∧ Below W.heap.size W w') := Lib.hid fun W hW => by
        rw [← hR]
        exact rroot_any _ _ W (by rw [List.length_take]; omega) (hS.take _) (hv1.below hW (Nat.le_refl _))
      obtain ⟨n, hn⟩ : ∃ n, l.length = n := ⟨_, rfl⟩
      obtain ⟨k, hk'⟩ : ∃ k, split l.length = k := ⟨_, rfl⟩
      rw [hk'] at H1 H3 HSp hs1 hs2 hlt hpos hc
      rw [hn] at H1 HSp hs2 hs1 hlt h2 hd0 hi
      rw [hn]
      have hd3 : decide (i < k) = false := by simp; omega
      have hwr : IntKind.i64.wrap ((i : Int) - (k : Int)) = ((i - k : Nat) : Int) := by rw [IntWalk.i64_in _ (by omega)]; omega
      have HWR := Lib.hid hwr
      clear hwr
      clear hv hv1 hv2 hS hR hPL hE hN hM HI hk' hn
      go_enter Tryd.func19, Tryd.ntmps19
      go_wp2_with fail
      refine (HSp.out _).mono ?_
      rintro e w1 ⟨rfl, rfl⟩
      go_wp2_with fail
      have hwr := HWR.out
      go_region_held3 (fun _ => True) (first | go_keep | trivial)
        ((first
          | (go_at_call_has 19 (Value.slice p2 (n - k) c2); first
            | (refine (H1.out _ ((Below.refl _ _).alloc (Nat.le_refl _) (.cells #[] 9)).drew).mono ?_; rintro e w2 ⟨v2, rfl, ho, hb⟩; have HB2 : Hid (Below w.heap.size w w2) := Lib.hid (((Below.refl w.heap.size w).alloc (Nat.le_refl _) (.cells #[] 9)).drew.trans (hb.mono (by simp))); have HV2 : Hid (SV w2 v2 PL) := Lib.hid ho.sv; have HE2 : Hid (SO w2 w.heap.size (.slice (some ⟨w.heap.size, 0, none⟩) 0 0) []) := Lib.hid (SO.below (w := (w.alloc (.cells #[] 9)).drew) (SO.empty (heap_alloc_new w _) (Nat.le_refl _)) hb (Nat.le_refl _)); clear ho hb)
            | (refine (H1.out _ (Below.refl _ _).drew).mono ?_; rintro e w2 ⟨v2, rfl, ho, hb⟩; have HB2 : Hid (Below w.heap.size w w2) := Lib.hid ((Below.refl w.heap.size w).drew.trans hb); have HV2 : Hid (SV w2 v2 PL) := Lib.hid ho.sv; have HMark := Lib.hid trivial; clear ho hb))
          | (go_at_call_has 16 (Value.slice p1 k c1); refine (H3.out _ HB4.out).mono ?_; rintro e w5 ⟨rfl, hb⟩; have HB5 := Lib.hid (HB4.out.trans (hb.mono HB4.out.size)); have HO5 := Lib.hid (HO4.out.below hb (Nat.le_refl _)); clear hb)
          | (have := HB5; refine step_append (by rfl) _ _ (by rfl) w.heap.size _ PL [R] (by rfl) (HO5.out.alloc _) (.slice (some ⟨w5.heap.size, 0, none⟩) 1 1) (by rfl) (SV.lit (g := w5.heap.size) [R] (by simp) (heap_alloc_new w5 _)) (by simp; omega) (by have := HB5.out.size; simp; omega) ?_; intro v7 w7 ho7 hb7 _)
          | (have := HE2; refine step_append (by rfl) _ _ (by rfl) w.heap.size _ [] PL (by rfl) HE2.out v2 (by rfl) HV2.out (by simp; omega) HB2.out.size ?_; intro v4 w4 ho4 hb4 _; have HO4 : Hid (SO w4 w.heap.size v4 PL) := Lib.hid ho4; have HB4 := Lib.hid (HB2.out.trans hb4); clear ho4 hb4)
          | (have := HMark; refine step_append (by rfl) _ _ (by rfl) w.heap.size _ [] PL (by rfl) (SO.empty (heap_alloc_new w2 _) HB2.out.size) v2 (by rfl) (HV2.out.below ((Below.refl _ _).alloc (Nat.le_refl _) _) (Nat.le_refl _)) (by simp; omega) (by have := HB2.out.size; simp; omega) ?_; intro v4 w4 ho4 hb4 _; have HO4 : Hid (SO w4 w.heap.size v4 PL) := Lib.hid ho4; have HB4 := Lib.hid ((HB2.out.alloc HB2.out.size _).trans hb4); clear ho4 hb4)))
      all_goals
        have HO7 : Hid (SO w7 w.heap.size v7 (path l i)) := Lib.hid (by rw [HE.out]; exact ho7)
        have HB7 := Lib.hid ((HB5.out.alloc HB5.out.size _).trans hb7)
        clear ho7 hb7
        go_wp2
        go_ret
        exact ⟨_, rfl, HO7.out, HB7.out⟩
theorem rpath_all (N : Nat) : RPathOK N := by
  induction N with
  | zero => intro l v i w h _ hi _ _; omega
  | succ N ih => exact rpath_step N ih
theorem rpath_any (l : List ByteArray) (v : Value) (i : Int) (w : World) (hM : l.length ≤ 1000) (hS : Short l 100000) (hv : SV w v l) :
    Calls Tryd.prog 19 #[v, .int .i64 i] w (Ret w (pathI l i)) := by
  by_cases h : 0 ≤ i ∧ i < l.length
  · obtain ⟨h0, h1⟩ := h
    have e : pathI l i = path l i.toNat := by unfold pathI; rw [if_pos ⟨h0, h1⟩]
    obtain ⟨j, rfl⟩ := Int.eq_ofNat_of_zero_le h0
    rw [e]
    exact rpath_all _ l v j w (Nat.le_refl _) hM (by omega) hS hv
  · have e : pathI l i = [] := by unfold pathI; rw [if_neg h]
    rw [e]
    obtain ⟨p, cap, rfl, _, _⟩ := hv.shape
    by_cases h0 : i < 0
    · clear h e hv hS
      go_enter Tryd.func19, Tryd.ntmps19
      go_wp2
      go_ret
      exact ⟨_, rfl, SO.nil _ _, Below.refl _ _⟩
    · have h1 : (l.length : Int) ≤ i := by omega
      have h2 : ¬ (i < 0) := h0
      clear h e hv hS h0
      go_enter Tryd.func19, Tryd.ntmps19
      go_wp2
      go_ret
      exact ⟨_, rfl, SO.nil _ _, Below.refl _ _⟩

def RGrowthOK (N : Nat) : Prop := ∀ (l : List ByteArray) (v : Value) (i : Nat) (wh : Bool) (w : World), l.length ≤ N → l.length ≤ 1000 → 1 ≤ i → i ≤ l.length → Short l 100000 → SV w v l →
    Calls Tryd.prog 37 #[v, .int .i64 i, .bool wh] w (Ret w (growth l i wh))
set_option maxHeartbeats 4000000 in
theorem rgrowth_step (N : Nat) (ih : RGrowthOK N) : RGrowthOK (N + 1) := by
  intro l v i wh w hN hM hi1 hi2 hS hv
  have HI := Lib.hid ih
  clear ih
  obtain ⟨p, cap, rfl, _, _⟩ := hv.shape
  by_cases hmn : i = l.length
  · have hE := growth_end l i wh (.inr hmn)
    have HE := Lib.hid hE
    have HR := Lib.hid (rroot_any l _ w (by omega) hS hv)
    obtain ⟨R, hR⟩ : ∃ R, root l = R := ⟨_, rfl⟩
    rw [hR] at HE HR
    rw [← hmn] at HR ⊢
    clear hv hS hN hM hmn hE hR hi2
    cases wh with
    | true =>
      go_enter Tryd.func37, Tryd.ntmps37
      go_wp2
      go_ret
      exact ⟨_, rfl, by rw [HE.out]; exact SO.nil _ _, Below.refl _ _⟩
    | false =>
      go_enter Tryd.func37, Tryd.ntmps37
      go_wp2_with fail
      refine HR.out.mono ?_
      rintro e w1 ⟨rfl, b1⟩
      have HB1 := Lib.hid b1
      clear b1
      go_wp2
      go_ret
      exact ⟨_, rfl, by rw [HE.out]; exact SO.lit (B := w.heap.size) (g := w1.heap.size) [R] (by simp) HB1.out.size (heap_alloc_new w1 _), HB1.out.alloc HB1.out.size _⟩
  · have h2 : 2 ≤ l.length := by omega
    have hlt := split_lt l.length h2
    have hpos := split_pos l.length
    obtain ⟨p1, c1, hs1, hv1⟩ := hv.upto (split l.length) (by omega)
    obtain ⟨p2, c2, hs2, hv2⟩ := hv.from (split l.length) (by omega)
    have HSp := Lib.hid fun W => rsplit_any l.length W h2 (by omega)
    have hd0 : ((i : Int) == (l.length : Int)) = false := beq_eq_false_iff_ne.2 (by omega)
    by_cases hc : i ≤ split l.length
    · have hE := growth_left l i wh h2 hmn hc
      obtain ⟨R, hR⟩ : ∃ R, root (l.drop (split l.length)) = R := ⟨_, rfl⟩
      obtain ⟨PL, hPL⟩ : ∃ R, growth (l.take (split l.length)) i wh = R := ⟨_, rfl⟩
      have hpl : PL.length ≤ 1001 := by rw [← hPL]; exact Nat.le_trans (growth_len _ _ _ _ (Nat.le_refl _)) (by rw [List.length_take]; omega)
      rw [hR, hPL] at hE
      have HE := Lib.hid hE
      have H1 : Hid (∀ W, Below w.heap.size w W → Calls Tryd.prog 37 #[.slice p1 (split l.length) c1, .int .i64 (i : Nat), .bool wh] W (Ret W PL)) := Lib.hid fun W hW => by
        rw [← hPL]
        exact HI.out _ _ i wh W (by rw [List.length_take]; omega) (by rw [List.length_take]; omega) (by omega) (by rw [List.length_take]; omega) (hS.take _) (hv1.below hW (Nat.le_refl _))
      have H3 : Hid (∀ W, Below w.heap.size w W → Calls Tryd.prog 16 #[.slice p2 (l.length - split l.length) c2] W fun e w' => e = .returned (.string R) ∧ Below W.heap.size W w') := Lib.hid fun W hW => by
        rw [← hR]
        exact rroot_any _ _ W (by rw [List.length_drop]; omega) (hS.drop _) (hv2.below hW (Nat.le_refl _))
      obtain ⟨n, hn⟩ : ∃ n, l.length = n := ⟨_, rfl⟩
      obtain ⟨k, hk'⟩ : ∃ k, split l.length = k := ⟨_, rfl⟩
      rw [hk'] at H1 H3 HSp hs1 hs2 hlt hpos hc
      rw [hn] at H3 HSp hs2 hs1 hlt h2 hd0 hi2 hmn
      rw [hn]
      have hd3 : decide (i ≤ k) = true := by simp; omega
      clear hv hv1 hv2 hS hR hPL hE hN hM HI hk' hn
      go_enter Tryd.func37, Tryd.ntmps37
      go_wp2_with fail
      refine (HSp.out _).mono ?_
      rintro e w1 ⟨rfl, rfl⟩
      go_wp2_with fail
      go_region_held3 (fun _ => True) (first | go_keep | trivial)
        ((first
          | (go_at_call_has 37 (Value.slice p1 k c1); first
            | (refine (H1.out _ ((Below.refl _ _).alloc (Nat.le_refl _) (.cells #[] 9)).drew).mono ?_; rintro e w2 ⟨v2, rfl, ho, hb⟩; have HB2 : Hid (Below w.heap.size w w2) := Lib.hid (((Below.refl w.heap.size w).alloc (Nat.le_refl _) (.cells #[] 9)).drew.trans (hb.mono (by simp))); have HV2 : Hid (SV w2 v2 PL) := Lib.hid ho.sv; have HE2 : Hid (SO w2 w.heap.size (.slice (some ⟨w.heap.size, 0, none⟩) 0 0) []) := Lib.hid (SO.below (w := (w.alloc (.cells #[] 9)).drew) (SO.empty (heap_alloc_new w _) (Nat.le_refl _)) hb (Nat.le_refl _)); clear ho hb)
            | (refine (H1.out _ (Below.refl _ _).drew).mono ?_; rintro e w2 ⟨v2, rfl, ho, hb⟩; have HB2 : Hid (Below w.heap.size w w2) := Lib.hid ((Below.refl w.heap.size w).drew.trans hb); have HV2 : Hid (SV w2 v2 PL) := Lib.hid ho.sv; have HMark := Lib.hid trivial; clear ho hb))
          | (go_at_call_has 16 (Value.slice p2 (n - k) c2); refine (H3.out _ HB4.out).mono ?_; rintro e w5 ⟨rfl, hb⟩; have HB5 := Lib.hid (HB4.out.trans (hb.mono HB4.out.size)); have HO5 := Lib.hid (HO4.out.below hb (Nat.le_refl _)); clear hb)
          | (have := HB5; refine step_append (by rfl) _ _ (by rfl) w.heap.size _ PL [R] (by rfl) (HO5.out.alloc _) (.slice (some ⟨w5.heap.size, 0, none⟩) 1 1) (by rfl) (SV.lit (g := w5.heap.size) [R] (by simp) (heap_alloc_new w5 _)) (by simp; omega) (by have := HB5.out.size; simp; omega) ?_; intro v7 w7 ho7 hb7 _)
          | (have := HE2; refine step_append (by rfl) _ _ (by rfl) w.heap.size _ [] PL (by rfl) HE2.out v2 (by rfl) HV2.out (by simp; omega) HB2.out.size ?_; intro v4 w4 ho4 hb4 _; have HO4 : Hid (SO w4 w.heap.size v4 PL) := Lib.hid ho4; have HB4 := Lib.hid (HB2.out.trans hb4); clear ho4 hb4)
          | (have := HMark; refine step_append (by rfl) _ _ (by rfl) w.heap.size _ [] PL (by rfl) (SO.empty (heap_alloc_new w2 _) HB2.out.size) v2 (by rfl) (HV2.out.below ((Below.refl _ _).alloc (Nat.le_refl _) _) (Nat.le_refl _)) (by simp; omega) (by have := HB2.out.size; simp; omega) ?_; intro v4 w4 ho4 hb4 _; have HO4 : Hid (SO w4 w.heap.size v4 PL) := Lib.hid ho4; have HB4 := Lib.hid ((HB2.out.alloc HB2.out.size _).trans hb4); clear ho4 hb4)))
      all_goals
        have HO7 : Hid (SO w7 w.heap.size v7 (growth l i wh)) := Lib.hid (by rw [HE.out]; exact ho7)
        have HB7 := Lib.hid ((HB5.out.alloc HB5.out.size _).trans hb7)
        clear ho7 hb7
        go_wp2
        go_ret
        exact ⟨_, rfl, HO7.out, HB7.out⟩
    · have hE := growth_right l i wh h2 hmn hc
      obtain ⟨R, hR⟩ : ∃ R, root (l.take (split l.length)) = R := ⟨_, rfl⟩
      obtain ⟨PL, hPL⟩ : ∃ R, growth (l.drop (split l.length)) (i - split l.length) false = R := ⟨_, rfl⟩
      have hpl : PL.length ≤ 1001 := by rw [← hPL]; exact Nat.le_trans (growth_len _ _ _ _ (Nat.le_refl _)) (by rw [List.length_drop]; omega)
      rw [hR, hPL] at hE
      have HE := Lib.hid hE
      have H1 : Hid (∀ W, Below w.heap.size w W → Calls Tryd.prog 37 #[.slice p2 (l.length - split l.length) c2, .int .i64 (i - split l.length : Nat), .bool false] W (Ret W PL)) := Lib.hid fun W hW => by
        rw [← hPL]
        exact HI.out _ _ (i - split l.length) false W (by rw [List.length_drop]; omega) (by rw [List.length_drop]; omega) (by omega) (by rw [List.length_drop]; omega) (hS.drop _) (hv2.below hW (Nat.le_refl _))
      have H3 : Hid (∀ W, Below w.heap.size w W → Calls Tryd.prog 16 #[.slice p1 (split l.length) c1] W fun e w' => e = .returned (.string R) ∧ Below W.heap.size W w') := Lib.hid fun W hW => by
        rw [← hR]
        exact rroot_any _ _ W (by rw [List.length_take]; omega) (hS.take _) (hv1.below hW (Nat.le_refl _))
      obtain ⟨n, hn⟩ : ∃ n, l.length = n := ⟨_, rfl⟩
      obtain ⟨k, hk'⟩ : ∃ k, split l.length = k := ⟨_, rfl⟩
      rw [hk'] at H1 H3 HSp hs1 hs2 hlt hpos hc
      rw [hn] at H1 HSp hs2 hs1 hlt h2 hd0 hi2 hmn
      rw [hn]
      have hd3 : decide (i ≤ k) = false := by simp; omega
      have hwr : IntKind.i64.wrap ((i : Int) - (k : Int)) = ((i - k : Nat) : Int) := by rw [IntWalk.i64_in _ (by omega)]; omega
      have HWR := Lib.hid hwr
      clear hwr
      clear hv hv1 hv2 hS hR hPL hE hN hM HI hk' hn
      go_enter Tryd.func37, Tryd.ntmps37
      go_wp2_with fail
      refine (HSp.out _).mono ?_
      rintro e w1 ⟨rfl, rfl⟩
      go_wp2_with fail
      have hwr := HWR.out
      go_region_held3 (fun _ => True) (first | go_keep | trivial)
        ((first
          | (go_at_call_has 37 (Value.slice p2 (n - k) c2); first
            | (refine (H1.out _ ((Below.refl _ _).alloc (Nat.le_refl _) (.cells #[] 9)).drew).mono ?_; rintro e w2 ⟨v2, rfl, ho, hb⟩; have HB2 : Hid (Below w.heap.size w w2) := Lib.hid (((Below.refl w.heap.size w).alloc (Nat.le_refl _) (.cells #[] 9)).drew.trans (hb.mono (by simp))); have HV2 : Hid (SV w2 v2 PL) := Lib.hid ho.sv; have HE2 : Hid (SO w2 w.heap.size (.slice (some ⟨w.heap.size, 0, none⟩) 0 0) []) := Lib.hid (SO.below (w := (w.alloc (.cells #[] 9)).drew) (SO.empty (heap_alloc_new w _) (Nat.le_refl _)) hb (Nat.le_refl _)); clear ho hb)
            | (refine (H1.out _ (Below.refl _ _).drew).mono ?_; rintro e w2 ⟨v2, rfl, ho, hb⟩; have HB2 : Hid (Below w.heap.size w w2) := Lib.hid ((Below.refl w.heap.size w).drew.trans hb); have HV2 : Hid (SV w2 v2 PL) := Lib.hid ho.sv; have HMark := Lib.hid trivial; clear ho hb))
          | (go_at_call_has 16 (Value.slice p1 k c1); refine (H3.out _ HB4.out).mono ?_; rintro e w5 ⟨rfl, hb⟩; have HB5 := Lib.hid (HB4.out.trans (hb.mono HB4.out.size)); have HO5 := Lib.hid (HO4.out.below hb (Nat.le_refl _)); clear hb)
          | (have := HB5; refine step_append (by rfl) _ _ (by rfl) w.heap.size _ PL [R] (by rfl) (HO5.out.alloc _) (.slice (some ⟨w5.heap.size, 0, none⟩) 1 1) (by rfl) (SV.lit (g := w5.heap.size) [R] (by simp) (heap_alloc_new w5 _)) (by simp; omega) (by have := HB5.out.size; simp; omega) ?_; intro v7 w7 ho7 hb7 _)
          | (have := HE2; refine step_append (by rfl) _ _ (by rfl) w.heap.size _ [] PL (by rfl) HE2.out v2 (by rfl) HV2.out (by simp; omega) HB2.out.size ?_; intro v4 w4 ho4 hb4 _; have HO4 : Hid (SO w4 w.heap.size v4 PL) := Lib.hid ho4; have HB4 := Lib.hid (HB2.out.trans hb4); clear ho4 hb4)
          | (have := HMark; refine step_append (by rfl) _ _ (by rfl) w.heap.size _ [] PL (by rfl) (SO.empty (heap_alloc_new w2 _) HB2.out.size) v2 (by rfl) (HV2.out.below ((Below.refl _ _).alloc (Nat.le_refl _) _) (Nat.le_refl _)) (by simp; omega) (by have := HB2.out.size; simp; omega) ?_; intro v4 w4 ho4 hb4 _; have HO4 : Hid (SO w4 w.heap.size v4 PL) := Lib.hid ho4; have HB4 := Lib.hid ((HB2.out.alloc HB2.out.size _).trans hb4); clear ho4 hb4)))
      all_goals
        have HO7 : Hid (SO w7 w.heap.size v7 (growth l i wh)) := Lib.hid (by rw [HE.out]; exact ho7)
        have HB7 := Lib.hid ((HB5.out.alloc HB5.out.size _).trans hb7)
        clear ho7 hb7
        go_wp2
        go_ret
        exact ⟨_, rfl, HO7.out, HB7.out⟩
theorem rgrowth_all (N : Nat) : RGrowthOK N := by
  induction N with
  | zero => intro l v i wh w h _ hi hi2 _ _; omega
  | succ N ih => exact rgrowth_step N ih
theorem rgrown_any (l : List ByteArray) (v : Value) (m : Int) (w : World) (hM : l.length ≤ 1000) (hS : Short l 100000) (hv : SV w v l) :
    Calls Tryd.prog 21 #[v, .int .i64 m] w (Ret w (growthI l m)) := by
  by_cases h : 1 ≤ m ∧ m ≤ l.length
  · obtain ⟨h0, h1⟩ := h
    have e : growthI l m = growth l m.toNat true := by unfold growthI; rw [if_pos ⟨h0, h1⟩]
    obtain ⟨j, rfl⟩ := Int.eq_ofNat_of_zero_le (show 0 ≤ m by omega)
    rw [e]
    have HC := Lib.hid (rgrowth_all _ l v j true w (Nat.le_refl _) hM (by omega) (by omega) hS hv)
    obtain ⟨p, cap, rfl, _, _⟩ := hv.shape
    have hj : ¬ ((j : Int) < 1) := by omega
    have hj2 : ¬ ((l.length : Int) < j) := by omega
    clear e hv hS
    go_enter Tryd.func21, Tryd.ntmps21
    go_wp2_with fail
    refine HC.out.mono ?_
    rintro e w1 ⟨v1, rfl, ho, b1⟩
    have HO := Lib.hid ho
    have HB1 := Lib.hid b1
    clear ho b1
    go_wp2
    go_ret
    exact ⟨_, rfl, HO.out, HB1.out⟩
  · have e : growthI l m = [] := by unfold growthI; rw [if_neg h]
    rw [e]
    obtain ⟨p, cap, rfl, _, _⟩ := hv.shape
    by_cases h0 : m < 1
    · clear h e hv hS
      go_enter Tryd.func21, Tryd.ntmps21
      go_wp2
      go_ret
      exact ⟨_, rfl, SO.nil _ _, Below.refl _ _⟩
    · have h1 : (l.length : Int) < m := by omega
      have h2 : ¬ (m < 1) := h0
      clear h e hv hS h0
      go_enter Tryd.func21, Tryd.ntmps21
      go_wp2
      go_ret
      exact ⟨_, rfl, SO.nil _ _, Below.refl _ _⟩
end Go.Proofs.YtmapodkdnbbjgaaDoor
