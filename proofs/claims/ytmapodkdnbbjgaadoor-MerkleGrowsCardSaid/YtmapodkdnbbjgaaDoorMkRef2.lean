/- missiveref04.Inner; the laws' hashed: the walks. -/
import Derived.Test.YtmapodkdnbbjgaaDoorMkRef1
import Derived.Test.YtmapodkdnbbjgaaDoorMkWalk8
namespace Go.Proofs.YtmapodkdnbbjgaaDoor
open Go.RowKit Mk Sl
namespace Mk
/-- the strings that are hashed for the joins of a list -/
def inner (l : List ByteArray) : List ByteArray :=
  if h : l.length < 2 then []
  else
    have := split_lt l.length (by omega)
    have := split_pos l.length
    inner (l.take (split l.length)) ++ inner (l.drop (split l.length)) ++ [z1 ++ root (l.take (split l.length)) ++ root (l.drop (split l.length))]
termination_by l.length
decreasing_by
  · rw [List.length_take]; omega
  · rw [List.length_drop]; omega
theorem inner_small (l : List ByteArray) (h : l.length < 2) : inner l = [] := by rw [inner, dif_pos h]
theorem inner_step (l : List ByteArray) (h : 2 ≤ l.length) : inner l = inner (l.take (split l.length)) ++ inner (l.drop (split l.length)) ++ [z1 ++ root (l.take (split l.length)) ++ root (l.drop (split l.length))] := by
  conv => lhs; rw [inner]
  rw [dif_neg (by omega)]
theorem inner_lt (N : Nat) : ∀ l : List ByteArray, l.length ≤ N → 1 ≤ l.length → (inner l).length + 1 ≤ l.length := by
  induction N with
  | zero => intro l h h1; omega
  | succ N ih =>
    intro l h h1
    by_cases h2 : 2 ≤ l.length
    · have h3 := split_lt l.length h2; have h4 := split_pos l.length
      have a1 := ih (l.take (split l.length)) (by rw [List.length_take]; omega) (by rw [List.length_take]; omega)
      have a2 := ih (l.drop (split l.length)) (by rw [List.length_drop]; omega) (by rw [List.length_drop]; omega)
      rw [List.length_take] at a1
      rw [List.length_drop] at a2
      rw [inner_step l h2, List.length_append, List.length_append]
      simp; omega
    · rw [inner_small _ (by omega)]; simp; omega
theorem inner_len (N : Nat) : ∀ l : List ByteArray, l.length ≤ N → (inner l).length ≤ l.length := by
  induction N with
  | zero => intro l h; rw [inner_small _ (by omega)]; simp
  | succ N ih =>
    intro l h
    by_cases h2 : 2 ≤ l.length
    · have h3 := split_lt l.length h2; have h4 := split_pos l.length
      have a1 := ih (l.take (split l.length)) (by rw [List.length_take]; omega)
      have a2 := ih (l.drop (split l.length)) (by rw [List.length_drop]; omega)
      -- a list of n has at most n - 1 joins; the bound n suffices with one of the parts' slack
      by_cases h5 : 2 ≤ split l.length
      · have a3 : (inner (l.take (split l.length))).length + 1 ≤ split l.length := by
          have := inner_lt N (l.take (split l.length)) (by rw [List.length_take]; omega) (by rw [List.length_take]; omega)
          rw [List.length_take] at this; omega
        rw [inner_step l h2, List.length_append, List.length_append]
        rw [List.length_drop] at a2
        simp; omega
      · have a3 : (inner (l.take (split l.length))).length = 0 := by rw [inner_small _ (by rw [List.length_take]; omega)]; rfl
        rw [inner_step l h2, List.length_append, List.length_append, a3]
        rw [List.length_drop] at a2
        simp; omega
    · rw [inner_small _ (by omega)]; simp
end Mk
def RInnerOK (N : Nat) : Prop := ∀ (l : List ByteArray) (v : Value) (w : World), l.length ≤ N → l.length ≤ 1000 → Short l 40000 → SV w v l →
    Calls Tryd.prog 28 #[v] w (Ret w (inner l))
set_option maxHeartbeats 2000000 in
theorem rinner_step_any (N : Nat) (ih : RInnerOK N) : RInnerOK (N + 1) := by
  intro l v w hN hM hS hv
  have HI := Lib.hid ih
  clear ih
  obtain ⟨p, cap, rfl, _, _⟩ := hv.shape
  rcases Nat.lt_or_ge l.length 2 with h2 | h2
  · have HE := Lib.hid (inner_small l h2)
    clear hv hS
    go_enter Tryd.func28, Tryd.ntmps28
    go_wp2
    go_ret
    exact ⟨_, rfl, by rw [HE.out]; exact SO.nil _ _, Below.refl _ _⟩
  · have hlt := split_lt l.length h2
    have hpos := split_pos l.length
    obtain ⟨p1, c1, hs1, hv1⟩ := hv.upto (split l.length) (by omega)
    obtain ⟨p2, c2, hs2, hv2⟩ := hv.from (split l.length) (by omega)
    have HSp := Lib.hid fun W => rsplit_any l.length W h2 (by omega)
    have HE := Lib.hid (inner_step l h2)
    have hS5 : Short l 100000 := fun s hs => Nat.le_trans (hS s hs) (by omega)
    obtain ⟨A, hA⟩ : ∃ A, root (l.take (split l.length)) = A := ⟨_, rfl⟩
    obtain ⟨B, hB⟩ : ∃ B, root (l.drop (split l.length)) = B := ⟨_, rfl⟩
    have hAs : A.size ≤ 40000 := by rw [← hA]; exact root_short _ _ (hS.take _) (by omega)
    have hBs : B.size ≤ 40000 := by rw [← hB]; exact root_short _ _ (hS.drop _) (by omega)
    rw [hA, hB] at HE
    obtain ⟨IA, hIA⟩ : ∃ y, inner (l.take (split l.length)) = y := ⟨_, rfl⟩
    obtain ⟨IB, hIB⟩ : ∃ y, inner (l.drop (split l.length)) = y := ⟨_, rfl⟩
    have hlA : IA.length ≤ 1000 := by rw [← hIA]; exact Nat.le_trans (inner_len _ _ (Nat.le_refl _)) (by rw [List.length_take]; omega)
    have hlB : IB.length ≤ 1000 := by rw [← hIB]; exact Nat.le_trans (inner_len _ _ (Nat.le_refl _)) (by rw [List.length_drop]; omega)
    rw [hIA, hIB] at HE
    have H1 : Hid (∀ W, Below w.heap.size w W → Calls Tryd.prog 28 #[.slice p1 (split l.length) c1] W (Ret W IA)) := Lib.hid fun W hW => by
      rw [← hIA]
      exact HI.out _ _ W (by rw [List.length_take]; omega) (by rw [List.length_take]; omega) (hS.take _) (hv1.below hW (Nat.le_refl _))
    have H2 : Hid (∀ W, Below w.heap.size w W → Calls Tryd.prog 28 #[.slice p2 (l.length - split l.length) c2] W (Ret W IB)) := Lib.hid fun W hW => by
      rw [← hIB]
      exact HI.out _ _ W (by rw [List.length_drop]; omega) (by rw [List.length_drop]; omega) (hS.drop _) (hv2.below hW (Nat.le_refl _))
    have H3 : Hid (∀ W, Below w.heap.size w W → Calls Tryd.prog 16 #[.slice p1 (split l.length) c1] W fun e w' => e = .returned (.string A) ∧ Below W.heap.size W w') := Lib.hid fun W hW => by
      rw [← hA]
      exact rroot_any _ _ W (by rw [List.length_take]; omega) (hS5.take _) (hv1.below hW (Nat.le_refl _))
    have H4 : Hid (∀ W, Below w.heap.size w W → Calls Tryd.prog 16 #[.slice p2 (l.length - split l.length) c2] W fun e w' => e = .returned (.string B) ∧ Below W.heap.size W w') := Lib.hid fun W hW => by
      rw [← hB]
      exact rroot_any _ _ W (by rw [List.length_drop]; omega) (hS5.drop _) (hv2.below hW (Nat.le_refl _))
    have e1 : (⟨#[1]⟩ : ByteArray) ++ A = z1 ++ A := rfl
    have s1 : (z1 ++ A).size = 1 + A.size := by rw [ByteArray.size_append]; rfl
    have x1 : ¬ (9223372036854775807 < 1 + A.size) := by omega
    have x2 : ¬ (9223372036854775807 < 1 + A.size + B.size) := by omega
    obtain ⟨n, hn⟩ : ∃ n, l.length = n := ⟨_, rfl⟩
    obtain ⟨k, hk'⟩ : ∃ k, split l.length = k := ⟨_, rfl⟩
    rw [hk'] at H1 H2 H3 H4 HSp hs1 hs2 hlt hpos
    rw [hn] at H2 H4 HSp hs1 hs2 hlt h2
    rw [hn]
    clear hv hv1 hv2 hS hS5 hA hB hIA hIB hN hM HI hk' hn
    go_enter Tryd.func28, Tryd.ntmps28
    go_wp2_with fail
    refine (HSp.out _).mono ?_
    rintro e w1 ⟨rfl, rfl⟩
    go_wp2_with fail
    go_region_held3 (fun _ => True) (first | go_keep | trivial)
      ((first
        | (go_at_call_has 28 (Value.slice p1 k c1); refine (H1.out _ (Below.refl _ _).drew).mono ?_; rintro e w2 ⟨v2, rfl, ho, hb⟩; have HB2 := Lib.hid ((Below.refl w.heap.size w).drew.trans hb); have HO2 : Hid (SO w2 w.heap.size v2 IA) := Lib.hid ho; clear ho hb)
        | (go_at_call_has 28 (Value.slice p2 (n - k) c2); refine (H2.out _ HB2.out).mono ?_; rintro e w3 ⟨v3, rfl, ho, hb⟩; have HB3 := Lib.hid (HB2.out.trans (hb.mono HB2.out.size)); have HO3 : Hid (SO w3 w.heap.size v2 IA) := Lib.hid (HO2.out.below hb (Nat.le_refl _)); have HV3 : Hid (SV w3 v3 IB) := Lib.hid ho.sv; clear ho hb)
        | (go_at_call_has 16 (Value.slice p1 k c1); refine (H3.out _ HB4.out).mono ?_; rintro e w5 ⟨rfl, hb⟩; have HB5 := Lib.hid (HB4.out.trans (hb.mono HB4.out.size)); have HO5 := Lib.hid (HO4.out.below hb (Nat.le_refl _)); clear hb)
        | (go_at_call_has 16 (Value.slice p2 (n - k) c2); refine (H4.out _ HB5.out).mono ?_; rintro e w6 ⟨rfl, hb⟩; have HB6 := Lib.hid (HB5.out.trans (hb.mono HB5.out.size)); have HO6 := Lib.hid (HO5.out.below hb (Nat.le_refl _)); clear hb)
        | (have := HB6; refine step_append (by rfl) _ _ (by rfl) w.heap.size _ (IA ++ IB) [z1 ++ A ++ B] (by rfl) (HO6.out.alloc _) (.slice (some ⟨w6.heap.size, 0, none⟩) 1 1) (by rfl) (SV.lit (g := w6.heap.size) [z1 ++ A ++ B] (by simp) (heap_alloc_new w6 _)) (by simp; omega) (by have := HB6.out.size; simp; omega) ?_; intro v7 w7 ho7 hb7 _)
        | (have := HB3; refine step_append (by rfl) _ _ (by rfl) w.heap.size v2 IA IB (by rfl) HO3.out v3 (by rfl) HV3.out (by omega) HB3.out.size ?_; intro v4 w4 ho4 hb4 _; have HO4 := Lib.hid ho4; have HB4 := Lib.hid (HB3.out.trans hb4); clear ho4 hb4)))
    all_goals
      have HO7 : Hid (SO w7 w.heap.size v7 (inner l)) := Lib.hid (by rw [HE.out]; exact ho7)
      have HB7 := Lib.hid ((HB6.out.alloc HB6.out.size _).trans hb7)
      clear ho7 hb7
      go_wp2
      go_ret
      exact ⟨_, rfl, HO7.out, HB7.out⟩
theorem rinner_all (N : Nat) : RInnerOK N := by
  induction N with
  | zero =>
    intro l v w h hM hS hv
    obtain ⟨p, cap, rfl, _, _⟩ := hv.shape
    have h2 : l.length < 2 := by omega
    have HE := Lib.hid (inner_small l h2)
    clear hv hS
    go_enter Tryd.func28, Tryd.ntmps28
    go_wp2
    go_ret
    exact ⟨_, rfl, by rw [HE.out]; exact SO.nil _ _, Below.refl _ _⟩
  | succ N ih => exact rinner_step_any N ih
theorem rinner_any (l : List ByteArray) (v : Value) (w : World) (hM : l.length ≤ 1000) (hS : Short l 40000) (hv : SV w v l) :
    Calls Tryd.prog 28 #[v] w (Ret w (inner l)) := rinner_all l.length l v w (Nat.le_refl _) hM hS hv
end Go.Proofs.YtmapodkdnbbjgaaDoor
