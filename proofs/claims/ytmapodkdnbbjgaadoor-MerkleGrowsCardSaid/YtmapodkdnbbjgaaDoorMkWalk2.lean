/- merkle.Root; the laws' few, leaves; missiveref01.Strings: the walks. -/
import Derived.Test.YtmapodkdnbbjgaaDoorMkWalk1
import Derived.Deep.QuietTactic
import Derived.BigQuiet
namespace Go.Proofs.YtmapodkdnbbjgaaDoor
open Go.RowKit Mk Sl
/-- all strings are short -/
def Short (l : List ByteArray) (k : Nat) : Prop := ∀ s ∈ l, s.size ≤ k
theorem Short.take {l : List ByteArray} {k : Nat} (h : Short l k) (n : Nat) : Short (l.take n) k := fun s hs => h s (List.mem_of_mem_take hs)
theorem Short.drop {l : List ByteArray} {k : Nat} (h : Short l k) (n : Nat) : Short (l.drop n) k := fun s hs => h s (List.mem_of_mem_drop hs)
theorem Short.get {l : List ByteArray} {k : Nat} (h : Short l k) (i : Nat) : (l.getD i ⟨#[]⟩).size ≤ k := by
  rw [List.getD_eq_getElem?_getD]
  cases hq : l[i]? with
  | none => exact Nat.zero_le _
  | some x => exact h x (List.mem_of_getElem? hq)
theorem root_short (l : List ByteArray) (k : Nat) (h : Short l k) (hk : 32 ≤ k) : (root l).size ≤ k := by
  by_cases h2 : l.length < 2
  · rw [root, dif_pos h2]
    cases l with
    | nil => show (H _).size ≤ k; rw [H_size]; exact hk
    | cons x t => exact h x (by simp)
  · rw [root_step l (by omega), join_size]; exact hk
def RootOK (N : Nat) : Prop := ∀ (l : List ByteArray) (v : Value) (w : World), l.length ≤ N → l.length ≤ 1000000 → Short l 100000 → SV w v l → OKW w →
    Calls Tryd.prog 15 #[v] w fun e w' => e = .returned (.string (root l)) ∧ Below w.heap.size w w'
set_option maxHeartbeats 1000000 in
theorem root_step_any (N : Nat) (ih : RootOK N) : RootOK (N + 1) := by
  intro l v w hN hM hS hv hk
  have HI := Lib.hid ih
  clear ih
  rcases Nat.lt_or_ge l.length 2 with h2 | h2
  · match l, h2 with
    | [], _ =>
      obtain ⟨p, cap, rfl, _, _⟩ := hv.shape
      have HC := Lib.hid (H_any ⟨#[]⟩ w (by show 0 ≤ _; omega) hk)
      have HE := Lib.hid root_nil
      clear hv hk hS
      rw [List.length_nil]
      go_enter Tryd.func15, Tryd.ntmps15
      go_wp2_with fail
      refine HC.out.mono ?_
      rintro e w1 ⟨rfl, b⟩
      have HB := Lib.hid b
      clear b
      go_wp2
      go_ret
      exact ⟨by rw [HE.out]; rfl, HB.out⟩
    | [x], _ =>
      obtain ⟨g, o, cap, rfl, _, _, _, hc⟩ := hv.row (by simp)
      have c0 := hc 0 (by simp)
      rw [show ([x] : List ByteArray).getD 0 ⟨#[]⟩ = x from rfl, Nat.add_zero] at c0
      have HE := Lib.hid (root_one x)
      clear hv hk hS hc
      rw [show ([x] : List ByteArray).length = 1 from rfl]
      go_enter Tryd.func15, Tryd.ntmps15
      go_wp2
      go_ret
      exact ⟨by rw [HE.out]; rfl, Below.refl _ _⟩
  · obtain ⟨p, cap, rfl, _, _⟩ := hv.shape
    have hlt := split_lt l.length h2
    have hpos := split_pos l.length
    obtain ⟨p1, c1, hs1, hv1⟩ := hv.upto (split l.length) (by omega)
    obtain ⟨p2, c2, hs2, hv2⟩ := hv.from (split l.length) (by omega)
    have HSp := Lib.hid fun W => split_any l.length W h2 (by omega)
    have HE := Lib.hid (root_step l h2)
    obtain ⟨A, hA⟩ : ∃ A, root (l.take (split l.length)) = A := ⟨_, rfl⟩
    obtain ⟨B, hB⟩ : ∃ B, root (l.drop (split l.length)) = B := ⟨_, rfl⟩
    have hAs : A.size ≤ 100000 := by rw [← hA]; exact root_short _ _ (hS.take _) (by omega)
    have hBs : B.size ≤ 100000 := by rw [← hB]; exact root_short _ _ (hS.drop _) (by omega)
    rw [hA, hB] at HE
    have H1 : Hid (∀ W, Below w.heap.size w W → Calls Tryd.prog 15 #[.slice p1 (split l.length) c1] W fun e w' => e = .returned (.string A) ∧ Below W.heap.size W w') := Lib.hid (by
      intro W hW
      rw [← hA]
      exact HI.out _ _ W (by rw [List.length_take]; omega) (by rw [List.length_take]; omega) (hS.take _) (hv1.below hW (Nat.le_refl _)) (hk.below hW))
    have H2 : Hid (∀ W, Below w.heap.size w W → Calls Tryd.prog 15 #[.slice p2 (l.length - split l.length) c2] W fun e w' => e = .returned (.string B) ∧ Below W.heap.size W w') := Lib.hid (by
      intro W hW
      rw [← hB]
      exact HI.out _ _ W (by rw [List.length_drop]; omega) (by rw [List.length_drop]; omega) (hS.drop _) (hv2.below hW (Nat.le_refl _)) (hk.below hW))
    have H3 : Hid (∀ W, Below w.heap.size w W → Calls Tryd.prog 13 #[.string A, .string B] W fun e w' => e = .returned (.string (join A B)) ∧ Below W.heap.size W w') := Lib.hid fun W hW => join_any A B W hAs hBs (hk.below hW)
    have hd0 : ((l.length : Int) == 0) = false := beq_eq_false_iff_ne.2 (by omega)
    have hd1 : ((l.length : Int) == 1) = false := beq_eq_false_iff_ne.2 (by omega)
    obtain ⟨n, hn⟩ : ∃ n, l.length = n := ⟨_, rfl⟩
    obtain ⟨k, hk'⟩ : ∃ k, split l.length = k := ⟨_, rfl⟩
    rw [hk'] at H1 H2 HSp hs1 hs2 hlt hpos
    rw [hn] at H2 HSp hs1 hs2 hlt hd0 hd1 h2
    rw [hn]
    clear hv hv1 hv2 hS hk hA hB hN hM hAs hBs HI hk' hn
    go_enter Tryd.func15, Tryd.ntmps15
    go_wp2_with fail
    refine (HSp.out _).mono ?_
    rintro e w1 ⟨rfl, rfl⟩
    go_wp2_with fail
    go_region_held3 (fun _ => True) (first | go_keep | trivial)
      ((first
        | (go_at_call_has 15 (Value.slice p1 k c1); refine (H1.out _ (Below.refl _ _).drew).mono ?_; rintro e w2 ⟨rfl, hb2⟩; have HB2 := Lib.hid ((Below.refl w.heap.size w).drew.trans hb2); clear hb2)
        | (go_at_call_has 15 (Value.slice p2 (n - k) c2); refine (H2.out _ HB2.out).mono ?_; rintro e w3 ⟨rfl, hb3⟩; have HB3 := Lib.hid (HB2.out.trans (hb3.mono HB2.out.size)); clear hb3)
        | (go_at_call 13; refine (H3.out _ HB3.out).mono ?_; rintro e w4 ⟨rfl, hb4⟩; have HB4 := Lib.hid (HB3.out.trans (hb4.mono HB3.out.size)); clear hb4)))
    all_goals
      go_wp2
      go_ret
      exact ⟨by rw [HE.out]; rfl, HB4.out⟩
theorem root_all (N : Nat) : RootOK N := by
  induction N with
  | zero =>
    intro l v w h
    exact root_step_any 0 (fun l' v' w' h' hM hS hv hk => by
      obtain rfl := List.length_eq_zero_iff.1 (Nat.le_zero.1 h')
      obtain ⟨p, cap, rfl, _, _⟩ := hv.shape
      have HC := Lib.hid (H_any ⟨#[]⟩ w' (by show 0 ≤ _; omega) hk)
      have HE := Lib.hid root_nil
      clear hv hk hS
      rw [List.length_nil]
      go_enter Tryd.func15, Tryd.ntmps15
      go_wp2_with fail
      refine HC.out.mono ?_
      rintro e w1 ⟨rfl, b⟩
      have HB := Lib.hid b
      clear b
      go_wp2
      go_ret
      exact ⟨by rw [HE.out]; rfl, HB.out⟩) l v w (by omega)
  | succ N ih => exact root_step_any N ih
theorem root_any (l : List ByteArray) (v : Value) (w : World) (hM : l.length ≤ 1000000) (hS : Short l 100000) (hv : SV w v l) (hk : OKW w) :
    Calls Tryd.prog 15 #[v] w fun e w' => e = .returned (.string (root l)) ∧ Below w.heap.size w w' := root_all l.length l v w (Nat.le_refl _) hM hS hv hk
end Go.Proofs.YtmapodkdnbbjgaaDoor
