/- missiveref04.Along, Growing: the walks. -/
import Derived.Test.YtmapodkdnbbjgaaDoorMkRef3
import Derived.Test.YtmapodkdnbbjgaaDoorMkRoots0
namespace Go.Proofs.YtmapodkdnbbjgaaDoor
open Go.RowKit Mk Sl
namespace Mk
/-- the strings that are hashed for the root by a path, the path from the top down -/
def along : Nat → Nat → ByteArray → List ByteArray → List ByteArray
  | _, _, _, [] => []
  | n, i, x, y :: q =>
    if n < 2 then []
    else if i < split n then along (split n) i x q ++ [z1 ++ (byR (split n) i x q).1 ++ y]
    else along (n - split n) (i - split n) x q ++ [z1 ++ y ++ (byR (n - split n) (i - split n) x q).1]
/-- the strings that are hashed for the roots by a growth, the growth from the top down -/
def growing : ByteArray → Nat → Nat → List ByteArray → Bool → List ByteArray
  | _, _, _, [], _ => []
  | old, m, n, y :: q, wh =>
    if n ≤ m then []
    else if m ≤ split n then growing old m (split n) q wh ++ [z1 ++ (bothR old m (split n) q wh).2.1 ++ y]
    else growing old (m - split n) (n - split n) q false ++ [z1 ++ y ++ (bothR old (m - split n) (n - split n) q false).1, z1 ++ y ++ (bothR old (m - split n) (n - split n) q false).2.1]
theorem along_len : ∀ (q : List ByteArray) (n i : Nat) (x : ByteArray), (along n i x q).length ≤ q.length
  | [], n, i, x => by simp [along]
  | y :: q, n, i, x => by
    unfold along
    split
    · simp
    · split
      · rw [List.length_append]; have := along_len q (split n) i x; simp; omega
      · rw [List.length_append]; have := along_len q (n - split n) (i - split n) x; simp; omega
theorem growing_len : ∀ (q : List ByteArray) (old : ByteArray) (m n : Nat) (b : Bool), (growing old m n q b).length ≤ 2 * q.length
  | [], old, m, n, b => by simp [growing]
  | y :: q, old, m, n, b => by
    unfold growing
    split
    · simp
    · split
      · rw [List.length_append]; have := growing_len q old m (split n) b; simp; omega
      · rw [List.length_append]; have := growing_len q old (m - split n) (n - split n) false; simp; omega
theorem along_size (k : Nat) (hk : 32 ≤ k) (x : ByteArray) (hx : x.size ≤ k) : ∀ (q : List ByteArray) (n i : Nat), (∀ s ∈ q, s.size ≤ k) → ∀ s ∈ along n i x q, s.size ≤ 1 + 2 * k
  | [], n, i, _ => by intro s hs; simp [along] at hs
  | y :: q, n, i, h => by
    have hy := h y (by simp)
    have hq : ∀ s ∈ q, s.size ≤ k := fun s hs => h s (by simp [hs])
    intro s hs
    unfold along at hs
    split at hs
    · cases hs
    · split at hs
      · rcases List.mem_append.1 hs with hs | hs
        · exact along_size k hk x hx q _ _ hq s hs
        · simp only [List.mem_singleton] at hs
          subst hs
          have := byR_size k hk x hx q (split n) i
          rw [ByteArray.size_append, ByteArray.size_append]
          show 1 + _ + _ ≤ _
          omega
      · rcases List.mem_append.1 hs with hs | hs
        · exact along_size k hk x hx q _ _ hq s hs
        · simp only [List.mem_singleton] at hs
          subst hs
          have := byR_size k hk x hx q (n - split n) (i - split n)
          rw [ByteArray.size_append, ByteArray.size_append]
          show 1 + _ + _ ≤ _
          omega
theorem growing_size (k : Nat) (hk : 32 ≤ k) (old : ByteArray) (ho : old.size ≤ k) : ∀ (q : List ByteArray) (m n : Nat) (b : Bool), (∀ s ∈ q, s.size ≤ k) → ∀ s ∈ growing old m n q b, s.size ≤ 1 + 2 * k
  | [], m, n, b, _ => by intro s hs; simp [growing] at hs
  | y :: q, m, n, b, h => by
    have hy := h y (by simp)
    have hq : ∀ s ∈ q, s.size ≤ k := fun s hs => h s (by simp [hs])
    intro s hs
    unfold growing at hs
    split at hs
    · cases hs
    · split at hs
      · rcases List.mem_append.1 hs with hs | hs
        · exact growing_size k hk old ho q _ _ _ hq s hs
        · simp only [List.mem_singleton] at hs
          subst hs
          have := (bothR_size k hk old ho q m (split n) b hq).2
          rw [ByteArray.size_append, ByteArray.size_append]
          show 1 + _ + _ ≤ _
          omega
      · rcases List.mem_append.1 hs with hs | hs
        · exact growing_size k hk old ho q _ _ _ hq s hs
        · have := bothR_size k hk old ho q (m - split n) (n - split n) false hq
          simp only [List.mem_cons, List.not_mem_nil, or_false] at hs
          rcases hs with rfl | rfl
          · rw [ByteArray.size_append, ByteArray.size_append]
            show 1 + _ + _ ≤ _
            omega
          · rw [ByteArray.size_append, ByteArray.size_append]
            show 1 + _ + _ ≤ _
            omega
end Mk
def RAlongOK (N : Nat) : Prop := ∀ (p : List ByteArray) (n i : Nat) (x : ByteArray) (vp : Value) (w : World), p.length ≤ N → p.length ≤ 1000 → i < n → n ≤ 9223372036854775807 → x.size ≤ 100000 → Short p 100000 → SV w vp p →
    Calls Tryd.prog 42 #[.int .i64 n, .int .i64 i, .string x, vp] w (Ret w (along n i x p.reverse))
theorem ralong_end (p : List ByteArray) (n i : Nat) (x : ByteArray) (vp : Value) (w : World) (_hi : i < n) (hv : SV w vp p) (h : n < 2 ∨ p.length = 0) :
    Calls Tryd.prog 42 #[.int .i64 n, .int .i64 i, .string x, vp] w (Ret w (along n i x p.reverse)) := by
  have hE : along n i x p.reverse = [] := by
    rcases h with h | h
    · cases p.reverse with
      | nil => rfl
      | cons y q => rw [along, if_pos h]
    · rw [List.length_eq_zero_iff.1 h]; rfl
  obtain ⟨q, cap, rfl, _, _⟩ := hv.shape
  rw [hE]
  clear hE hv
  rcases Nat.lt_or_ge n 2 with h2 | h2
  · clear h
    go_enter Tryd.func42, Tryd.ntmps42
    go_wp2
    go_ret
    exact ⟨_, rfl, SO.nil _ _, Below.refl _ _⟩
  · have h0 : p.length = 0 := by omega
    rw [h0]
    have hn : ¬ ((n : Int) < 2) := by omega
    clear h h0
    go_enter Tryd.func42, Tryd.ntmps42
    go_wp2
    go_ret
    exact ⟨_, rfl, SO.nil _ _, Below.refl _ _⟩
set_option maxRecDepth 100000 in
set_option maxHeartbeats 4000000 in
theorem ralong_step (N : Nat) (ih : RAlongOK N) : RAlongOK (N + 1) := by
  intro p n i x vp w hN hM hi hn hx hS hv
  have HI := Lib.hid ih
  clear ih
  rcases Nat.eq_zero_or_pos p.length with h0 | h0
  · exact ralong_end p n i x vp w hi hv (.inr h0)
  · rcases Nat.lt_or_ge n 2 with hn2 | h2
    · exact ralong_end p n i x vp w hi hv (.inl hn2)
    obtain ⟨q, cap, rfl, _, _⟩ := hv.shape
    obtain ⟨p', y, hpe, hrev, htk, hgd⟩ := last_cases p h0
    obtain ⟨g, o, c, hpv, hg, _, _, hcp⟩ := hv.row h0
    simp only [Value.slice.injEq] at hpv
    obtain ⟨rfl, -, rfl⟩ := hpv
    have hc1 := hcp (p.length - 1) (by omega)
    rw [hgd] at hc1
    obtain ⟨p1, c1, hs1, hv1⟩ := hv.upto (p.length - 1) (by omega)
    rw [htk] at hv1
    have hys : y.size ≤ 100000 := by rw [← hgd]; exact hS.get _
    have hS' : Short p' 100000 := by rw [← htk]; exact hS.take _
    have hpl' : p'.length = p.length - 1 := by rw [hpe]; simp
    rw [hrev]
    have hQl : p'.reverse.length ≤ 1000 := by rw [List.length_reverse]; omega
    have hQs : ∀ s ∈ p'.reverse, s.size ≤ 100000 := fun s hs => hS' s (by simpa using hs)
    obtain ⟨Q, hQ⟩ : ∃ Q, p'.reverse = Q := ⟨_, rfl⟩
    rw [hQ] at hQl hQs ⊢
    have HBy : Hid (∀ (n i : Nat) W, i < n → n ≤ 9223372036854775807 → Below w.heap.size w W → Calls Tryd.prog 40 #[.int .i64 n, .int .i64 i, .string x, .slice p1 (p.length - 1) c1] W fun e w' => e = .returned (.tuple #[.string (byR n i x Q).1, .bool (byR n i x Q).2]) ∧ Below W.heap.size W w') := Lib.hid fun n i W h1 h2 hW => by
      rw [← hQ]
      exact rby_any p' n i x _ W (by omega) h1 h2 hx hS' (hv1.below hW (Nat.le_refl _))
    have HAl : Hid (∀ (n i : Nat) W, i < n → n ≤ 9223372036854775807 → Below w.heap.size w W → Calls Tryd.prog 42 #[.int .i64 n, .int .i64 i, .string x, .slice p1 (p.length - 1) c1] W (Ret W (along n i x Q))) := Lib.hid fun n i W h1 h2 hW => by
      rw [← hQ]
      exact HI.out p' n i x _ W (by omega) (by omega) h1 h2 hx hS' (hv1.below hW (Nat.le_refl _))
    have HSz := Lib.hid (fun n i => byR_size 100000 (by omega) x hx Q n i)
    have HLn := Lib.hid (fun n i => Nat.le_trans (along_len Q n i x) hQl)
    obtain ⟨m, hm⟩ : ∃ m, p.length = m := ⟨_, rfl⟩
    obtain ⟨lm, hlm⟩ : ∃ k, p.length - 1 = k := ⟨_, rfl⟩
    rw [hlm] at hc1 hs1 HBy HAl
    rw [hm] at hlm h0 hs1 hM
    rw [hm]
    have hmi : (m : Int) - 1 = (lm : Int) := by omega
    have hm0 : ((m : Int) == 0) = false := by simp; omega
    have hlmm : lm < m := by omega
    have hl0 : 0 ≤ (lm : Int) := by omega
    have hl1 : (lm : Int) < (m : Int) := by omega
    have HN := Lib.hid hn
    have hd1 : decide ((n : Int) < 2) = false := by simp; omega
    have hd2 : decide ((i : Int) < 0) = false := by simp
    have hd4 : decide (n ≤ i) = false := by simp; omega
    have hlt := split_lt n h2
    have hpos := split_pos n
    have HSp := Lib.hid fun W => rsplit_any n W h2 hn
    clear hv hv1 hS hS' hcp hpe hrev htk hgd hpl' hQ hQl hQs hN hlm hm hx HI
    by_cases hc : i < split n
    · have hE : along n i x (y :: Q) = along (split n) i x Q ++ [z1 ++ (byR (split n) i x Q).1 ++ y] := by rw [along, if_neg (by omega), if_pos hc]
      have hC := HBy.out (split n) i w (by omega) (by omega) (Below.refl _ _)
      have hA : ∀ W, Below w.heap.size w W → _ := fun W hW => HAl.out (split n) i W (by omega) (by omega) hW
      have hsz := HSz.out (split n) i
      have hln := HLn.out (split n) i
      obtain ⟨X, hX⟩ : ∃ X, (byR (split n) i x Q).1 = X := ⟨_, rfl⟩
      obtain ⟨O, hO⟩ : ∃ X, (byR (split n) i x Q).2 = X := ⟨_, rfl⟩
      obtain ⟨AL, hAL⟩ : ∃ X, along (split n) i x Q = X := ⟨_, rfl⟩
      rw [hX, hAL] at hE
      rw [hX, hO] at hC
      rw [hX] at hsz
      rw [hAL] at hln
      have hA' : ∀ W, Below w.heap.size w W → Calls Tryd.prog 42 #[.int .i64 ((split n) : Nat), .int .i64 (i : Nat), .string x, .slice p1 lm c1] W (Ret W AL) := fun W hW => by have := hA W hW; rw [hAL] at this; exact this
      have HE := Lib.hid hE; have HC := Lib.hid hC; have HA := Lib.hid hA'
      have e1 : (⟨#[1]⟩ : ByteArray) ++ X = z1 ++ X := rfl
      have s1 : (z1 ++ X).size = 1 + X.size := by rw [ByteArray.size_append]; rfl
      have x1 : ¬ (9223372036854775807 < 1 + X.size) := by omega
      have x2 : ¬ (9223372036854775807 < 1 + X.size + y.size) := by omega
      obtain ⟨k, hk'⟩ : ∃ k, split n = k := ⟨_, rfl⟩
      rw [hk'] at HC HA HSp hlt hpos hc
      have hd3 : decide (i < k) = true := by simp; omega
      clear hX hO hAL hE hC hA hA' hk' HBy HAl HSz HLn hn
      go_enter Tryd.func42, Tryd.ntmps42
      go_wp2_with fail
      refine (HSp.out _).mono ?_
      rintro e w1 ⟨rfl, rfl⟩
      go_wp2_with fail
      refine HC.out.mono ?_
      rintro e w1 ⟨rfl, b1⟩
      have HB1 := Lib.hid b1
      have cy1 : w1.cell? ⟨g, o + lm, none⟩ = some (.string y) := (b1.cell (p := ⟨g, o + lm, none⟩) hg).trans hc1
      clear b1
      go_wp2_with fail
      go_region_held3 (fun w' => w'.cell? ⟨g, o + lm, none⟩ = some (.string y)) (first | go_keep | assumption)
        ((first
          | (go_at_call_has 42 (Value.slice p1 lm c1); first
            | (refine (HA.out _ HB1.out.drew).mono ?_; rintro e w2 ⟨v2, rfl, ho, hb⟩; have HB2 : Hid (Below w.heap.size w w2) := Lib.hid (HB1.out.drew.trans (hb.mono HB1.out.size)); have HO2 : Hid (SO w2 w.heap.size v2 AL) := Lib.hid (ho.mono HB1.out.size); have cy2 : w2.cell? ⟨g, o + lm, none⟩ = some (.string y) := (HB2.out.cell (p := ⟨g, o + lm, none⟩) hg).trans hc1; have HMark := Lib.hid trivial; clear ho hb)
            | (refine (HA.out _ (HB1.out.alloc HB1.out.size (.cells #[.string (z1 ++ X ++ y)] 9)).drew).mono ?_; rintro e w2 ⟨v2, rfl, ho, hb⟩; have HB2 : Hid (Below w.heap.size w w2) := Lib.hid ((HB1.out.alloc HB1.out.size (.cells #[.string (z1 ++ X ++ y)] 9)).drew.trans (hb.mono (HB1.out.alloc HB1.out.size (.cells #[.string (z1 ++ X ++ y)] 9)).drew.size)); have HO2 : Hid (SO w2 w.heap.size v2 AL) := Lib.hid (ho.mono (HB1.out.alloc HB1.out.size (.cells #[.string (z1 ++ X ++ y)] 9)).drew.size); have HVb : Hid (SV w2 (.slice (some ⟨w1.heap.size, 0, none⟩) 1 1) [z1 ++ X ++ y]) := Lib.hid (SV.below (w := (w1.alloc (.cells #[.string (z1 ++ X ++ y)] 9)).drew) (SV.lit (g := w1.heap.size) [z1 ++ X ++ y] (by simp) (heap_alloc_new w1 _)) hb (Nat.le_refl _)); have cy2 : w2.cell? ⟨g, o + lm, none⟩ = some (.string y) := (HB2.out.cell (p := ⟨g, o + lm, none⟩) hg).trans hc1; clear ho hb))
          | (have := HMark; refine step_append (by rfl) _ _ (by rfl) w.heap.size _ AL [z1 ++ X ++ y] (by rfl) (HO2.out.alloc _) (.slice (some ⟨w2.heap.size, 0, none⟩) 1 1) (by rfl) (SV.lit (g := w2.heap.size) [z1 ++ X ++ y] (by simp) (heap_alloc_new w2 _)) (by simp; omega) (by have := HB2.out.size; simp; omega) ?_; intro v7 w7 ho7 hb7 _; have HB7 := Lib.hid ((HB2.out.alloc HB2.out.size _).trans hb7); have cy7 : w7.cell? ⟨g, o + lm, none⟩ = some (.string y) := (HB7.out.cell (p := ⟨g, o + lm, none⟩) hg).trans hc1)
          | (have := HVb; refine step_append (by rfl) _ _ (by rfl) w.heap.size _ AL [z1 ++ X ++ y] (by rfl) HO2.out (.slice (some ⟨w1.heap.size, 0, none⟩) 1 1) (by rfl) HVb.out (by simp; omega) HB2.out.size ?_; intro v7 w7 ho7 hb7 _; have HB7 := Lib.hid (HB2.out.trans hb7); have cy7 : w7.cell? ⟨g, o + lm, none⟩ = some (.string y) := (HB7.out.cell (p := ⟨g, o + lm, none⟩) hg).trans hc1)))
      all_goals
        have HO7 : Hid (SO w7 w.heap.size v7 (along n i x (y :: Q))) := Lib.hid (by rw [HE.out]; exact ho7)
        clear ho7 hb7
        go_wp2
        go_ret
        exact ⟨_, rfl, HO7.out, HB7.out⟩
    · have hE : along n i x (y :: Q) = along (n - split n) (i - split n) x Q ++ [z1 ++ y ++ (byR (n - split n) (i - split n) x Q).1] := by rw [along, if_neg (by omega), if_neg hc]
      have hC := HBy.out (n - split n) (i - split n) w (by omega) (by omega) (Below.refl _ _)
      have hA : ∀ W, Below w.heap.size w W → _ := fun W hW => HAl.out (n - split n) (i - split n) W (by omega) (by omega) hW
      have hsz := HSz.out (n - split n) (i - split n)
      have hln := HLn.out (n - split n) (i - split n)
      obtain ⟨X, hX⟩ : ∃ X, (byR (n - split n) (i - split n) x Q).1 = X := ⟨_, rfl⟩
      obtain ⟨O, hO⟩ : ∃ X, (byR (n - split n) (i - split n) x Q).2 = X := ⟨_, rfl⟩
      obtain ⟨AL, hAL⟩ : ∃ X, along (n - split n) (i - split n) x Q = X := ⟨_, rfl⟩
      rw [hX, hAL] at hE
      rw [hX, hO] at hC
      rw [hX] at hsz
      rw [hAL] at hln
      have hA' : ∀ W, Below w.heap.size w W → Calls Tryd.prog 42 #[.int .i64 ((n - split n) : Nat), .int .i64 ((i - split n) : Nat), .string x, .slice p1 lm c1] W (Ret W AL) := fun W hW => by have := hA W hW; rw [hAL] at this; exact this
      have HE := Lib.hid hE; have HC := Lib.hid hC; have HA := Lib.hid hA'
      have e1 : (⟨#[1]⟩ : ByteArray) ++ y = z1 ++ y := rfl
      have s1 : (z1 ++ y).size = 1 + y.size := by rw [ByteArray.size_append]; rfl
      have x1 : ¬ (9223372036854775807 < 1 + y.size) := by omega
      have x2 : ¬ (9223372036854775807 < 1 + y.size + X.size) := by omega
      obtain ⟨k, hk'⟩ : ∃ k, split n = k := ⟨_, rfl⟩
      rw [hk'] at HC HA HSp hlt hpos hc
      have hd3 : decide (i < k) = false := by simp; omega
      obtain ⟨nn, hnn⟩ : ∃ z, n - k = z := ⟨_, rfl⟩
      obtain ⟨ii, hii⟩ : ∃ z, i - k = z := ⟨_, rfl⟩
      rw [hnn, hii] at HC HA
      have hnx : nn ≤ 9223372036854775807 := by omega
      have hix : ii ≤ 9223372036854775807 := by omega
      have hb1 : (n : Int) - (k : Int) = (nn : Int) := by omega
      have hb2 : (i : Int) - (k : Int) = (ii : Int) := by omega
      have hwr1 : IntKind.i64.wrap ((n : Int) - (k : Int)) = (nn : Int) := by rw [hb1, IntWalk.i64_in _ (by omega)]
      have hwr2 : IntKind.i64.wrap ((i : Int) - (k : Int)) = (ii : Int) := by rw [hb2, IntWalk.i64_in _ (by omega)]
      have HWR1 := Lib.hid hwr1
      have HWR2 := Lib.hid hwr2
      have HB1x := Lib.hid hb1
      have HB2x := Lib.hid hb2
      clear hwr1 hwr2 hnn hii
      clear hX hO hAL hE hC hA hA' hk' HBy HAl HSz HLn hn
      go_enter Tryd.func42, Tryd.ntmps42
      go_wp2_with fail
      refine (HSp.out _).mono ?_
      rintro e w1 ⟨rfl, rfl⟩
      go_wp2_with fail
      refine HC.out.mono ?_
      rintro e w1 ⟨rfl, b1⟩
      have HB1 := Lib.hid b1
      have cy1 : w1.cell? ⟨g, o + lm, none⟩ = some (.string y) := (b1.cell (p := ⟨g, o + lm, none⟩) hg).trans hc1
      clear b1
      go_wp2_with fail
      clear hb1 hb2
      have hwr1 := HWR1.out
      have hwr2 := HWR2.out
      go_region_held3 (fun w' => w'.cell? ⟨g, o + lm, none⟩ = some (.string y)) (first | go_keep | assumption)
        ((first
          | (go_at_call_has 42 (Value.slice p1 lm c1); first
            | (refine (HA.out _ HB1.out.drew).mono ?_; rintro e w2 ⟨v2, rfl, ho, hb⟩; have HB2 : Hid (Below w.heap.size w w2) := Lib.hid (HB1.out.drew.trans (hb.mono HB1.out.size)); have HO2 : Hid (SO w2 w.heap.size v2 AL) := Lib.hid (ho.mono HB1.out.size); have cy2 : w2.cell? ⟨g, o + lm, none⟩ = some (.string y) := (HB2.out.cell (p := ⟨g, o + lm, none⟩) hg).trans hc1; have HMark := Lib.hid trivial; clear ho hb)
            | (refine (HA.out _ (HB1.out.alloc HB1.out.size (.cells #[.string (z1 ++ y ++ X)] 9)).drew).mono ?_; rintro e w2 ⟨v2, rfl, ho, hb⟩; have HB2 : Hid (Below w.heap.size w w2) := Lib.hid ((HB1.out.alloc HB1.out.size (.cells #[.string (z1 ++ y ++ X)] 9)).drew.trans (hb.mono (HB1.out.alloc HB1.out.size (.cells #[.string (z1 ++ y ++ X)] 9)).drew.size)); have HO2 : Hid (SO w2 w.heap.size v2 AL) := Lib.hid (ho.mono (HB1.out.alloc HB1.out.size (.cells #[.string (z1 ++ y ++ X)] 9)).drew.size); have HVb : Hid (SV w2 (.slice (some ⟨w1.heap.size, 0, none⟩) 1 1) [z1 ++ y ++ X]) := Lib.hid (SV.below (w := (w1.alloc (.cells #[.string (z1 ++ y ++ X)] 9)).drew) (SV.lit (g := w1.heap.size) [z1 ++ y ++ X] (by simp) (heap_alloc_new w1 _)) hb (Nat.le_refl _)); have cy2 : w2.cell? ⟨g, o + lm, none⟩ = some (.string y) := (HB2.out.cell (p := ⟨g, o + lm, none⟩) hg).trans hc1; clear ho hb))
          | (have := HMark; refine step_append (by rfl) _ _ (by rfl) w.heap.size _ AL [z1 ++ y ++ X] (by rfl) (HO2.out.alloc _) (.slice (some ⟨w2.heap.size, 0, none⟩) 1 1) (by rfl) (SV.lit (g := w2.heap.size) [z1 ++ y ++ X] (by simp) (heap_alloc_new w2 _)) (by simp; omega) (by have := HB2.out.size; simp; omega) ?_; intro v7 w7 ho7 hb7 _; have HB7 := Lib.hid ((HB2.out.alloc HB2.out.size _).trans hb7); have cy7 : w7.cell? ⟨g, o + lm, none⟩ = some (.string y) := (HB7.out.cell (p := ⟨g, o + lm, none⟩) hg).trans hc1)
          | (have := HVb; refine step_append (by rfl) _ _ (by rfl) w.heap.size _ AL [z1 ++ y ++ X] (by rfl) HO2.out (.slice (some ⟨w1.heap.size, 0, none⟩) 1 1) (by rfl) HVb.out (by simp; omega) HB2.out.size ?_; intro v7 w7 ho7 hb7 _; have HB7 := Lib.hid (HB2.out.trans hb7); have cy7 : w7.cell? ⟨g, o + lm, none⟩ = some (.string y) := (HB7.out.cell (p := ⟨g, o + lm, none⟩) hg).trans hc1)))
      all_goals
        have HO7 : Hid (SO w7 w.heap.size v7 (along n i x (y :: Q))) := Lib.hid (by rw [HE.out]; exact ho7)
        clear ho7 hb7
        go_wp2
        go_ret
        exact ⟨_, rfl, HO7.out, HB7.out⟩
theorem ralong_all (N : Nat) : RAlongOK N := by
  induction N with
  | zero =>
    intro p n i x vp w h _ hi _ _ _ hv
    exact ralong_end p n i x vp w hi hv (.inr (by omega))
  | succ N ih => exact ralong_step N ih
theorem ralong_any (p : List ByteArray) (n i : Nat) (x : ByteArray) (vp : Value) (w : World) (hM : p.length ≤ 1000) (hi : i < n) (hn : n ≤ 9223372036854775807) (hx : x.size ≤ 100000) (hS : Short p 100000) (hv : SV w vp p) :
    Calls Tryd.prog 42 #[.int .i64 n, .int .i64 i, .string x, vp] w (Ret w (along n i x p.reverse)) :=
  ralong_all p.length p n i x vp w (Nat.le_refl _) hM hi hn hx hS hv
end Go.Proofs.YtmapodkdnbbjgaaDoor
