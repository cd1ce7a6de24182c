/- missiveref04.Growing: the walk. -/
import Derived.Test.YtmapodkdnbbjgaaDoorMkRef6
namespace Go.Proofs.YtmapodkdnbbjgaaDoor
open Go.RowKit Mk Sl
def RGrowingOK (N : Nat) : Prop := ∀ (p : List ByteArray) (old : ByteArray) (m n : Nat) (wh : Bool) (vp : Value) (w : World), p.length ≤ N → p.length ≤ 1000 → 1 ≤ m → m ≤ n → n ≤ 9223372036854775807 → old.size ≤ 100000 → Short p 100000 → SV w vp p →
    Calls Tryd.prog 30 #[.string old, .int .i64 m, .int .i64 n, vp, .bool wh] w (Ret w (growing old m n p.reverse wh))
theorem rgrowing_end (p : List ByteArray) (old : ByteArray) (m n : Nat) (wh : Bool) (vp : Value) (w : World) (hm : 1 ≤ m) (hv : SV w vp p) (h : n ≤ m ∨ p.length = 0) :
    Calls Tryd.prog 30 #[.string old, .int .i64 m, .int .i64 n, vp, .bool wh] w (Ret w (growing old m n p.reverse wh)) := by
  have hE : growing old m n p.reverse wh = [] := by
    rcases h with h | h
    · cases p.reverse with
      | nil => rw [growing]
      | cons y q => rw [growing, if_pos h]
    · rw [List.length_eq_zero_iff.1 h]; rw [List.reverse_nil, growing]
  obtain ⟨q, cap, rfl, _, _⟩ := hv.shape
  rw [hE]
  clear hE hv
  by_cases h2 : n ≤ m
  · have hd : decide (n ≤ m) = true := decide_eq_true h2
    clear h h2
    go_enter Tryd.func30, Tryd.ntmps30
    go_wp2
    go_ret
    exact ⟨_, rfl, SO.nil _ _, Below.refl _ _⟩
  · have h0 : p.length = 0 := by omega
    rw [h0]
    have hd : decide (n ≤ m) = false := by simp; omega
    have hd1 : decide ((m : Int) < 1) = false := by simp; omega
    clear h h0 h2
    go_enter Tryd.func30, Tryd.ntmps30
    go_wp2
    go_ret
    exact ⟨_, rfl, SO.nil _ _, Below.refl _ _⟩
set_option maxRecDepth 100000 in
set_option maxHeartbeats 4000000 in
theorem rgrowing_step (N : Nat) (ih : RGrowingOK N) : RGrowingOK (N + 1) := by
  intro p old mm n wh vp w hN hM hm1 hmn hn ho hS hv
  have HI := Lib.hid ih
  clear ih
  rcases Nat.eq_zero_or_pos p.length with h0 | h0
  · exact rgrowing_end p old mm n wh vp w hm1 hv (.inr h0)
  · by_cases hn2 : n ≤ mm
    · exact rgrowing_end p old mm n wh vp w hm1 hv (.inl hn2)
    obtain ⟨q, cap, rfl, _, _⟩ := hv.shape
    obtain ⟨p', y, hpe, hrev, htk, hgd⟩ := last_cases p h0
    obtain ⟨g, o, c, hpv, hg, _, _, hcp⟩ := hv.row h0
    simp only [Value.slice.injEq] at hpv
    obtain ⟨rfl, -, rfl⟩ := hpv
    have hc1 := hcp (p.length - 1) (by omega)
    rw [hgd] at hc1
    obtain ⟨p1, c1, hs1, hv1⟩ := hv.upto (p.length - 1) (by omega)
    rw [htk] at hv1
    have hys : y.size ≤ 100000 := by rw [← hgd]; exact hS.get _
    have hS' : Short p' 100000 := by rw [← htk]; exact hS.take _
    have hpl' : p'.length = p.length - 1 := by rw [hpe]; simp
    rw [hrev]
    have hQl : p'.reverse.length ≤ 1000 := by rw [List.length_reverse]; omega
    have hQs : ∀ s ∈ p'.reverse, s.size ≤ 100000 := fun s hs => hS' s (by simpa using hs)
    obtain ⟨Q, hQ⟩ : ∃ Q, p'.reverse = Q := ⟨_, rfl⟩
    rw [hQ] at hQl hQs ⊢
    have HBo : Hid (∀ (m n : Nat) (b : Bool) W, 1 ≤ m → m ≤ n → n ≤ 9223372036854775807 → Below w.heap.size w W → Calls Tryd.prog 41 #[.string old, .int .i64 m, .int .i64 n, .slice p1 (p.length - 1) c1, .bool b] W fun e w' => e = .returned (.tuple #[.string (bothR old m n Q b).1, .string (bothR old m n Q b).2.1, .bool (bothR old m n Q b).2.2]) ∧ Below W.heap.size W w') := Lib.hid fun m n b W h1 h2 h3 hW => by
      rw [← hQ]
      exact rboth_any p' old m n b _ W (by omega) h1 h2 h3 ho hS' (hv1.below hW (Nat.le_refl _))
    have HGr : Hid (∀ (m n : Nat) (b : Bool) W, 1 ≤ m → m ≤ n → n ≤ 9223372036854775807 → Below w.heap.size w W → Calls Tryd.prog 30 #[.string old, .int .i64 m, .int .i64 n, .slice p1 (p.length - 1) c1, .bool b] W (Ret W (growing old m n Q b))) := Lib.hid fun m n b W h1 h2 h3 hW => by
      rw [← hQ]
      exact HI.out p' old m n b _ W (by omega) (by omega) h1 h2 h3 ho hS' (hv1.below hW (Nat.le_refl _))
    have HSz := Lib.hid (fun m n b => bothR_size 100000 (by omega) old ho Q m n b hQs)
    have HLn := Lib.hid (fun m n b => Nat.le_trans (growing_len Q old m n b) (show 2 * Q.length ≤ 2000 by omega))
    obtain ⟨m, hm⟩ : ∃ m, p.length = m := ⟨_, rfl⟩
    obtain ⟨lm, hlm⟩ : ∃ k, p.length - 1 = k := ⟨_, rfl⟩
    rw [hlm] at hc1 hs1 HBo HGr
    rw [hm] at hlm h0 hs1 hM
    rw [hm]
    have hmi : (m : Int) - 1 = (lm : Int) := by omega
    have hm0 : ((m : Int) == 0) = false := by simp; omega
    have hlmm : lm < m := by omega
    have hl0 : 0 ≤ (lm : Int) := by omega
    have hl1 : (lm : Int) < (m : Int) := by omega
    have HN := Lib.hid hn
    have hd1 : decide (n ≤ mm) = false := by simp; omega
    have hd2 : decide ((mm : Int) < 1) = false := by simp; omega
    have hlt := split_lt n (by omega)
    have hpos := split_pos n
    have HSp := Lib.hid fun W => rsplit_any n W (by omega) hn
    clear hv hv1 hS hS' hcp hpe hrev htk hgd hQ hQl hQs hN hlm hm ho HI
    by_cases hc : mm ≤ split n
    · have hE : growing old mm n (y :: Q) wh = growing old mm (split n) Q wh ++ [z1 ++ (bothR old mm (split n) Q wh).2.1 ++ y] := by rw [growing, if_neg (by omega), if_pos hc]
      have hC := HBo.out mm (split n) wh w (by omega) (by omega) (by omega) (Below.refl _ _)
      have hG : ∀ W, Below w.heap.size w W → Calls Tryd.prog 30 #[.string old, .int .i64 (mm : Nat), .int .i64 ((split n) : Nat), .slice p1 lm c1, .bool wh] W (Ret W (growing old mm (split n) Q wh)) := fun W hW => HGr.out mm (split n) wh W (by omega) (by omega) (by omega) hW
      have hsz := HSz.out mm (split n) wh
      have hln := HLn.out mm (split n) wh
      obtain ⟨X, hX⟩ : ∃ X, (bothR old mm (split n) Q wh).1 = X := ⟨_, rfl⟩
      obtain ⟨Y, hY⟩ : ∃ X, (bothR old mm (split n) Q wh).2.1 = X := ⟨_, rfl⟩
      obtain ⟨O, hO⟩ : ∃ X, (bothR old mm (split n) Q wh).2.2 = X := ⟨_, rfl⟩
      obtain ⟨GL, hGL⟩ : ∃ X, growing old mm (split n) Q wh = X := ⟨_, rfl⟩
      rw [hY, hGL] at hE
      rw [hX, hY, hO] at hC
      rw [hX, hY] at hsz
      rw [hGL] at hln hG
      have hsx := hsz.1
      have hsy := hsz.2
      have HE := Lib.hid hE; have HC := Lib.hid hC; have HG := Lib.hid hG
      have e1 : (⟨#[1]⟩ : ByteArray) ++ Y = z1 ++ Y := rfl
      have s1 : (z1 ++ Y).size = 1 + Y.size := by rw [ByteArray.size_append]; rfl
      have x1 : ¬ (9223372036854775807 < 1 + Y.size) := by omega
      have x2 : ¬ (9223372036854775807 < 1 + Y.size + y.size) := by omega
      obtain ⟨k, hk'⟩ : ∃ k, split n = k := ⟨_, rfl⟩
      rw [hk'] at HC HG HSp hlt hpos hc
      have hd3 : decide (mm ≤ k) = true := by simp; omega
      have HNum : Hid (GL.length + 1 ≤ 1000000) := Lib.hid (by omega)
      clear hX hY hO hGL hE hC hG hk' HBo HGr HSz HLn hn hln hsz
      go_enter Tryd.func30, Tryd.ntmps30
      go_wp2_with fail
      refine (HSp.out _).mono ?_
      rintro e w1 ⟨rfl, rfl⟩
      go_wp2_with fail
      refine HC.out.mono ?_
      rintro e w1 ⟨rfl, b1⟩
      have HB1 := Lib.hid b1
      clear b1
      go_wp2_with fail
      refine (HG.out _ HB1.out).mono ?_
      rintro e w2 ⟨v2, rfl, ho, b1⟩
      have HB2 : Hid (Below w.heap.size w w2) := Lib.hid (HB1.out.trans (b1.mono HB1.out.size))
      have HO2 : Hid (SO w2 w.heap.size v2 GL) := Lib.hid (ho.mono HB1.out.size)
      clear ho b1
      go_wp2_with (at_builtin; refine wpList_append rfl _ _ rfl w.heap.size _ GL [z1 ++ Y ++ y] rfl (HO2.out.alloc _) _ rfl (SV.lit (g := w2.heap.size) [z1 ++ Y ++ y] (by simp) (heap_alloc_new w2 _)) HNum.out (by have := HB2.out.size; simp; omega) ?_; intro v4 w4 ho4 hb4 _; have HO4 : Hid (SO w4 w.heap.size v4 (growing old mm n (y :: Q) wh)) := Lib.hid (by rw [HE.out]; exact ho4); have HB4 : Hid (Below w.heap.size w w4) := Lib.hid ((HB2.out.alloc HB2.out.size _).trans hb4); clear ho4 hb4)
      go_ret
      exact ⟨_, rfl, HO4.out, HB4.out⟩
    · have hE : growing old mm n (y :: Q) wh = growing old (mm - split n) (n - split n) Q false ++ [z1 ++ y ++ (bothR old (mm - split n) (n - split n) Q false).1, z1 ++ y ++ (bothR old (mm - split n) (n - split n) Q false).2.1] := by rw [growing, if_neg (by omega), if_neg hc]
      have hC := HBo.out (mm - split n) (n - split n) false w (by omega) (by omega) (by omega) (Below.refl _ _)
      have hG : ∀ W, Below w.heap.size w W → Calls Tryd.prog 30 #[.string old, .int .i64 ((mm - split n) : Nat), .int .i64 ((n - split n) : Nat), .slice p1 lm c1, .bool false] W (Ret W (growing old (mm - split n) (n - split n) Q false)) := fun W hW => HGr.out (mm - split n) (n - split n) false W (by omega) (by omega) (by omega) hW
      have hsz := HSz.out (mm - split n) (n - split n) false
      have hln := HLn.out (mm - split n) (n - split n) false
      obtain ⟨X, hX⟩ : ∃ X, (bothR old (mm - split n) (n - split n) Q false).1 = X := ⟨_, rfl⟩
      obtain ⟨Y, hY⟩ : ∃ X, (bothR old (mm - split n) (n - split n) Q false).2.1 = X := ⟨_, rfl⟩
      obtain ⟨O, hO⟩ : ∃ X, (bothR old (mm - split n) (n - split n) Q false).2.2 = X := ⟨_, rfl⟩
      obtain ⟨GL, hGL⟩ : ∃ X, growing old (mm - split n) (n - split n) Q false = X := ⟨_, rfl⟩
      rw [hX, hY, hGL] at hE
      rw [hX, hY, hO] at hC
      rw [hX, hY] at hsz
      rw [hGL] at hln hG
      have hsx := hsz.1
      have hsy := hsz.2
      have HE := Lib.hid hE; have HC := Lib.hid hC; have HG := Lib.hid hG
      have e1 : (⟨#[1]⟩ : ByteArray) ++ y = z1 ++ y := rfl
      have s1 : (z1 ++ y).size = 1 + y.size := by rw [ByteArray.size_append]; rfl
      have x1 : ¬ (9223372036854775807 < 1 + y.size) := by omega
      have x2 : ¬ (9223372036854775807 < 1 + y.size + X.size) := by omega
      have x3 : ¬ (9223372036854775807 < 1 + y.size + Y.size) := by omega
      obtain ⟨k, hk'⟩ : ∃ k, split n = k := ⟨_, rfl⟩
      rw [hk'] at HC HG HSp hlt hpos hc
      have hd3 : decide (mm ≤ k) = false := by simp; omega
      obtain ⟨nn, hnn⟩ : ∃ z, n - k = z := ⟨_, rfl⟩
      obtain ⟨ii, hii⟩ : ∃ z, mm - k = z := ⟨_, rfl⟩
      rw [hnn, hii] at HC HG
      have hnx : nn ≤ 9223372036854775807 := by omega
      have hix : ii ≤ 9223372036854775807 := by omega
      have hb1 : (n : Int) - (k : Int) = (nn : Int) := by omega
      have hb2 : (mm : Int) - (k : Int) = (ii : Int) := by omega
      clear hnn hii
      have HNum : Hid (GL.length + 2 ≤ 1000000) := Lib.hid (by omega)
      clear hX hY hO hGL hE hC hG hk' HBo HGr HSz HLn hn hln hsz
      go_enter Tryd.func30, Tryd.ntmps30
      go_wp2_with fail
      refine (HSp.out _).mono ?_
      rintro e w1 ⟨rfl, rfl⟩
      go_wp2_with fail
      refine HC.out.mono ?_
      rintro e w1 ⟨rfl, b1⟩
      have HB1 := Lib.hid b1
      clear b1
      go_wp2_with fail
      refine (HG.out _ HB1.out).mono ?_
      rintro e w2 ⟨v2, rfl, ho, b1⟩
      have HB2 : Hid (Below w.heap.size w w2) := Lib.hid (HB1.out.trans (b1.mono HB1.out.size))
      have HO2 : Hid (SO w2 w.heap.size v2 GL) := Lib.hid (ho.mono HB1.out.size)
      clear ho b1
      go_wp2_with (at_builtin; refine wpList_append rfl _ _ rfl w.heap.size _ GL [z1 ++ y ++ X, z1 ++ y ++ Y] rfl (HO2.out.alloc _) _ rfl (SV.lit (g := w2.heap.size) [z1 ++ y ++ X, z1 ++ y ++ Y] (by simp) (heap_alloc_new w2 _)) HNum.out (by have := HB2.out.size; simp; omega) ?_; intro v4 w4 ho4 hb4 _; have HO4 : Hid (SO w4 w.heap.size v4 (growing old mm n (y :: Q) wh)) := Lib.hid (by rw [HE.out]; exact ho4); have HB4 : Hid (Below w.heap.size w w4) := Lib.hid ((HB2.out.alloc HB2.out.size _).trans hb4); clear ho4 hb4)
      go_ret
      exact ⟨_, rfl, HO4.out, HB4.out⟩
theorem rgrowing_all (N : Nat) : RGrowingOK N := by
  induction N with
  | zero =>
    intro p old m n wh vp w h _ h1 _ _ _ _ hv
    exact rgrowing_end p old m n wh vp w h1 hv (.inr (by omega))
  | succ N ih => exact rgrowing_step N ih
theorem rgrowing_any (p : List ByteArray) (old : ByteArray) (m n : Nat) (wh : Bool) (vp : Value) (w : World) (hM : p.length ≤ 1000) (h1 : 1 ≤ m) (h2 : m ≤ n) (hn : n ≤ 9223372036854775807) (ho : old.size ≤ 100000) (hS : Short p 100000) (hv : SV w vp p) :
    Calls Tryd.prog 30 #[.string old, .int .i64 m, .int .i64 n, vp, .bool wh] w (Ret w (growing old m n p.reverse wh)) :=
  rgrowing_all p.length p old m n wh vp w (Nat.le_refl _) hM h1 h2 hn ho hS hv
end Go.Proofs.YtmapodkdnbbjgaaDoor
