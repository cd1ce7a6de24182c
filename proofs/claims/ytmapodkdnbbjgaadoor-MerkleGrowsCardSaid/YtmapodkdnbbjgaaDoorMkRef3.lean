/- missiveref04.by, both: the walks. -/
import Derived.Test.YtmapodkdnbbjgaaDoorMkRef2
import Derived.Test.YtmapodkdnbbjgaaDoorMkWalk7
namespace Go.Proofs.YtmapodkdnbbjgaaDoor
open Go.RowKit Mk Sl
theorem byR_size (k : Nat) (hk : 32 ≤ k) (x : ByteArray) (hx : x.size ≤ k) : ∀ (q : List ByteArray) (n i : Nat), (byR n i x q).1.size ≤ k
  | [], n, i => by unfold byR; exact hx
  | y :: q, n, i => by
    unfold byR
    split
    · exact hx
    · split
      · show (join _ _).size ≤ k; rw [join_size]; exact hk
      · show (join _ _).size ≤ k; rw [join_size]; exact hk
theorem bothR_size (k : Nat) (hk : 32 ≤ k) (old : ByteArray) (ho : old.size ≤ k) : ∀ (q : List ByteArray) (m n : Nat) (b : Bool), (∀ s ∈ q, s.size ≤ k) → (bothR old m n q b).1.size ≤ k ∧ (bothR old m n q b).2.1.size ≤ k
  | [], m, n, b, _ => by
    unfold bothR
    split
    · exact ⟨ho, ho⟩
    · exact ⟨Nat.zero_le _, Nat.zero_le _⟩
  | y :: q, m, n, b, h => by
    have hy := h y (by simp)
    unfold bothR
    split
    · exact ⟨ho, ho⟩
    · split
      · exact ⟨hy, hy⟩
      · split
        · exact ⟨(bothR_size k hk old ho q m (split n) b (fun s hs => h s (by simp [hs]))).1, by show (join _ _).size ≤ k; rw [join_size]; exact hk⟩
        · exact ⟨by show (join _ _).size ≤ k; rw [join_size]; exact hk, by show (join _ _).size ≤ k; rw [join_size]; exact hk⟩
/-- a list that is not empty, from its end -/
theorem last_cases (p : List ByteArray) (h : 0 < p.length) : ∃ p' y, p = p' ++ [y] ∧ p.reverse = y :: p'.reverse ∧ p.take (p.length - 1) = p' ∧ p.getD (p.length - 1) ⟨#[]⟩ = y := by
  obtain ⟨p', y, rfl⟩ : ∃ p' y, p = p' ++ [y] := ⟨p.dropLast, p.getLast (by intro e; simp [e] at h), (List.dropLast_concat_getLast _).symm⟩
  exact ⟨p', y, rfl, by simp, by simp, by simp [List.getD_eq_getElem?_getD]⟩
def RByOK (N : Nat) : Prop := ∀ (p : List ByteArray) (n i : Nat) (x : ByteArray) (vp : Value) (w : World), p.length ≤ N → p.length ≤ 1000 → i < n → n ≤ 9223372036854775807 → x.size ≤ 100000 → Short p 100000 → SV w vp p →
    Calls Tryd.prog 40 #[.int .i64 n, .int .i64 i, .string x, vp] w fun e w' => e = .returned (.tuple #[.string (byR n i x p.reverse).1, .bool (byR n i x p.reverse).2]) ∧ Below w.heap.size w w'
theorem rby_nil (n i : Nat) (x : ByteArray) (vp : Value) (w : World) (hi : i < n) (hv : SV w vp []) :
    Calls Tryd.prog 40 #[.int .i64 n, .int .i64 i, .string x, vp] w fun e w' => e = .returned (.tuple #[.string (byR n i x ([] : List ByteArray).reverse).1, .bool (byR n i x ([] : List ByteArray).reverse).2]) ∧ Below w.heap.size w w' := by
  obtain ⟨q, cap, rfl, _, _⟩ := hv.shape
  rw [List.length_nil, show (byR n i x ([] : List ByteArray).reverse) = (x, n == 1) from rfl]
  clear hv
  by_cases h1 : n = 1
  · have hd : ((n : Int) == 1) = true := by simp; omega
    have hn : (n == 1) = true := by simp; omega
    have HN := Lib.hid hn
    clear h1 hn
    go_enter Tryd.func40, Tryd.ntmps40
    go_wp2
    go_ret2
    exact ⟨by rw [HN.out]; rfl, Below.refl _ _⟩
  · have hd : ((n : Int) == 1) = false := by simp; omega
    have hn : (n == 1) = false := by simp; omega
    have HN := Lib.hid hn
    clear h1 hn
    go_enter Tryd.func40, Tryd.ntmps40
    go_wp2
    go_ret2
    exact ⟨by rw [HN.out]; rfl, Below.refl _ _⟩
set_option maxHeartbeats 2000000 in
theorem rby_step (N : Nat) (ih : RByOK N) : RByOK (N + 1) := by
  intro p n i x vp w hN hM hi hn hx hS hv
  have HI := Lib.hid ih
  clear ih
  rcases Nat.eq_zero_or_pos p.length with h0 | h0
  · obtain rfl := List.length_eq_zero_iff.1 h0
    exact rby_nil n i x vp w hi hv
  · obtain ⟨q, cap, rfl, _, _⟩ := hv.shape
    obtain ⟨p', y, hpe, hrev, htk, hgd⟩ := last_cases p h0
    obtain ⟨g, o, c, hpv, hg, _, _, hcp⟩ := hv.row h0
    simp only [Value.slice.injEq] at hpv
    obtain ⟨rfl, -, rfl⟩ := hpv
    have hc1 := hcp (p.length - 1) (by omega)
    rw [hgd] at hc1
    obtain ⟨p1, c1, hs1, hv1⟩ := hv.upto (p.length - 1) (by omega)
    rw [htk] at hv1
    have hys : y.size ≤ 100000 := by rw [← hgd]; exact hS.get _
    have hS' : Short p' 100000 := by rw [← htk]; exact hS.take _
    have hpl' : p'.length = p.length - 1 := by rw [hpe]; simp
    rw [hrev]
    obtain ⟨Q, hQ⟩ : ∃ Q, p'.reverse = Q := ⟨_, rfl⟩
    rw [hQ]
    have HB2 : Hid (∀ (n i : Nat) W, i < n → n ≤ 9223372036854775807 → Below w.heap.size w W → Calls Tryd.prog 40 #[.int .i64 n, .int .i64 i, .string x, .slice p1 (p.length - 1) c1] W fun e w' => e = .returned (.tuple #[.string (byR n i x Q).1, .bool (byR n i x Q).2]) ∧ Below W.heap.size W w') := Lib.hid fun n i W h1 h2 hW => by
      rw [← hQ]
      exact HI.out p' n i x _ W (by omega) (by omega) h1 h2 hx hS' (hv1.below hW (Nat.le_refl _))
    have HSz := Lib.hid (fun n i => byR_size 100000 (by omega) x hx Q n i)
    obtain ⟨m, hm⟩ : ∃ m, p.length = m := ⟨_, rfl⟩
    obtain ⟨lm, hlm⟩ : ∃ k, p.length - 1 = k := ⟨_, rfl⟩
    rw [hlm] at hc1 hs1 HB2
    rw [hm] at hlm h0 hs1 hM
    rw [hm]
    have hmi : (m : Int) - 1 = (lm : Int) := by omega
    have hm0 : ((m : Int) == 0) = false := by simp; omega
    have hlmm : lm < m := by omega
    have HY := Lib.hid hys
    have HN := Lib.hid hn
    clear hv hv1 hS hS' hcp hpe hrev htk hgd hpl' hQ hN hlm hm hx hys HI
    by_cases h1 : n = 1
    · have hd : ((n : Int) == 1) = true := by simp; omega
      have HE : Hid (byR n i x (y :: Q) = (x, false)) := Lib.hid (by rw [byR, if_pos h1])
      clear h1 hn
      go_enter Tryd.func40, Tryd.ntmps40
      go_wp2
      go_ret2
      exact ⟨by rw [HE.out]; rfl, Below.refl _ _⟩
    · have hd : ((n : Int) == 1) = false := by simp; omega
      have h2 : 2 ≤ n := by omega
      have hlt := split_lt n h2
      have hpos := split_pos n
      have HSp := Lib.hid fun W => rsplit_any n W h2 hn
      by_cases hc : i < split n
      · have hE : byR n i x (y :: Q) = (join (byR (split n) i x Q).1 y, (byR (split n) i x Q).2) := by rw [byR, if_neg h1, if_pos hc]
        have hC := HB2.out (split n) i w hc (by omega) (Below.refl _ _)
        have hsz := HSz.out (split n) i
        obtain ⟨X, hX⟩ : ∃ X, (byR (split n) i x Q).1 = X := ⟨_, rfl⟩
        obtain ⟨O, hO⟩ : ∃ X, (byR (split n) i x Q).2 = X := ⟨_, rfl⟩
        rw [hX, hO] at hE hC
        rw [hX] at hsz
        have HE := Lib.hid hE; have HC := Lib.hid hC
        have HJ := Lib.hid fun W => rjoin_any X y W hsz HY.out
        obtain ⟨k, hk'⟩ : ∃ k, split n = k := ⟨_, rfl⟩
        rw [hk'] at HC HSp hlt hpos hc
        have hd3 : decide (i < k) = true := by simp; omega
        clear hX hO hsz hk' hE hC h1 hn
        go_enter Tryd.func40, Tryd.ntmps40
        go_wp2_with fail
        refine (HSp.out _).mono ?_
        rintro e w1 ⟨rfl, rfl⟩
        go_wp2_with fail
        refine HC.out.mono ?_
        rintro e w1 ⟨rfl, b1⟩
        have HB1 := Lib.hid b1
        clear b1
        go_wp2_with fail
        refine (HJ.out _).mono ?_
        rintro e w2 ⟨rfl, b1⟩
        have HBw := Lib.hid (HB1.out.trans (b1.mono HB1.out.size))
        clear b1
        go_wp2
        go_ret2
        exact ⟨by rw [HE.out]; rfl, HBw.out⟩
      · have hE : byR n i x (y :: Q) = (join y (byR (n - split n) (i - split n) x Q).1, (byR (n - split n) (i - split n) x Q).2) := by rw [byR, if_neg h1, if_neg hc]
        have hC := HB2.out (n - split n) (i - split n) w (by omega) (by omega) (Below.refl _ _)
        have hsz := HSz.out (n - split n) (i - split n)
        obtain ⟨X, hX⟩ : ∃ X, (byR (n - split n) (i - split n) x Q).1 = X := ⟨_, rfl⟩
        obtain ⟨O, hO⟩ : ∃ X, (byR (n - split n) (i - split n) x Q).2 = X := ⟨_, rfl⟩
        rw [hX, hO] at hE hC
        rw [hX] at hsz
        have HE := Lib.hid hE; have HC := Lib.hid hC
        have HJ := Lib.hid fun W => rjoin_any y X W HY.out hsz
        obtain ⟨k, hk'⟩ : ∃ k, split n = k := ⟨_, rfl⟩
        rw [hk'] at HC HSp hlt hpos hc
        have hd3 : decide (i < k) = false := by simp; omega
        have hb1 : (n : Int) - (k : Int) = ((n - k : Nat) : Int) := by omega
        have hb2 : (i : Int) - (k : Int) = ((i - k : Nat) : Int) := by omega
        clear hX hO hsz hk' hE hC h1 hn
        go_enter Tryd.func40, Tryd.ntmps40
        go_wp2_with fail
        refine (HSp.out _).mono ?_
        rintro e w1 ⟨rfl, rfl⟩
        have hN := HN.out
        go_wp2_with fail
        refine HC.out.mono ?_
        rintro e w1 ⟨rfl, b1⟩
        have HB1 := Lib.hid b1
        clear b1
        go_wp2_with fail
        refine (HJ.out _).mono ?_
        rintro e w2 ⟨rfl, b1⟩
        have HBw := Lib.hid (HB1.out.trans (b1.mono HB1.out.size))
        clear b1
        go_wp2
        go_ret2
        exact ⟨by rw [HE.out]; rfl, HBw.out⟩
theorem rby_all (N : Nat) : RByOK N := by
  induction N with
  | zero =>
    intro p n i x vp w h _ hi _ _ _ hv
    obtain rfl := List.length_eq_zero_iff.1 (Nat.le_zero.1 h)
    exact rby_nil n i x vp w hi hv
  | succ N ih => exact rby_step N ih
theorem rby_any (p : List ByteArray) (n i : Nat) (x : ByteArray) (vp : Value) (w : World) (hM : p.length ≤ 1000) (hi : i < n) (hn : n ≤ 9223372036854775807) (hx : x.size ≤ 100000) (hS : Short p 100000) (hv : SV w vp p) :
    Calls Tryd.prog 40 #[.int .i64 n, .int .i64 i, .string x, vp] w fun e w' => e = .returned (.tuple #[.string (byR n i x p.reverse).1, .bool (byR n i x p.reverse).2]) ∧ Below w.heap.size w w' :=
  rby_all p.length p n i x vp w (Nat.le_refl _) hM hi hn hx hS hv
def RBothOK (N : Nat) : Prop := ∀ (p : List ByteArray) (old : ByteArray) (m n : Nat) (wh : Bool) (vp : Value) (w : World), p.length ≤ N → p.length ≤ 1000 → 1 ≤ m → m ≤ n → n ≤ 9223372036854775807 → old.size ≤ 100000 → Short p 100000 → SV w vp p →
    Calls Tryd.prog 41 #[.string old, .int .i64 m, .int .i64 n, vp, .bool wh] w fun e w' => e = .returned (.tuple #[.string (bothR old m n p.reverse wh).1, .string (bothR old m n p.reverse wh).2.1, .bool (bothR old m n p.reverse wh).2.2]) ∧ Below w.heap.size w w'
set_option maxHeartbeats 1000000 in
theorem rboth_end (p : List ByteArray) (old : ByteArray) (n : Nat) (vp : Value) (w : World) (hv : SV w vp p) :
    Calls Tryd.prog 41 #[.string old, .int .i64 n, .int .i64 n, vp, .bool true] w fun e w' => e = .returned (.tuple #[.string (bothR old n n p.reverse true).1, .string (bothR old n n p.reverse true).2.1, .bool (bothR old n n p.reverse true).2.2]) ∧ Below w.heap.size w w' := by
  have hE : bothR old n n p.reverse true = (old, old, decide (p.length = 0)) := by
    cases hq : p.reverse with
    | nil => rw [List.reverse_eq_nil_iff.1 hq]; simp [bothR]
    | cons y q =>
      have : p.length ≠ 0 := by intro h; rw [List.length_eq_zero_iff.1 h] at hq; cases hq
      simp [bothR, this]
  obtain ⟨q, cap, rfl, _, _⟩ := hv.shape
  obtain ⟨m, hm⟩ : ∃ m, p.length = m := ⟨_, rfl⟩
  rw [hE, hm]
  clear hv hE hm
  rcases Nat.eq_zero_or_pos m with h0 | h0
  · have hd : ((m : Int) == 0) = true := by simp; omega
    have hdd : decide (m = 0) = true := decide_eq_true h0
    have HD := Lib.hid hdd
    clear h0 hdd
    go_enter Tryd.func41, Tryd.ntmps41
    go_wp2
    go_ret3
    exact ⟨by rw [HD.out]; rfl, Below.refl _ _⟩
  · have hd : ((m : Int) == 0) = false := by simp; omega
    have hdd : decide (m = 0) = false := decide_eq_false (by omega)
    have HD := Lib.hid hdd
    clear h0 hdd
    go_enter Tryd.func41, Tryd.ntmps41
    go_wp2
    go_ret3
    exact ⟨by rw [HD.out]; rfl, Below.refl _ _⟩
set_option maxHeartbeats 1000000 in
theorem rboth_nil (old : ByteArray) (m n : Nat) (wh : Bool) (vp : Value) (w : World) (hv : SV w vp []) :
    Calls Tryd.prog 41 #[.string old, .int .i64 m, .int .i64 n, vp, .bool wh] w fun e w' => e = .returned (.tuple #[.string (bothR old m n ([] : List ByteArray).reverse wh).1, .string (bothR old m n ([] : List ByteArray).reverse wh).2.1, .bool (bothR old m n ([] : List ByteArray).reverse wh).2.2]) ∧ Below w.heap.size w w' := by
  by_cases h : m = n ∧ wh = true
  · obtain ⟨rfl, rfl⟩ := h
    exact rboth_end [] old m vp w hv
  · have hE : bothR old m n ([] : List ByteArray).reverse wh = (⟨#[]⟩, ⟨#[]⟩, false) := by
      show bothR old m n [] wh = _
      rw [bothR, if_neg h]
    obtain ⟨q, cap, rfl, _, _⟩ := hv.shape
    rw [List.length_nil, hE]
    clear hv hE
    by_cases hm : m = n
    · have hw : wh = false := by cases wh with
        | false => rfl
        | true => exact absurd ⟨hm, rfl⟩ h
      subst hw
      have hd : ((m : Int) == (n : Int)) = true := by simp; omega
      have hd' : (m == n) = true := by simp; omega
      clear h hm
      go_enter Tryd.func41, Tryd.ntmps41
      go_wp2
      go_ret3
      exact ⟨rfl, Below.refl _ _⟩
    · have hd : ((m : Int) == (n : Int)) = false := by simp; omega
      have hd' : (m == n) = false := by simp; omega
      clear h hm
      go_enter Tryd.func41, Tryd.ntmps41
      go_wp2
      go_ret3
      exact ⟨rfl, Below.refl _ _⟩
set_option maxRecDepth 100000 in
set_option maxHeartbeats 2000000 in
theorem rboth_step (N : Nat) (ih : RBothOK N) : RBothOK (N + 1) := by
  intro p old mm n wh vp w hN hM hm1 hmn hn ho hS hv
  have HI := Lib.hid ih
  clear ih
  rcases Nat.eq_zero_or_pos p.length with h0 | h0
  · obtain rfl := List.length_eq_zero_iff.1 h0
    exact rboth_nil old mm n wh vp w hv
  · by_cases hew : mm = n ∧ wh = true
    · obtain ⟨rfl, rfl⟩ := hew
      exact rboth_end p old mm vp w hv
    obtain ⟨q, cap, rfl, _, _⟩ := hv.shape
    obtain ⟨p', y, hpe, hrev, htk, hgd⟩ := last_cases p h0
    obtain ⟨g, o, c, hpv, hg, _, _, hcp⟩ := hv.row h0
    simp only [Value.slice.injEq] at hpv
    obtain ⟨rfl, -, rfl⟩ := hpv
    have hc1 := hcp (p.length - 1) (by omega)
    rw [hgd] at hc1
    obtain ⟨p1, c1, hs1, hv1⟩ := hv.upto (p.length - 1) (by omega)
    rw [htk] at hv1
    have hys : y.size ≤ 100000 := by rw [← hgd]; exact hS.get _
    have hS' : Short p' 100000 := by rw [← htk]; exact hS.take _
    have hpl' : p'.length = p.length - 1 := by rw [hpe]; simp
    rw [hrev]
    have HSz := Lib.hid (fun m n b => bothR_size 100000 (by omega) old ho p'.reverse m n b (fun s hs => hS' s (by simpa using hs)))
    have hemp : p'.reverse.isEmpty = decide (p.length - 1 = 0) := by rw [← hpl']; cases p' <;> simp
    obtain ⟨Q, hQ⟩ : ∃ Q, p'.reverse = Q := ⟨_, rfl⟩
    rw [hQ] at HSz hemp ⊢
    have HB2 : Hid (∀ (m n : Nat) (b : Bool) W, 1 ≤ m → m ≤ n → n ≤ 9223372036854775807 → Below w.heap.size w W → Calls Tryd.prog 41 #[.string old, .int .i64 m, .int .i64 n, .slice p1 (p.length - 1) c1, .bool b] W fun e w' => e = .returned (.tuple #[.string (bothR old m n Q b).1, .string (bothR old m n Q b).2.1, .bool (bothR old m n Q b).2.2]) ∧ Below W.heap.size W w') := Lib.hid fun m n b W h1 h2 h3 hW => by
      rw [← hQ]
      exact HI.out p' old m n b _ W (by omega) (by omega) h1 h2 h3 ho hS' (hv1.below hW (Nat.le_refl _))
    obtain ⟨m, hm⟩ : ∃ m, p.length = m := ⟨_, rfl⟩
    obtain ⟨lm, hlm⟩ : ∃ k, p.length - 1 = k := ⟨_, rfl⟩
    rw [hlm] at hc1 hs1 HB2 hemp
    rw [hm] at hlm h0 hs1 hM
    rw [hm]
    have hmi : (m : Int) - 1 = (lm : Int) := by omega
    have hm0 : ((m : Int) == 0) = false := by simp; omega
    have hlmm : lm < m := by omega
    have HY := Lib.hid hys
    have HN := Lib.hid hn
    have HEm := Lib.hid hemp
    clear hv hv1 hS hS' hcp hpe hrev htk hgd hpl' hQ hN hlm hm ho hys HI hemp
    by_cases hmn2 : mm = n
    · have hw : wh = false := by cases wh with
        | false => rfl
        | true => exact absurd ⟨hmn2, rfl⟩ hew
      subst hw
      have hE : bothR old mm n (y :: Q) false = (y, y, decide (lm = 0)) := by rw [bothR, if_neg (by simp), if_pos hmn2, HEm.out]
      have HE := Lib.hid hE
      have hd : ((mm : Int) == (n : Int)) = true := by simp; omega
      have hd' : (mm == n) = true := by simp; omega
      clear hew hmn2 hE hn hmn
      rcases Nat.eq_zero_or_pos lm with hl0 | hl0
      · have hd2 : ((lm : Int) == 0) = true := by simp; omega
        have hdd : decide (lm = 0) = true := decide_eq_true hl0
        have HD := Lib.hid hdd
        clear hl0 hdd
        go_enter Tryd.func41, Tryd.ntmps41
        go_wp2
        go_ret3
        exact ⟨by rw [HE.out, HD.out]; rfl, Below.refl _ _⟩
      · have hd2 : ((lm : Int) == 0) = false := by simp; omega
        have hdd : decide (lm = 0) = false := decide_eq_false (by omega)
        have HD := Lib.hid hdd
        clear hl0 hdd
        go_enter Tryd.func41, Tryd.ntmps41
        go_wp2
        go_ret3
        exact ⟨by rw [HE.out, HD.out]; rfl, Below.refl _ _⟩
    · have hd : ((mm : Int) == (n : Int)) = false := by simp; omega
      have hd' : (mm == n) = false := by simp; omega
      have h2 : 2 ≤ n := by omega
      have hlt := split_lt n h2
      have hpos := split_pos n
      have HSp := Lib.hid fun W => rsplit_any n W h2 hn
      by_cases hc : mm ≤ split n
      · have hE : bothR old mm n (y :: Q) wh = ((bothR old mm (split n) Q wh).1, join (bothR old mm (split n) Q wh).2.1 y, (bothR old mm (split n) Q wh).2.2) := by rw [bothR, if_neg hew, if_neg hmn2, if_pos hc]
        have hC := HB2.out mm (split n) wh w hm1 hc (by omega) (Below.refl _ _)
        have hsz := HSz.out mm (split n) wh
        obtain ⟨X, hX⟩ : ∃ X, (bothR old mm (split n) Q wh).1 = X := ⟨_, rfl⟩
        obtain ⟨Y, hY⟩ : ∃ X, (bothR old mm (split n) Q wh).2.1 = X := ⟨_, rfl⟩
        obtain ⟨O, hO⟩ : ∃ X, (bothR old mm (split n) Q wh).2.2 = X := ⟨_, rfl⟩
        rw [hX, hY, hO] at hE hC
        rw [hX, hY] at hsz
        have HE := Lib.hid hE; have HC := Lib.hid hC
        have HJ := Lib.hid fun W => rjoin_any Y y W hsz.2 HY.out
        obtain ⟨k, hk'⟩ : ∃ k, split n = k := ⟨_, rfl⟩
        rw [hk'] at HC HSp hlt hpos hc
        have hd3 : decide (mm ≤ k) = true := by simp; omega
        clear hX hY hO hsz hk' hE hC hn hew hmn2
        cases wh with
        | true =>
          go_enter Tryd.func41, Tryd.ntmps41
          go_wp2_with fail
          refine (HSp.out _).mono ?_
          rintro e w1 ⟨rfl, rfl⟩
          go_wp2_with fail
          refine HC.out.mono ?_
          rintro e w1 ⟨rfl, b1⟩
          have HB1 := Lib.hid b1
          clear b1
          go_wp2_with fail
          refine (HJ.out _).mono ?_
          rintro e w2 ⟨rfl, b1⟩
          have HBw := Lib.hid (HB1.out.trans (b1.mono HB1.out.size))
          clear b1
          go_wp2
          go_ret3
          exact ⟨by rw [HE.out]; rfl, HBw.out⟩
        | false =>
          go_enter Tryd.func41, Tryd.ntmps41
          go_wp2_with fail
          refine (HSp.out _).mono ?_
          rintro e w1 ⟨rfl, rfl⟩
          go_wp2_with fail
          refine HC.out.mono ?_
          rintro e w1 ⟨rfl, b1⟩
          have HB1 := Lib.hid b1
          clear b1
          go_wp2_with fail
          refine (HJ.out _).mono ?_
          rintro e w2 ⟨rfl, b1⟩
          have HBw := Lib.hid (HB1.out.trans (b1.mono HB1.out.size))
          clear b1
          go_wp2
          go_ret3
          exact ⟨by rw [HE.out]; rfl, HBw.out⟩
      · have hE : bothR old mm n (y :: Q) wh = (join y (bothR old (mm - split n) (n - split n) Q false).1, join y (bothR old (mm - split n) (n - split n) Q false).2.1, (bothR old (mm - split n) (n - split n) Q false).2.2) := by rw [bothR, if_neg hew, if_neg hmn2, if_neg hc]
        have hC := HB2.out (mm - split n) (n - split n) false w (by omega) (by omega) (by omega) (Below.refl _ _)
        have hsz := HSz.out (mm - split n) (n - split n) false
        obtain ⟨X, hX⟩ : ∃ X, (bothR old (mm - split n) (n - split n) Q false).1 = X := ⟨_, rfl⟩
        obtain ⟨Y, hY⟩ : ∃ X, (bothR old (mm - split n) (n - split n) Q false).2.1 = X := ⟨_, rfl⟩
        obtain ⟨O, hO⟩ : ∃ X, (bothR old (mm - split n) (n - split n) Q false).2.2 = X := ⟨_, rfl⟩
        rw [hX, hY, hO] at hE hC
        rw [hX, hY] at hsz
        have HE := Lib.hid hE; have HC := Lib.hid hC
        have HJ := Lib.hid fun W => rjoin_any y X W HY.out hsz.1
        have HJ2 := Lib.hid fun W => rjoin_any y Y W HY.out hsz.2
        obtain ⟨k, hk'⟩ : ∃ k, split n = k := ⟨_, rfl⟩
        rw [hk'] at HC HSp hlt hpos hc
        have hd3 : decide (mm ≤ k) = false := by simp; omega
        have hb1 : (n : Int) - (k : Int) = ((n - k : Nat) : Int) := by omega
        have hb2 : (mm : Int) - (k : Int) = ((mm - k : Nat) : Int) := by omega
        clear hX hY hO hsz hk' hE hC hew hmn2
        cases wh with
        | true =>
          go_enter Tryd.func41, Tryd.ntmps41
          go_wp2_with fail
          refine (HSp.out _).mono ?_
          rintro e w1 ⟨rfl, rfl⟩
          go_wp2_with fail
          refine HC.out.mono ?_
          rintro e w1 ⟨rfl, b1⟩
          have HB1 := Lib.hid b1
          clear b1
          go_wp2_with fail
          refine (HJ.out _).mono ?_
          rintro e w2 ⟨rfl, b1⟩
          have HBw := Lib.hid (HB1.out.trans (b1.mono HB1.out.size))
          clear b1
          go_wp2_with fail
          refine (HJ2.out _).mono ?_
          rintro e w3 ⟨rfl, b1⟩
          have HBx := Lib.hid (HBw.out.trans (b1.mono HBw.out.size))
          clear b1
          go_wp2
          go_ret3
          exact ⟨by rw [HE.out]; rfl, HBx.out⟩
        | false =>
          go_enter Tryd.func41, Tryd.ntmps41
          go_wp2_with fail
          refine (HSp.out _).mono ?_
          rintro e w1 ⟨rfl, rfl⟩
          go_wp2_with fail
          refine HC.out.mono ?_
          rintro e w1 ⟨rfl, b1⟩
          have HB1 := Lib.hid b1
          clear b1
          go_wp2_with fail
          refine (HJ.out _).mono ?_
          rintro e w2 ⟨rfl, b1⟩
          have HBw := Lib.hid (HB1.out.trans (b1.mono HB1.out.size))
          clear b1
          go_wp2_with fail
          refine (HJ2.out _).mono ?_
          rintro e w3 ⟨rfl, b1⟩
          have HBx := Lib.hid (HBw.out.trans (b1.mono HBw.out.size))
          clear b1
          go_wp2
          go_ret3
          exact ⟨by rw [HE.out]; rfl, HBx.out⟩
theorem rboth_all (N : Nat) : RBothOK N := by
  induction N with
  | zero =>
    intro p old m n wh vp w h _ _ _ _ _ _ hv
    obtain rfl := List.length_eq_zero_iff.1 (Nat.le_zero.1 h)
    exact rboth_nil old m n wh vp w hv
  | succ N ih => exact rboth_step N ih
theorem rboth_any (p : List ByteArray) (old : ByteArray) (m n : Nat) (wh : Bool) (vp : Value) (w : World) (hM : p.length ≤ 1000) (h1 : 1 ≤ m) (h2 : m ≤ n) (hn : n ≤ 9223372036854775807) (ho : old.size ≤ 100000) (hS : Short p 100000) (hv : SV w vp p) :
    Calls Tryd.prog 41 #[.string old, .int .i64 m, .int .i64 n, vp, .bool wh] w fun e w' => e = .returned (.tuple #[.string (bothR old m n p.reverse wh).1, .string (bothR old m n p.reverse wh).2.1, .bool (bothR old m n p.reverse wh).2.2]) ∧ Below w.heap.size w w' :=
  rboth_all p.length p old m n wh vp w (Nat.le_refl _) hM h1 h2 hn ho hS hv
end Go.Proofs.YtmapodkdnbbjgaaDoor
