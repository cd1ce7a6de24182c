/- missiveref04's Leaf, Join, Split, Root, Clash: the walks. -/
import Derived.Test.YtmapodkdnbbjgaaDoorMkWalk3
import Derived.Test.YtmapodkdnbbjgaaDoorRefSum
namespace Go.Proofs.YtmapodkdnbbjgaaDoor
open Go.RowKit Mk Sl
theorem rH_any (s : ByteArray) (w : World) (hs : s.size ≤ 1000000) :
    Calls Tryd.prog 32 #[.string s] w fun e w' => e = .returned (.string (H s)) ∧ Below w.heap.size w w' := rsum_any s w hs
theorem rleaf_any (s : ByteArray) (w : World) (hs : s.size ≤ 100000) :
    Calls Tryd.prog 12 #[.string s] w fun e w' => e = .returned (.string (leaf s)) ∧ Below w.heap.size w w' := by
  have HC := Lib.hid (rH_any (z0 ++ s) w (by rw [ByteArray.size_append]; show 1 + s.size ≤ _; omega))
  have e : (⟨#[0]⟩ : ByteArray) ++ s = z0 ++ s := rfl
  have hz : ¬ (9223372036854775807 < 1 + s.size) := by omega
  go_enter Tryd.func12, Tryd.ntmps12
  go_wp2_with fail
  refine HC.out.mono ?_
  rintro e w1 ⟨rfl, b⟩
  have HB := Lib.hid b
  clear b
  go_wp2
  go_ret
  exact ⟨rfl, HB.out⟩
theorem rjoin_any (a b : ByteArray) (w : World) (ha : a.size ≤ 100000) (hb : b.size ≤ 100000) :
    Calls Tryd.prog 14 #[.string a, .string b] w fun e w' => e = .returned (.string (join a b)) ∧ Below w.heap.size w w' := by
  have HC := Lib.hid (rH_any (z1 ++ a ++ b) w (by rw [ByteArray.size_append, ByteArray.size_append]; show 1 + a.size + b.size ≤ _; omega))
  have e : (⟨#[1]⟩ : ByteArray) ++ a = z1 ++ a := rfl
  have ez : (z1 ++ a).size = 1 + a.size := by rw [ByteArray.size_append]; rfl
  go_enter Tryd.func14, Tryd.ntmps14
  go_wp2_with fail
  refine HC.out.mono ?_
  rintro e w1 ⟨rfl, b⟩
  have HB := Lib.hid b
  clear b
  go_wp2
  go_ret
  exact ⟨rfl, HB.out⟩
theorem rsplit_any (n : Nat) (w : World) (h : 2 ≤ n) (hn : n ≤ 9223372036854775807) :
    Calls Tryd.prog 35 #[.int .i64 n] w fun e w' => e = .returned (.int .i64 (split n : Nat)) ∧ w = w' := by
  go_enter Tryd.func35, Tryd.ntmps35
  go_wp2
  go_loop [3] (fun u => ∃ k : Nat, u = .int .i64 k ∧ Hid (∃ e, k = 2 ^ e) ∧ 1 ≤ k ∧ k < n) (fun u => n - (intOf u).toNat)
  case atStart => exact ⟨1, rfl, Lib.hid ⟨0, rfl⟩, by omega, by omega⟩
  case round =>
    obtain ⟨k, rfl, he, h1, hk⟩ := hrel
    by_cases h2 : k < n - k
    · obtain ⟨k2, hk2⟩ : ∃ q, 2 * k = q := ⟨_, rfl⟩
      have h3 : (2 : Int) * (k : Int) = (k2 : Int) := by omega
      have HK2 := Lib.hid hk2
      have hk3 : k < k2 := by omega
      have hk4 : k2 < n := by omega
      clear hk2
      have h4 : (k : Int) < (n : Int) - (k : Int) := by omega
      go_wp2
      go_round
      case rel => exact ⟨k2, rfl, Lib.hid (by obtain ⟨e, rfl⟩ := he.out; exact ⟨e + 1, by rw [← HK2.out, Nat.pow_succ]; omega⟩), by omega, hk4⟩
      case measure => simp [intOf]; omega
    · have hs : split n = k := by
        obtain ⟨e, rfl⟩ := he.out
        exact split_unique n e hk (by omega)
      have HS := Lib.hid hs
      have h4 : ¬ (k : Int) < (n : Int) - (k : Int) := by omega
      clear hs
      go_wp2
      go_ret
      exact ⟨by rw [HS.out]; rfl, rfl⟩
def RRootOK (N : Nat) : Prop := ∀ (l : List ByteArray) (v : Value) (w : World), l.length ≤ N → l.length ≤ 1000000 → Short l 100000 → SV w v l →
    Calls Tryd.prog 16 #[v] w fun e w' => e = .returned (.string (root l)) ∧ Below w.heap.size w w'
set_option maxHeartbeats 1000000 in
theorem rroot_step_any (N : Nat) (ih : RRootOK N) : RRootOK (N + 1) := by
  intro l v w hN hM hS hv
  have HI := Lib.hid ih
  clear ih
  rcases Nat.lt_or_ge l.length 2 with h2 | h2
  · match l, h2 with
    | [], _ =>
      obtain ⟨p, cap, rfl, _, _⟩ := hv.shape
      have HC := Lib.hid (rH_any ⟨#[]⟩ w (by show 0 ≤ _; omega))
      have HE := Lib.hid root_nil
      clear hv hS
      rw [List.length_nil]
      go_enter Tryd.func16, Tryd.ntmps16
      go_wp2_with fail
      refine HC.out.mono ?_
      rintro e w1 ⟨rfl, b⟩
      have HB := Lib.hid b
      clear b
      go_wp2
      go_ret
      exact ⟨by rw [HE.out]; rfl, HB.out⟩
    | [x], _ =>
      obtain ⟨g, o, cap, rfl, _, _, _, hc⟩ := hv.row (by simp)
      have c0 := hc 0 (by simp)
      rw [show ([x] : List ByteArray).getD 0 ⟨#[]⟩ = x from rfl, Nat.add_zero] at c0
      have HE := Lib.hid (root_one x)
      clear hv hS hc
      rw [show ([x] : List ByteArray).length = 1 from rfl]
      go_enter Tryd.func16, Tryd.ntmps16
      go_wp2
      go_ret
      exact ⟨by rw [HE.out]; rfl, Below.refl _ _⟩
  · obtain ⟨p, cap, rfl, _, _⟩ := hv.shape
    have hlt := split_lt l.length h2
    have hpos := split_pos l.length
    obtain ⟨p1, c1, hs1, hv1⟩ := hv.upto (split l.length) (by omega)
    obtain ⟨p2, c2, hs2, hv2⟩ := hv.from (split l.length) (by omega)
    have HSp := Lib.hid fun W => rsplit_any l.length W h2 (by omega)
    have HE := Lib.hid (root_step l h2)
    obtain ⟨A, hA⟩ : ∃ A, root (l.take (split l.length)) = A := ⟨_, rfl⟩
    obtain ⟨B, hB⟩ : ∃ B, root (l.drop (split l.length)) = B := ⟨_, rfl⟩
    have hAs : A.size ≤ 100000 := by rw [← hA]; exact root_short _ _ (hS.take _) (by omega)
    have hBs : B.size ≤ 100000 := by rw [← hB]; exact root_short _ _ (hS.drop _) (by omega)
    rw [hA, hB] at HE
    have H1 : Hid (∀ W, Below w.heap.size w W → Calls Tryd.prog 16 #[.slice p1 (split l.length) c1] W fun e w' => e = .returned (.string A) ∧ Below W.heap.size W w') := Lib.hid (by
      intro W hW
      rw [← hA]
      exact HI.out _ _ W (by rw [List.length_take]; omega) (by rw [List.length_take]; omega) (hS.take _) (hv1.below hW (Nat.le_refl _)))
    have H2 : Hid (∀ W, Below w.heap.size w W → Calls Tryd.prog 16 #[.slice p2 (l.length - split l.length) c2] W fun e w' => e = .returned (.string B) ∧ Below W.heap.size W w') := Lib.hid (by
      intro W hW
      rw [← hB]
      exact HI.out _ _ W (by rw [List.length_drop]; omega) (by rw [List.length_drop]; omega) (hS.drop _) (hv2.below hW (Nat.le_refl _)))
    have H3 : Hid (∀ W, Below w.heap.size w W → Calls Tryd.prog 14 #[.string A, .string B] W fun e w' => e = .returned (.string (join A B)) ∧ Below W.heap.size W w') := Lib.hid fun W hW => rjoin_any A B W hAs hBs
    have hd0 : ((l.length : Int) == 0) = false := beq_eq_false_iff_ne.2 (by omega)
    have hd1 : ((l.length : Int) == 1) = false := beq_eq_false_iff_ne.2 (by omega)
    obtain ⟨n, hn⟩ : ∃ n, l.length = n := ⟨_, rfl⟩
    obtain ⟨k, hk'⟩ : ∃ k, split l.length = k := ⟨_, rfl⟩
    rw [hk'] at H1 H2 HSp hs1 hs2 hlt hpos
    rw [hn] at H2 HSp hs1 hs2 hlt hd0 hd1 h2
    rw [hn]
    clear hv hv1 hv2 hS hA hB hN hM hAs hBs HI hk' hn
    go_enter Tryd.func16, Tryd.ntmps16
    go_wp2_with fail
    refine (HSp.out _).mono ?_
    rintro e w1 ⟨rfl, rfl⟩
    go_wp2_with fail
    go_region_held3 (fun _ => True) (first | go_keep | trivial)
      ((first
        | (go_at_call_has 16 (Value.slice p1 k c1); refine (H1.out _ (Below.refl _ _).drew).mono ?_; rintro e w2 ⟨rfl, hb2⟩; have HB2 := Lib.hid ((Below.refl w.heap.size w).drew.trans hb2); clear hb2)
        | (go_at_call_has 16 (Value.slice p2 (n - k) c2); refine (H2.out _ HB2.out).mono ?_; rintro e w3 ⟨rfl, hb3⟩; have HB3 := Lib.hid (HB2.out.trans (hb3.mono HB2.out.size)); clear hb3)
        | (go_at_call 14; refine (H3.out _ HB3.out).mono ?_; rintro e w4 ⟨rfl, hb4⟩; have HB4 := Lib.hid (HB3.out.trans (hb4.mono HB3.out.size)); clear hb4)))
    all_goals
      go_wp2
      go_ret
      exact ⟨by rw [HE.out]; rfl, HB4.out⟩
theorem rroot_all (N : Nat) : RRootOK N := by
  induction N with
  | zero =>
    intro l v w h
    exact rroot_step_any 0 (fun l' v' w' h' hM hS hv => by
      obtain rfl := List.length_eq_zero_iff.1 (Nat.le_zero.1 h')
      obtain ⟨p, cap, rfl, _, _⟩ := hv.shape
      have HC := Lib.hid (rH_any ⟨#[]⟩ w' (by show 0 ≤ _; omega))
      have HE := Lib.hid root_nil
      clear hv hS
      rw [List.length_nil]
      go_enter Tryd.func16, Tryd.ntmps16
      go_wp2_with fail
      refine HC.out.mono ?_
      rintro e w1 ⟨rfl, b⟩
      have HB := Lib.hid b
      clear b
      go_wp2
      go_ret
      exact ⟨by rw [HE.out]; rfl, HB.out⟩) l v w (by omega)
  | succ N ih => exact rroot_step_any N ih
theorem rroot_any (l : List ByteArray) (v : Value) (w : World) (hM : l.length ≤ 1000000) (hS : Short l 100000) (hv : SV w v l) :
    Calls Tryd.prog 16 #[v] w fun e w' => e = .returned (.string (root l)) ∧ Below w.heap.size w w' := rroot_all l.length l v w (Nat.le_refl _) hM hS hv
/-- two different strings of a list have one digest -/
def Clash (l : List ByteArray) : Prop := ∃ a ∈ l, ∃ b ∈ l, a ≠ b ∧ H a = H b
/-- what Clash returns -/
def ClashPost (l : List ByteArray) (w : World) (e : Ending) (w' : World) : Prop := ∃ b : Bool, e = .returned (.bool b) ∧ (b = true ↔ Clash l) ∧ Below w.heap.size w w'
theorem map_get (l : List ByteArray) (f : ByteArray → ByteArray) (j k : Nat) (h : k < j) (hj : j ≤ l.length) : ((l.take j).map f).getD k ⟨#[]⟩ = f (l.getD k ⟨#[]⟩) := by
  simp [List.getD_eq_getElem?_getD, h, List.getElem?_eq_getElem (show k < l.length by omega)]
set_option maxRecDepth 100000 in
set_option maxHeartbeats 2000000 in
theorem clash_any (l : List ByteArray) (v : Value) (w : World) (hv : SV w v l) (hl : l.length ≤ 100000) (hS : Short l 100000) :
    Calls Tryd.prog 29 #[v] w (ClashPost l w) := by
  obtain ⟨p, cap, rfl, _, _⟩ := hv.shape
  have HV := Lib.hid hv
  have HS := Lib.hid hS
  obtain ⟨n, hn⟩ : ∃ n, l.length = n := ⟨_, rfl⟩
  have HN := Lib.hid hn
  rw [hn] at hl ⊢
  clear hv hS hn
  go_enter Tryd.func29, Tryd.ntmps29
  go_wp2
  go_loopw [3, 4, 5] (fun u3 u4 _ wr => ∃ i : Nat, i ≤ n ∧ u4 = .int .i64 i ∧ SO wr w.heap.size u3 ((l.take i).map H) ∧ Hid (∀ a b, a < i → b < i → H (l.getD a ⟨#[]⟩) = H (l.getD b ⟨#[]⟩) → l.getD a ⟨#[]⟩ = l.getD b ⟨#[]⟩) ∧ Below w.heap.size w wr) (fun _ u4 _ _ => n - (intOf u4).toNat)
  case atStart => exact ⟨0, Nat.zero_le _, rfl, SO.nil _ _, Lib.hid (fun a b h => by omega), Below.refl _ _⟩
  case round =>
    obtain ⟨i, hi, rfl, ho, hno, hb⟩ := hrel
    have HO := Lib.hid ho
    have HB := Lib.hid hb
    by_cases hlt : i < n
    · obtain ⟨g, o, c, hpv, hg, _, _, hcp⟩ := HV.out.row (by rw [HN.out]; omega)
      simp only [Value.slice.injEq] at hpv
      obtain ⟨rfl, -, rfl⟩ := hpv
      have HCP := Lib.hid hcp
      have hci := (hb.cell (p := ⟨g, o + i, none⟩) hg).trans (hcp i (by rw [HN.out]; exact hlt))
      obtain ⟨x, hx⟩ : ∃ x, l.getD i ⟨#[]⟩ = x := ⟨_, rfl⟩
      have hxs : x.size ≤ 1000000 := by rw [← hx]; exact Nat.le_trans (HS.out.get i) (by omega)
      rw [hx] at hci
      have HX := Lib.hid hx
      have HC := Lib.hid (rH_any x wr hxs)
      obtain ⟨y, hy⟩ : ∃ y, H x = y := ⟨_, rfl⟩
      rw [hy] at HC
      have HY := Lib.hid hy
      have hts : (l.take (i + 1)).map H = (l.take i).map H ++ [y] := by
        have hl' : i < l.length := by rw [HN.out]; exact hlt
        rw [List.take_succ_eq_append_getElem hl', List.map_append]
        have e : l[i]'hl' = x := by rw [← hx]; simp [List.getD_eq_getElem?_getD, List.getElem?_eq_getElem hl']
        rw [e, ← hy]; rfl
      have HT := Lib.hid hts
      have hlen : ((l.take i).map H).length + 1 ≤ 1000000 := by simp; omega
      clear hcp hx hy hts hxs ho hb
      go_wp2_with fail
      refine HC.out.mono ?_
      rintro e w1 ⟨rfl, b1⟩
      have HO1 : Hid (SO w1 w.heap.size u3 ((l.take i).map H)) := Lib.hid (HO.out.below b1 (Nat.le_refl _))
      have HB1 : Hid (Below w.heap.size w w1) := Lib.hid (HB.out.trans (b1.mono HB.out.size))
      clear b1 HC
      go_wp2_with (at_builtin; refine wpList_append rfl _ _ rfl w.heap.size _ _ [y] rfl (HO1.out.alloc _) _ rfl (SV.lit (g := w1.heap.size) [y] (by simp) (heap_alloc_new w1 _)) hlen (by have := HB1.out.size; simp; omega) ?_; intro v4 w4 ho4 hb4 _; have HO4 : Hid (SO w4 w.heap.size v4 ((l.take (i + 1)).map H)) := Lib.hid (by rw [HT.out]; exact ho4); have HB4 : Hid (Below w.heap.size w w4) := Lib.hid ((HB1.out.alloc HB1.out.size _).trans hb4); clear ho4 hb4)
      have hL : ((l.take (i + 1)).map H).length = i + 1 := by rw [List.length_map, List.length_take, HN.out]; omega
      obtain ⟨g4, o4, c4, hv4, hg4, _, _, hc4⟩ := HO4.out.sv.row (by omega)
      rw [hL] at hv4 hc4
      subst hv4
      have HC4 := Lib.hid hc4
      have d1 : w4.cell? ⟨g4, o4 + i, none⟩ = some (.string y) := by
        rw [hc4 i (by omega), map_get l H (i + 1) i (by omega) (by rw [HN.out]; omega), HX.out, HY.out]
      have d2 : w4.cell? ⟨g, o + i, none⟩ = some (.string x) := by
        rw [HB4.out.cell (p := ⟨g, o + i, none⟩) hg, HCP.out i (by rw [HN.out]; exact hlt), HX.out]
      clear hc4 hL
      obtain ⟨wo, hwo⟩ : ∃ q, q = w4 := ⟨_, rfl⟩
      rw [← hwo] at HO4 HB4 hg4 HC4 d1 d2
      rw [← hwo]
      clear hwo hci HO HB HO1 HB1
      go_loopw [5] (fun u5 wr => ∃ k m : Nat, k ≤ i ∧ u5 = .int .i64 k ∧ Hid (∀ a, a < k → H (l.getD a ⟨#[]⟩) = y → l.getD a ⟨#[]⟩ = x) ∧ wr = wo.drewN m) (fun u5 _ => i - (intOf u5).toNat)
      case atStart => exact ⟨0, 0, Nat.zero_le _, rfl, Lib.hid (fun a h => by omega), rfl⟩
      case round =>
        obtain ⟨k, m, hk, rfl, hin, rfl⟩ := hrel
        by_cases hki : k < i
        · have e1 : wo.cell? ⟨g4, o4 + k, none⟩ = some (.string (H (l.getD k ⟨#[]⟩))) := by
            rw [HC4.out k (by omega), map_get l H (i + 1) k (by omega) (by rw [HN.out]; omega)]
          have e2 : wo.cell? ⟨g, o + k, none⟩ = some (.string (l.getD k ⟨#[]⟩)) := by
            rw [HB4.out.cell (p := ⟨g, o + k, none⟩) hg, HCP.out k (by rw [HN.out]; omega)]
          obtain ⟨xk, hxk⟩ : ∃ z, l.getD k ⟨#[]⟩ = z := ⟨_, rfl⟩
          have HXK := Lib.hid hxk
          rw [hxk] at e1 e2
          obtain ⟨yk, hyk⟩ : ∃ z, H xk = z := ⟨_, rfl⟩
          have HYK := Lib.hid hyk
          rw [hyk] at e1
          clear hxk hyk
          have y0 : 0 ≤ (k : Int) := by omega
          have y1 : (k : Int) < n := by omega
          have y2 : 0 ≤ (i : Int) := by omega
          have y3 : (i : Int) < n := by omega
          have y4 : (k : Int) < (i : Int) + 1 := by omega
          have y5 : (i : Int) < (i : Int) + 1 := by omega
          have hcont : (H xk = y → xk = x) → Hid (∀ a, a < k + 1 → H (l.getD a ⟨#[]⟩) = y → l.getD a ⟨#[]⟩ = x) := fun hq => Lib.hid fun a ha => by
            rcases Nat.lt_or_eq_of_le (Nat.lt_succ_iff.1 ha) with h | h
            · exact hin.out a h
            · subst h; rw [HXK.out]; exact hq
          have HCont := Lib.hid hcont
          clear hcont
          by_cases heq : yk.toList = y.toList
          · have b1 : (yk.toList == y.toList) = true := by simp [heq]
            have heq' : yk = y := str_ext heq
            have HEQ := Lib.hid heq'
            clear heq heq'
            by_cases hxx : xk.toList = x.toList
            · have b2 : (!xk.toList == x.toList) = false := by simp [hxx]
              have HXX := Lib.hid (str_ext hxx)
              clear hxx
              go_wp2
              go_quiet (fail)
              go_wp2
              go_roundw
              case rel => exact ⟨k + 1, _, by omega, by go_num, HCont.out (fun _ => HXX.out), by first | rfl | exact World.drewN_drewN _ _ _⟩
              case measure => simp [intOf]; omega
            · have b2 : (!xk.toList == x.toList) = true := by simp [hxx]
              have HCl : Hid (Clash l) := Lib.hid ⟨xk, by
                rw [← HXK.out, List.getD_eq_getElem?_getD, List.getElem?_eq_getElem (show k < l.length by rw [HN.out]; omega)]; exact List.getElem_mem _, x, by
                rw [← HX.out, List.getD_eq_getElem?_getD, List.getElem?_eq_getElem (show i < l.length by rw [HN.out]; omega)]; exact List.getElem_mem _, fun h => hxx (by rw [h]), by rw [HYK.out, HEQ.out, HY.out]⟩
              clear hxx
              go_wp2
              go_quiet (fail)
              go_wp2
              go_ret
              exact ⟨true, rfl, ⟨fun _ => HCl.out, fun _ => rfl⟩, by first | exact below_drewN (below_drewN HB4.out m) nq | exact below_drewN HB4.out _⟩
          · have b1 : (yk.toList == y.toList) = false := by simp [heq]
            have HNE : Hid (H xk = y → xk = x) := Lib.hid fun h => absurd (by rw [← HYK.out, h]) heq
            clear heq
            go_wp2
            go_quiet (fail)
            go_wp2
            go_roundw
            case rel => exact ⟨k + 1, _, by omega, by go_num, HCont.out HNE.out, by first | rfl | exact World.drewN_drewN _ _ _⟩
            case measure => simp [intOf]; omega
        · have hke : k = i := by omega
          have HNo : Hid (∀ a b, a < i + 1 → b < i + 1 → H (l.getD a ⟨#[]⟩) = H (l.getD b ⟨#[]⟩) → l.getD a ⟨#[]⟩ = l.getD b ⟨#[]⟩) := Lib.hid (by
            subst hke
            intro a b ha hb' hab
            rcases Nat.lt_or_eq_of_le (Nat.lt_succ_iff.1 ha) with h | h
            · rcases Nat.lt_or_eq_of_le (Nat.lt_succ_iff.1 hb') with h' | h'
              · exact hno.out a b h h' hab
              · subst h'; rw [HX.out] at hab ⊢; exact hin.out a h (by rw [hab, HY.out])
            · subst h
              rcases Nat.lt_or_eq_of_le (Nat.lt_succ_iff.1 hb') with h' | h'
              · rw [HX.out] at hab ⊢; exact (hin.out b h' (by rw [← hab, HY.out])).symm
              · subst h'; rfl)
          have HO5 : Hid (SO (wo.drewN m) w.heap.size (.slice (some ⟨g4, o4, none⟩) (i + 1) c4) ((l.take (i + 1)).map H)) := Lib.hid HO4.out
          have HB5 : Hid (Below w.heap.size w (wo.drewN m)) := Lib.hid (below_drewN HB4.out m)
          clear hke
          go_wp2
          go_roundw
          case rel => exact ⟨i + 1, by omega, by go_num, HO5.out, HNo.out, HB5.out⟩
          case measure => simp [intOf]; omega
    · have HNc : Hid (¬ Clash l) := Lib.hid (by
        rintro ⟨a, ha, b, hb', hne, hh⟩
        obtain ⟨j, hj, rfl⟩ := List.getElem_of_mem ha
        obtain ⟨k, hk, rfl⟩ := List.getElem_of_mem hb'
        have e : ∀ q (hq : q < l.length), l.getD q ⟨#[]⟩ = l[q] := fun q hq => by simp [List.getD_eq_getElem?_getD, List.getElem?_eq_getElem hq]
        refine hne ?_
        rw [← e j hj, ← e k hk] at hh ⊢
        exact hno.out j k (by have := HN.out; omega) (by have := HN.out; omega) hh)
      clear ho hb HO
      go_wp2
      go_ret
      exact ⟨false, rfl, ⟨(fun h => by cases h), fun h => absurd h HNc.out⟩, HB.out⟩
end Go.Proofs.YtmapodkdnbbjgaaDoor
