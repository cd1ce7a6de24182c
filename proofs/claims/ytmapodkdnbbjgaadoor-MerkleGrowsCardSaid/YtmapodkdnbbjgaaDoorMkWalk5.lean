/- merkle.Path, merkle.Grown: the walks. -/
import Derived.Test.YtmapodkdnbbjgaaDoorMkWalk4
namespace Go.Proofs.YtmapodkdnbbjgaaDoor
open Go.RowKit Mk Sl
def pathI (l : List ByteArray) (i : Int) : List ByteArray := if 0 ≤ i ∧ i < l.length then path l i.toNat else []
def growthI (l : List ByteArray) (m : Int) : List ByteArray := if 1 ≤ m ∧ m ≤ l.length then growth l m.toNat true else []
def slLen : Value → Nat | .slice _ n _ => n | _ => 0
set_option maxHeartbeats 2000000 in
theorem path_in (l : List ByteArray) (v : Value) (i : Nat) (w : World) (hv : SV w v l) (hl : l.length ≤ 1000) (hS : Short l 100000) (hk : OKW w) (hi : i < l.length) :
    Calls Tryd.prog 18 #[v, .int .i64 i] w (Ret w (path l i)) := by
  obtain ⟨p, cap, rfl, hcap, hml⟩ := hv.shape
  have HV := Lib.hid hv
  have HS := Lib.hid hS
  have HK := Lib.hid hk
  obtain ⟨P, hP⟩ : ∃ P, path l i = P := ⟨_, rfl⟩
  have HP := Lib.hid hP
  rw [hP]
  obtain ⟨n0, hn0⟩ : ∃ n, l.length = n := ⟨_, rfl⟩
  have HN0 := Lib.hid hn0
  rw [hn0] at hi hl ⊢
  have hd1 : decide ((i : Int) < 0) = false := by simp
  have hd2 : decide (n0 ≤ i) = false := by simp; omega
  clear hv hcap hml hS hk hP hn0
  go_enter Tryd.func18, Tryd.ntmps18
  go_wp2
  go_loopw [0, 1, 5, 6] (fun u0 u1 u5 _ wr => ∃ (cur acc : List ByteArray) (c : Nat), SV w u0 cur ∧ u1 = .int .i64 c ∧ c < cur.length ∧ Hid (Short cur 100000) ∧ SO wr w.heap.size u5 acc ∧ acc.length + cur.length ≤ n0 ∧ Hid (P = path cur c ++ acc.reverse) ∧ Below w.heap.size w wr) (fun u0 _ _ _ _ => slLen u0)
  case atStart => exact ⟨l, [], i, by rw [← HN0.out]; exact HV.out, rfl, by rw [HN0.out]; omega, HS, SO.nil _ _, by rw [HN0.out]; simp, Lib.hid (by rw [← HP.out]; simp), Below.refl _ _⟩
  case round =>
    clear hd1 hd2
    obtain ⟨cur, acc, c, hv, rfl, hc, hSc, ho, hlen, hPc, hb⟩ := hrel
    obtain ⟨p', cap', rfl, _, _⟩ := hv.shape
    have HO := Lib.hid ho
    have HB := Lib.hid hb
    by_cases h2 : 2 ≤ cur.length
    · have hlt := split_lt cur.length h2
      have hpos := split_pos cur.length
      have HSp := Lib.hid fun W => split_any cur.length W h2 (by omega)
      obtain ⟨pR, cR, hsR, hvR⟩ := hv.from (split cur.length) (by omega)
      obtain ⟨pL, cL, hsL, hvL⟩ := hv.upto (split cur.length) (by omega)
      by_cases hcl : c < split cur.length
      · have hpe := path_left cur c h2 hcl
        obtain ⟨R, hR⟩ : ∃ R, root (cur.drop (split cur.length)) = R := ⟨_, rfl⟩
        rw [hR] at hpe
        have HR : Hid (Calls Tryd.prog 15 #[.slice pR (cur.length - split cur.length) cR] wr fun e w' => e = .returned (.string R) ∧ Below wr.heap.size wr w') := Lib.hid (by
          rw [← hR]
          exact root_any _ _ wr (by rw [List.length_drop]; omega) (hSc.out.drop _) (hvR.below hb (Nat.le_refl _)) (HK.out.below hb))
        have HPn : Hid (P = path (cur.take (split cur.length)) c ++ (acc ++ [R]).reverse) := Lib.hid (by rw [hPc.out, hpe]; simp)
        have HVL := Lib.hid hvL
        have HSL : Hid (Short (cur.take (split cur.length)) 100000) := Lib.hid (hSc.out.take _)
        have htl : (cur.take (split cur.length)).length = split cur.length := by rw [List.length_take]; omega
        have HTL := Lib.hid htl
        obtain ⟨k, hk'⟩ : ∃ k, split cur.length = k := ⟨_, rfl⟩
        rw [hk'] at HPn HVL HSL HTL hlt hpos HSp hsR hsL HR hcl
        obtain ⟨n, hn⟩ : ∃ n, cur.length = n := ⟨_, rfl⟩
        rw [hn] at hlt h2 hlen hsR hsL HSp HR hc
        rw [hn]
        clear hv hvR hvL ho hb hpe hR htl hk' hn
        have hd3 : decide (c < k) = true := by simp; omega
        have hacc : acc.length + 1 ≤ 1000000 := by omega
        go_wp2_with fail
        refine (HSp.out _).mono ?_
        rintro e w1 ⟨rfl, rfl⟩
        go_wp2_with fail
        refine HR.out.mono ?_
        rintro e w1 ⟨rfl, b1⟩
        have HO1 : Hid (SO w1 w.heap.size u5 acc) := Lib.hid (HO.out.below b1 (Nat.le_refl _))
        have HB1 : Hid (Below w.heap.size w w1) := Lib.hid (HB.out.trans (b1.mono HB.out.size))
        clear b1
        go_wp2_with (at_builtin; refine wpList_append rfl _ _ rfl w.heap.size _ _ [R] rfl (HO1.out.alloc _) _ rfl (SV.lit (g := w1.heap.size) [R] (by simp) (heap_alloc_new w1 _)) hacc (by have := HB1.out.size; simp; omega) ?_; intro v4 w4 ho4 hb4 _; have HO4 := Lib.hid ho4; have HB4 : Hid (Below w.heap.size w w4) := Lib.hid ((HB1.out.alloc HB1.out.size _).trans hb4); clear ho4 hb4)
        go_roundw
        case rel => exact ⟨_, _, c, HVL.out, rfl, by rw [HTL.out]; omega, HSL, HO4.out, by rw [HTL.out]; simp; omega, HPn, HB4.out⟩
        case measure => simp only [slLen]; omega
      · have hpe := path_right cur c h2 hcl
        obtain ⟨R, hR⟩ : ∃ R, root (cur.take (split cur.length)) = R := ⟨_, rfl⟩
        rw [hR] at hpe
        have HR : Hid (Calls Tryd.prog 15 #[.slice pL (split cur.length) cL] wr fun e w' => e = .returned (.string R) ∧ Below wr.heap.size wr w') := Lib.hid (by
          rw [← hR]
          exact root_any _ _ wr (by rw [List.length_take]; omega) (hSc.out.take _) (hvL.below hb (Nat.le_refl _)) (HK.out.below hb))
        have HPn : Hid (P = path (cur.drop (split cur.length)) (c - split cur.length) ++ (acc ++ [R]).reverse) := Lib.hid (by rw [hPc.out, hpe]; simp)
        have HVL := Lib.hid hvR
        have HSL : Hid (Short (cur.drop (split cur.length)) 100000) := Lib.hid (hSc.out.drop _)
        have htl : (cur.drop (split cur.length)).length = cur.length - split cur.length := by rw [List.length_drop]
        have HTL := Lib.hid htl
        obtain ⟨k, hk'⟩ : ∃ k, split cur.length = k := ⟨_, rfl⟩
        rw [hk'] at HPn HVL HSL HTL hlt hpos HSp hsR hsL HR hcl
        obtain ⟨n, hn⟩ : ∃ n, cur.length = n := ⟨_, rfl⟩
        rw [hn] at hlt h2 hlen hsR hsL HSp hc HVL HTL
        rw [hn]
        clear hv hvR hvL ho hb hpe hR htl hk' hn
        have hd3 : decide (c < k) = false := by simp; omega
        have hacc : acc.length + 1 ≤ 1000000 := by omega
        have hck : k ≤ c := by omega
        have hsub : (c : Int) - (k : Int) = ((c - k : Nat) : Int) := by omega
        go_wp2_with fail
        refine (HSp.out _).mono ?_
        rintro e w1 ⟨rfl, rfl⟩
        go_wp2_with fail
        refine HR.out.mono ?_
        rintro e w1 ⟨rfl, b1⟩
        have HO1 : Hid (SO w1 w.heap.size u5 acc) := Lib.hid (HO.out.below b1 (Nat.le_refl _))
        have HB1 : Hid (Below w.heap.size w w1) := Lib.hid (HB.out.trans (b1.mono HB.out.size))
        clear b1
        go_wp2_with (at_builtin; refine wpList_append rfl _ _ rfl w.heap.size _ _ [R] rfl (HO1.out.alloc _) _ rfl (SV.lit (g := w1.heap.size) [R] (by simp) (heap_alloc_new w1 _)) hacc (by have := HB1.out.size; simp; omega) ?_; intro v4 w4 ho4 hb4 _; have HO4 := Lib.hid ho4; have HB4 : Hid (Below w.heap.size w w4) := Lib.hid ((HB1.out.alloc HB1.out.size _).trans hb4); clear ho4 hb4)
        go_roundw
        case rel => exact ⟨_, _, c - k, HVL.out, rfl, by rw [HTL.out]; omega, HSL, HO4.out, by rw [HTL.out]; simp; omega, HPn, HB4.out⟩
        case measure => simp only [slLen]; omega
    · have hPe : P = acc.reverse := by rw [hPc.out, path_small _ _ (by omega)]; simp
      have HPe := Lib.hid hPe
      obtain ⟨n, hn⟩ : ∃ n, cur.length = n := ⟨_, rfl⟩
      rw [hn] at h2 hlen
      rw [hn]
      have HRv := Lib.hid (rev_any acc u5 wr w.heap.size (by omega) ho)
      clear hv ho hb hPe hn hc
      go_wp2_with fail
      refine HRv.out.mono ?_
      rintro e w1 ⟨rfl, ho1, hb1⟩
      have HO1 := Lib.hid ho1
      have HB1 := Lib.hid (HB.out.trans hb1)
      clear ho1 hb1
      go_wp2
      go_ret
      exact ⟨_, rfl, by rw [HPe.out]; exact HO1.out, HB1.out⟩
theorem path_any (l : List ByteArray) (v : Value) (i : Int) (w : World) (hv : SV w v l) (hl : l.length ≤ 1000) (hS : Short l 100000) (hk : OKW w) :
    Calls Tryd.prog 18 #[v, .int .i64 i] w (Ret w (pathI l i)) := by
  by_cases h : 0 ≤ i ∧ i < l.length
  · obtain ⟨h0, h1⟩ := h
    have e : pathI l i = path l i.toNat := by unfold pathI; rw [if_pos ⟨h0, h1⟩]
    obtain ⟨j, rfl⟩ := Int.eq_ofNat_of_zero_le h0
    rw [e]
    exact path_in l v j w hv hl hS hk (by omega)
  · have e : pathI l i = [] := by unfold pathI; rw [if_neg h]
    rw [e]
    obtain ⟨p, cap, rfl, _, _⟩ := hv.shape
    by_cases h0 : i < 0
    · clear h e hv hk hS
      go_enter Tryd.func18, Tryd.ntmps18
      go_wp2
      go_ret
      exact ⟨_, rfl, SO.nil _ _, Below.refl _ _⟩
    · have h1 : (l.length : Int) ≤ i := by omega
      have h2 : ¬ (i < 0) := h0
      clear h e hv hk hS h0
      go_enter Tryd.func18, Tryd.ntmps18
      go_wp2
      go_ret
      exact ⟨_, rfl, SO.nil _ _, Below.refl _ _⟩
set_option maxHeartbeats 2000000 in
theorem grown_in (l : List ByteArray) (v : Value) (i : Nat) (w : World) (hv : SV w v l) (hl : l.length ≤ 1000) (hS : Short l 100000) (hk : OKW w) (hi : 1 ≤ i) (hi2 : i ≤ l.length) :
    Calls Tryd.prog 20 #[v, .int .i64 i] w (Ret w (growth l i true)) := by
  obtain ⟨p, cap, rfl, hcap, hml⟩ := hv.shape
  have HV := Lib.hid hv
  have HS := Lib.hid hS
  have HK := Lib.hid hk
  obtain ⟨P, hP⟩ : ∃ P, growth l i true = P := ⟨_, rfl⟩
  have HP := Lib.hid hP
  rw [hP]
  obtain ⟨n0, hn0⟩ : ∃ n, l.length = n := ⟨_, rfl⟩
  have HN0 := Lib.hid hn0
  rw [hn0] at hi2 hl ⊢
  have hd1 : decide ((i : Int) < 1) = false := by simp; omega
  have hd2 : decide (n0 < i) = false := by simp; omega
  clear hv hcap hml hS hk hP hn0
  go_enter Tryd.func20, Tryd.ntmps20
  go_wp2
  go_loopw [0, 1, 5, 6, 7] (fun u0 u1 u5 u6 _ wr => ∃ (cur acc : List ByteArray) (c : Nat) (wh : Bool), SV w u0 cur ∧ u1 = .int .i64 c ∧ u6 = .bool wh ∧ 1 ≤ c ∧ c ≤ cur.length ∧ Hid (Short cur 100000) ∧ SO wr w.heap.size u5 acc ∧ acc.length + cur.length ≤ n0 ∧ Hid (P = growth cur c wh ++ acc.reverse) ∧ Below w.heap.size w wr) (fun u0 _ _ _ _ _ => slLen u0)
  case atStart => exact ⟨l, [], i, true, by rw [← HN0.out]; exact HV.out, rfl, rfl, hi, by rw [HN0.out]; omega, HS, SO.nil _ _, by rw [HN0.out]; simp, Lib.hid (by rw [← HP.out]; simp), Below.refl _ _⟩
  case round =>
    clear hd1 hd2
    obtain ⟨cur, acc, c, wh, hv, rfl, rfl, hc1, hc, hSc, ho, hlen, hPc, hb⟩ := hrel
    obtain ⟨p', cap', rfl, _, _⟩ := hv.shape
    have HO := Lib.hid ho
    have HB := Lib.hid hb
    by_cases hcn : c < cur.length
    · have h2 : 2 ≤ cur.length := by omega
      have hlt := split_lt cur.length h2
      have hpos := split_pos cur.length
      have HSp := Lib.hid fun W => split_any cur.length W h2 (by omega)
      obtain ⟨pR, cR, hsR, hvR⟩ := hv.from (split cur.length) (by omega)
      obtain ⟨pL, cL, hsL, hvL⟩ := hv.upto (split cur.length) (by omega)
      by_cases hcl : c ≤ split cur.length
      · have hpe := growth_left cur c wh h2 (by omega) hcl
        obtain ⟨R, hR⟩ : ∃ R, root (cur.drop (split cur.length)) = R := ⟨_, rfl⟩
        rw [hR] at hpe
        have HR : Hid (Calls Tryd.prog 15 #[.slice pR (cur.length - split cur.length) cR] wr fun e w' => e = .returned (.string R) ∧ Below wr.heap.size wr w') := Lib.hid (by
          rw [← hR]
          exact root_any _ _ wr (by rw [List.length_drop]; omega) (hSc.out.drop _) (hvR.below hb (Nat.le_refl _)) (HK.out.below hb))
        have HPn : Hid (P = growth (cur.take (split cur.length)) c wh ++ (acc ++ [R]).reverse) := Lib.hid (by rw [hPc.out, hpe]; simp)
        have HVL := Lib.hid hvL
        have HSL : Hid (Short (cur.take (split cur.length)) 100000) := Lib.hid (hSc.out.take _)
        have htl : (cur.take (split cur.length)).length = split cur.length := by rw [List.length_take]; omega
        have HTL := Lib.hid htl
        obtain ⟨k, hk'⟩ : ∃ k, split cur.length = k := ⟨_, rfl⟩
        rw [hk'] at HPn HVL HSL HTL hlt hpos HSp hsR hsL HR hcl
        obtain ⟨n, hn⟩ : ∃ n, cur.length = n := ⟨_, rfl⟩
        rw [hn] at hlt h2 hlen hsR hsL HSp HR hc hcn
        rw [hn]
        clear hv hvR hvL ho hb hpe hR htl hk' hn
        have hd3 : decide (c ≤ k) = true := by simp; omega
        have hacc : acc.length + 1 ≤ 1000000 := by omega
        go_wp2_with fail
        refine (HSp.out _).mono ?_
        rintro e w1 ⟨rfl, rfl⟩
        go_wp2_with fail
        refine HR.out.mono ?_
        rintro e w1 ⟨rfl, b1⟩
        have HO1 : Hid (SO w1 w.heap.size u5 acc) := Lib.hid (HO.out.below b1 (Nat.le_refl _))
        have HB1 : Hid (Below w.heap.size w w1) := Lib.hid (HB.out.trans (b1.mono HB.out.size))
        clear b1
        go_wp2_with (at_builtin; refine wpList_append rfl _ _ rfl w.heap.size _ _ [R] rfl (HO1.out.alloc _) _ rfl (SV.lit (g := w1.heap.size) [R] (by simp) (heap_alloc_new w1 _)) hacc (by have := HB1.out.size; simp; omega) ?_; intro v4 w4 ho4 hb4 _; have HO4 := Lib.hid ho4; have HB4 : Hid (Below w.heap.size w w4) := Lib.hid ((HB1.out.alloc HB1.out.size _).trans hb4); clear ho4 hb4)
        go_roundw
        case rel => exact ⟨_, _, c, wh, HVL.out, rfl, rfl, by omega, by rw [HTL.out]; omega, HSL, HO4.out, by rw [HTL.out]; simp; omega, HPn, HB4.out⟩
        case measure => simp only [slLen]; omega
      · have hpe := growth_right cur c wh h2 (by omega) hcl
        obtain ⟨R, hR⟩ : ∃ R, root (cur.take (split cur.length)) = R := ⟨_, rfl⟩
        rw [hR] at hpe
        have HR : Hid (Calls Tryd.prog 15 #[.slice pL (split cur.length) cL] wr fun e w' => e = .returned (.string R) ∧ Below wr.heap.size wr w') := Lib.hid (by
          rw [← hR]
          exact root_any _ _ wr (by rw [List.length_take]; omega) (hSc.out.take _) (hvL.below hb (Nat.le_refl _)) (HK.out.below hb))
        have HPn : Hid (P = growth (cur.drop (split cur.length)) (c - split cur.length) false ++ (acc ++ [R]).reverse) := Lib.hid (by rw [hPc.out, hpe]; simp)
        have HVL := Lib.hid hvR
        have HSL : Hid (Short (cur.drop (split cur.length)) 100000) := Lib.hid (hSc.out.drop _)
        have htl : (cur.drop (split cur.length)).length = cur.length - split cur.length := by rw [List.length_drop]
        have HTL := Lib.hid htl
        obtain ⟨k, hk'⟩ : ∃ k, split cur.length = k := ⟨_, rfl⟩
        rw [hk'] at HPn HVL HSL HTL hlt hpos HSp hsR hsL HR hcl
        obtain ⟨n, hn⟩ : ∃ n, cur.length = n := ⟨_, rfl⟩
        rw [hn] at hlt h2 hlen hsR hsL HSp hc hcn HVL HTL
        rw [hn]
        clear hv hvR hvL ho hb hpe hR htl hk' hn
        have hd3 : decide (c ≤ k) = false := by simp; omega
        have hacc : acc.length + 1 ≤ 1000000 := by omega
        have hck : k ≤ c := by omega
        have hsub : (c : Int) - (k : Int) = ((c - k : Nat) : Int) := by omega
        go_wp2_with fail
        refine (HSp.out _).mono ?_
        rintro e w1 ⟨rfl, rfl⟩
        go_wp2_with fail
        refine HR.out.mono ?_
        rintro e w1 ⟨rfl, b1⟩
        have HO1 : Hid (SO w1 w.heap.size u5 acc) := Lib.hid (HO.out.below b1 (Nat.le_refl _))
        have HB1 : Hid (Below w.heap.size w w1) := Lib.hid (HB.out.trans (b1.mono HB.out.size))
        clear b1
        go_wp2_with (at_builtin; refine wpList_append rfl _ _ rfl w.heap.size _ _ [R] rfl (HO1.out.alloc _) _ rfl (SV.lit (g := w1.heap.size) [R] (by simp) (heap_alloc_new w1 _)) hacc (by have := HB1.out.size; simp; omega) ?_; intro v4 w4 ho4 hb4 _; have HO4 := Lib.hid ho4; have HB4 : Hid (Below w.heap.size w w4) := Lib.hid ((HB1.out.alloc HB1.out.size _).trans hb4); clear ho4 hb4)
        go_roundw
        case rel => exact ⟨_, _, c - k, false, HVL.out, rfl, rfl, by omega, by rw [HTL.out]; omega, HSL, HO4.out, by rw [HTL.out]; simp; omega, HPn, HB4.out⟩
        case measure => simp only [slLen]; omega
    · have hce : c = cur.length := by omega
      have hPe : P = (if wh then [] else [root cur]) ++ acc.reverse := by rw [hPc.out, growth_end _ _ _ (.inr hce)]
      have HPe := Lib.hid hPe
      cases wh with
      | true =>
        have HPf : Hid (P = acc.reverse) := Lib.hid (by rw [HPe.out]; rfl)
        obtain ⟨n, hn⟩ : ∃ n, cur.length = n := ⟨_, rfl⟩
        rw [hn] at hc hlen hcn
        rw [hn]
        have HRv := Lib.hid (rev_any acc u5 wr w.heap.size (by omega) ho)
        clear hv ho hb hPe hn hce
        go_wp2_with fail
        refine HRv.out.mono ?_
        rintro e w1 ⟨rfl, ho1, hb1⟩
        have HO1 := Lib.hid ho1
        have HB1 := Lib.hid (HB.out.trans hb1)
        clear ho1 hb1
        go_wp2
        go_ret
        exact ⟨_, rfl, by rw [HPf.out]; exact HO1.out, HB1.out⟩
      | false =>
        have HPf : Hid (P = (acc ++ [root cur]).reverse) := Lib.hid (by rw [HPe.out]; simp)
        have HR := Lib.hid (root_any cur _ wr (by omega) hSc.out (hv.below hb (Nat.le_refl _)) (HK.out.below hb))
        obtain ⟨R, hR⟩ : ∃ R, root cur = R := ⟨_, rfl⟩
        rw [hR] at HPf HR
        obtain ⟨n, hn⟩ : ∃ n, cur.length = n := ⟨_, rfl⟩
        rw [hn] at hc hlen hcn HR
        rw [hn]
        have hacc : acc.length + 1 ≤ 1000000 := by omega
        clear hv ho hb hPe hn hce hR
        go_wp2_with fail
        refine HR.out.mono ?_
        rintro e w1 ⟨rfl, b1⟩
        have HO1 : Hid (SO w1 w.heap.size u5 acc) := Lib.hid (HO.out.below b1 (Nat.le_refl _))
        have HB1 : Hid (Below w.heap.size w w1) := Lib.hid (HB.out.trans (b1.mono HB.out.size))
        clear b1
        go_wp2_with (at_builtin; refine wpList_append rfl _ _ rfl w.heap.size _ _ [R] rfl (HO1.out.alloc _) _ rfl (SV.lit (g := w1.heap.size) [R] (by simp) (heap_alloc_new w1 _)) hacc (by have := HB1.out.size; simp; omega) ?_; intro v4 w4 ho4 hb4 _; have HO4 := Lib.hid ho4; have HB4 : Hid (Below w.heap.size w w4) := Lib.hid ((HB1.out.alloc HB1.out.size _).trans hb4); clear ho4 hb4)
        have HRv := Lib.hid (rev_any (acc ++ [R]) v4 w4 w.heap.size (by simp; omega) HO4.out)
        refine HRv.out.mono ?_
        rintro e w5 ⟨rfl, ho5, hb5⟩
        have HO5 := Lib.hid ho5
        have HB5 := Lib.hid (HB4.out.trans hb5)
        clear ho5 hb5
        go_wp2
        go_ret
        exact ⟨_, rfl, by rw [HPf.out]; exact HO5.out, HB5.out⟩
theorem grown_any (l : List ByteArray) (v : Value) (m : Int) (w : World) (hv : SV w v l) (hl : l.length ≤ 1000) (hS : Short l 100000) (hk : OKW w) :
    Calls Tryd.prog 20 #[v, .int .i64 m] w (Ret w (growthI l m)) := by
  by_cases h : 1 ≤ m ∧ m ≤ l.length
  · obtain ⟨h0, h1⟩ := h
    have e : growthI l m = growth l m.toNat true := by unfold growthI; rw [if_pos ⟨h0, h1⟩]
    obtain ⟨j, rfl⟩ := Int.eq_ofNat_of_zero_le (show 0 ≤ m by omega)
    rw [e]
    exact grown_in l v j w hv hl hS hk (by omega) (by omega)
  · have e : growthI l m = [] := by unfold growthI; rw [if_neg h]
    rw [e]
    obtain ⟨p, cap, rfl, _, _⟩ := hv.shape
    by_cases h0 : m < 1
    · clear h e hv hk hS
      go_enter Tryd.func20, Tryd.ntmps20
      go_wp2
      go_ret
      exact ⟨_, rfl, SO.nil _ _, Below.refl _ _⟩
    · have h1 : (l.length : Int) < m := by omega
      have h2 : ¬ (m < 1) := h0
      clear h e hv hk hS h0
      go_enter Tryd.func20, Tryd.ntmps20
      go_wp2
      go_ret
      exact ⟨_, rfl, SO.nil _ _, Below.refl _ _⟩
end Go.Proofs.YtmapodkdnbbjgaaDoor
