/- missiveref04.Check, CheckGrown: the walks. -/
import Derived.Test.YtmapodkdnbbjgaaDoorMkRef4
namespace Go.Proofs.YtmapodkdnbbjgaaDoor
open Go.RowKit Mk Sl
set_option maxRecDepth 100000 in
set_option maxHeartbeats 2000000 in
theorem rcheck_any (rt x : ByteArray) (n i : Int) (p : List ByteArray) (vp : Value) (w : World) (hv : SV w vp p) (hl : p.length ≤ 1000) (hn : n ≤ 9223372036854775807) :
    Calls Tryd.prog 23 #[.string rt, .int .i64 n, .int .i64 i, .string x, vp] w fun e w' => e = .returned (.bool (checkI rt n i x p)) ∧ Below w.heap.size w w' := by
  by_cases hi0 : i < 0
  · have e : checkI rt n i x p = false := by unfold checkI; rw [if_neg (by omega)]
    rw [e]
    clear e hv hn hl
    go_enter Tryd.func23, Tryd.ntmps23
    go_wp2
    go_ret
    exact ⟨rfl, Below.refl _ _⟩
  · by_cases hin : n ≤ i
    · have e : checkI rt n i x p = false := by unfold checkI; rw [if_neg (by omega)]
      rw [e]
      clear e hv hn hl
      go_enter Tryd.func23, Tryd.ntmps23
      go_wp2
      go_ret
      exact ⟨rfl, Below.refl _ _⟩
    · obtain ⟨I, rfl⟩ := Int.eq_ofNat_of_zero_le (show 0 ≤ i by omega)
      obtain ⟨N, rfl⟩ := Int.eq_ofNat_of_zero_le (show 0 ≤ n by omega)
      have e : checkI rt N I x p = check rt N I x p := by unfold checkI; rw [if_pos (by omega)]; simp
      rw [e]
      have hd1 : decide ((I : Int) < 0) = false := by simp
      have hd2 : decide (N ≤ I) = false := by simp; omega
      have HN : Hid (N ≤ 9223372036854775807) := Lib.hid (by omega)
      clear hn
      by_cases hr : rt.size = 32
      · have hb1 : ((rt.size : Int) != 32) = false := by simp; omega
        have hr' : (rt.size == 32) = true := by simpa using hr
        by_cases hx : x.size = 32
        · have hb2 : ((x.size : Int) != 32) = false := by simp; omega
          have hx' : (x.size == 32) = true := by simpa using hx
          obtain ⟨q, cap, rfl, _, _⟩ := hv.shape
          have HC := Lib.hid (rhashes_any p _ w hv)
          cases h2 : allH p with
          | false =>
            have HF : Hid (check rt N I x p = false) := Lib.hid (by unfold check; rw [h2]; simp)
            rw [h2] at HC
            clear e hv hl h2 hr hx hr' hx'
            go_enter Tryd.func23, Tryd.ntmps23
            go_wp2_with fail
            refine HC.out.mono ?_
            rintro e w1 ⟨rfl, rfl⟩
            go_wp2
            go_ret
            exact ⟨by rw [HF.out]; rfl, Below.refl _ _⟩
          | true =>
            rw [h2] at HC
            have hS : Short p 100000 := fun s hs => by
              have := List.all_eq_true.1 h2 s hs; simp at this; omega
            have hE : check rt N I x p = ((byR N I x p.reverse).2 && decide ((byR N I x p.reverse).1 = rt)) := by unfold check; rw [hr', hx', h2]; simp
            have hC := fun W (hW : Below w.heap.size w W) => rby_any p N I x _ W hl (by omega) HN.out (by omega) hS (hv.below hW (Nat.le_refl _))
            obtain ⟨X, hX⟩ : ∃ X, (byR N I x p.reverse).1 = X := ⟨_, rfl⟩
            obtain ⟨O, hO⟩ : ∃ X, (byR N I x p.reverse).2 = X := ⟨_, rfl⟩
            rw [hX, hO] at hE
            rw [hX, hO] at hC
            have HE := Lib.hid hE
            have HBy := Lib.hid hC
            clear hE hC hX hO e hv hl h2 hr hx hr' hx' hS
            cases O with
            | false =>
              go_enter Tryd.func23, Tryd.ntmps23
              go_wp2_with fail
              refine HC.out.mono ?_
              rintro e w1 ⟨rfl, rfl⟩
              go_wp2_with fail
              refine (HBy.out _ (Below.refl _ _)).mono ?_
              rintro e w1 ⟨rfl, b1⟩
              have HB1 := Lib.hid b1
              clear b1
              have HR : Hid (check rt N I x p = false) := Lib.hid (by rw [HE.out]; rfl)
              go_wp2
              go_ret
              exact ⟨by rw [HR.out]; rfl, HB1.out⟩
            | true =>
              go_enter Tryd.func23, Tryd.ntmps23
              go_wp2_with fail
              refine HC.out.mono ?_
              rintro e w1 ⟨rfl, rfl⟩
              go_wp2_with fail
              refine (HBy.out _ (Below.refl _ _)).mono ?_
              rintro e w1 ⟨rfl, b1⟩
              have HB1 := Lib.hid b1
              clear b1
              by_cases he1 : X.toList = rt.toList
              · have fb1 : (X.toList == rt.toList) = true := by simp [he1]
                have HQ1 := Lib.hid (str_ext he1)
                clear he1
                have HR : Hid (check rt N I x p = true) := Lib.hid (by rw [HE.out]; rw [HQ1.out]; simp)
                go_wp2
                go_ret
                exact ⟨by rw [HR.out]; rfl, HB1.out⟩
              · have fb1 : (X.toList == rt.toList) = false := by simp [he1]
                have HQ1 : Hid (X ≠ rt) := Lib.hid fun h => he1 (by rw [h])
                clear he1
                have HR : Hid (check rt N I x p = false) := Lib.hid (by rw [HE.out]; rw [decide_eq_false HQ1.out]; rfl)
                go_wp2
                go_ret
                exact ⟨by rw [HR.out]; rfl, HB1.out⟩
        · have hb2 : ((x.size : Int) != 32) = true := by rw [bne_iff_ne]; omega
          have HF : Hid (check rt N I x p = false) := Lib.hid (by
            have hx' : (x.size == 32) = false := by simpa using hx
            unfold check; rw [hx']; simp)
          clear e hv hl hr hx hr'
          go_enter Tryd.func23, Tryd.ntmps23
          go_wp2
          go_ret
          exact ⟨by rw [HF.out]; rfl, Below.refl _ _⟩
      · have hb1 : ((rt.size : Int) != 32) = true := by rw [bne_iff_ne]; omega
        have HF : Hid (check rt N I x p = false) := Lib.hid (by
          have hr' : (rt.size == 32) = false := by simpa using hr
          unfold check; rw [hr']; simp)
        clear e hv hl hr
        go_enter Tryd.func23, Tryd.ntmps23
        go_wp2
        go_ret
        exact ⟨by rw [HF.out]; rfl, Below.refl _ _⟩
set_option maxRecDepth 100000 in
set_option maxHeartbeats 2000000 in
theorem rgrownck_any (rt x : ByteArray) (n i : Int) (p : List ByteArray) (vp : Value) (w : World) (hv : SV w vp p) (hl : p.length ≤ 1000) (hn : n ≤ 9223372036854775807) :
    Calls Tryd.prog 25 #[.string x, .int .i64 i, .string rt, .int .i64 n, vp] w fun e w' => e = .returned (.bool (checkGrownI x i rt n p)) ∧ Below w.heap.size w w' := by
  by_cases hi0 : i < 0
  · have e : checkGrownI x i rt n p = false := by unfold checkGrownI; rw [if_neg (by omega)]
    rw [e]
    clear e hv hn hl
    go_enter Tryd.func25, Tryd.ntmps25
    go_wp2
    go_ret
    exact ⟨rfl, Below.refl _ _⟩
  · by_cases hin : n < i
    · have e : checkGrownI x i rt n p = false := by unfold checkGrownI; rw [if_neg (by omega)]
      rw [e]
      clear e hv hn hl
      go_enter Tryd.func25, Tryd.ntmps25
      go_wp2
      go_ret
      exact ⟨rfl, Below.refl _ _⟩
    · obtain ⟨I, rfl⟩ := Int.eq_ofNat_of_zero_le (show 0 ≤ i by omega)
      obtain ⟨N, rfl⟩ := Int.eq_ofNat_of_zero_le (show 0 ≤ n by omega)
      have e : checkGrownI x I rt N p = checkGrown x I rt N p := by unfold checkGrownI; rw [if_pos (by omega)]; simp
      rw [e]
      have hd1 : decide ((I : Int) < 0) = false := by simp
      have hd2 : decide (N < I) = false := by simp; omega
      have HN : Hid (N ≤ 9223372036854775807) := Lib.hid (by omega)
      clear hn
      by_cases hr : x.size = 32
      · have hb1 : ((x.size : Int) != 32) = false := by simp; omega
        have hr' : (x.size == 32) = true := by simpa using hr
        by_cases hx : rt.size = 32
        · have hb2 : ((rt.size : Int) != 32) = false := by simp; omega
          have hx' : (rt.size == 32) = true := by simpa using hx
          obtain ⟨q, cap, rfl, _, _⟩ := hv.shape
          have HC := Lib.hid (rhashes_any p _ w hv)
          cases h2 : allH p with
          | false =>
            have HF : Hid (checkGrown x I rt N p = false) := Lib.hid (by unfold checkGrown; rw [h2]; simp)
            rw [h2] at HC
            clear e hv hl h2 hr hx hr' hx'
            go_enter Tryd.func25, Tryd.ntmps25
            go_wp2_with fail
            refine HC.out.mono ?_
            rintro e w1 ⟨rfl, rfl⟩
            go_wp2
            go_ret
            exact ⟨by rw [HF.out]; rfl, Below.refl _ _⟩
          | true =>
            rw [h2] at HC
            have hS : Short p 100000 := fun s hs => by
              have := List.all_eq_true.1 h2 s hs; simp at this; omega
            rcases Nat.eq_zero_or_pos I with h0 | h0
            · subst h0
              have hE : checkGrown x 0 rt N p = (decide (x = H ⟨#[]⟩) && p.isEmpty) := by unfold checkGrown; rw [hr', hx', h2]; simp
              have hz : p.isEmpty = decide (p.length = 0) := by cases p <;> simp
              obtain ⟨pl, hpl⟩ : ∃ k, p.length = k := ⟨_, rfl⟩
              rw [hz, hpl] at hE
              rw [hpl] at HC
              rw [hpl]
              have HS : Hid (∀ W, Calls Tryd.prog 32 #[.string ⟨#[]⟩] W fun e w' => e = .returned (.string (H ⟨#[]⟩)) ∧ Below W.heap.size W w') := Lib.hid fun W => rH_any ⟨#[]⟩ W (by decide)
              obtain ⟨E, hEe⟩ : ∃ E, H ⟨#[]⟩ = E := ⟨_, rfl⟩
              rw [hEe] at hE HS
              have HE := Lib.hid hE
              clear hE hz hpl hEe e hv hl h2 hr hx hr' hx' hS
              go_enter Tryd.func25, Tryd.ntmps25
              go_wp2_with fail
              refine HC.out.mono ?_
              rintro e w1 ⟨rfl, rfl⟩
              go_wp2_with fail
              refine (HS.out _).mono ?_
              rintro e w1 ⟨rfl, b1⟩
              have HB1 := Lib.hid b1
              clear b1
              rcases Nat.eq_zero_or_pos pl with hp0 | hp0
              · have hq1 : ((pl : Int) == 0) = true := by simp; omega
                have HP0 := Lib.hid hp0
                clear hp0
                by_cases he1 : x.toList = E.toList
                · have fb1 : (x.toList == E.toList) = true := by simp [he1]
                  have HQ1 := Lib.hid (str_ext he1)
                  clear he1
                  have HR : Hid (checkGrown x 0 rt N p = true) := Lib.hid (by rw [HE.out]; rw [HQ1.out, HP0.out]; simp)
                  go_wp2
                  go_ret
                  exact ⟨by rw [HR.out]; rfl, HB1.out⟩
                · have fb1 : (x.toList == E.toList) = false := by simp [he1]
                  have HQ1 : Hid (x ≠ E) := Lib.hid fun h => he1 (by rw [h])
                  clear he1
                  have HR : Hid (checkGrown x 0 rt N p = false) := Lib.hid (by rw [HE.out]; rw [decide_eq_false HQ1.out]; rfl)
                  go_wp2
                  go_ret
                  exact ⟨by rw [HR.out]; rfl, HB1.out⟩
              · have hq1 : ((pl : Int) == 0) = false := by simp; omega
                have HP0 : Hid (¬ pl = 0) := Lib.hid (by omega)
                clear hp0
                by_cases he1 : x.toList = E.toList
                · have fb1 : (x.toList == E.toList) = true := by simp [he1]
                  have HQ1 := Lib.hid (str_ext he1)
                  clear he1
                  have HR : Hid (checkGrown x 0 rt N p = false) := Lib.hid (by rw [HE.out]; rw [decide_eq_false HP0.out]; simp)
                  go_wp2
                  go_ret
                  exact ⟨by rw [HR.out]; rfl, HB1.out⟩
                · have fb1 : (x.toList == E.toList) = false := by simp [he1]
                  have HQ1 : Hid (x ≠ E) := Lib.hid fun h => he1 (by rw [h])
                  clear he1
                  have HR : Hid (checkGrown x 0 rt N p = false) := Lib.hid (by rw [HE.out]; rw [decide_eq_false HQ1.out]; rfl)
                  go_wp2
                  go_ret
                  exact ⟨by rw [HR.out]; rfl, HB1.out⟩
            · have hE : checkGrown x I rt N p = ((bothR x I N p.reverse true).2.2 && decide ((bothR x I N p.reverse true).1 = x) && decide ((bothR x I N p.reverse true).2.1 = rt)) := by unfold checkGrown; rw [hr', hx', h2, if_neg (by omega)]; simp
              have hC := fun W (hW : Below w.heap.size w W) => rboth_any p x I N true _ W hl h0 (by omega) HN.out (by omega) hS (hv.below hW (Nat.le_refl _))
              obtain ⟨X, hX⟩ : ∃ X, (bothR x I N p.reverse true).1 = X := ⟨_, rfl⟩
              obtain ⟨Y, hY⟩ : ∃ X, (bothR x I N p.reverse true).2.1 = X := ⟨_, rfl⟩
              obtain ⟨O, hO⟩ : ∃ X, (bothR x I N p.reverse true).2.2 = X := ⟨_, rfl⟩
              rw [hX, hY, hO] at hE
              rw [hX, hY, hO] at hC
              have HE := Lib.hid hE
              have HBy := Lib.hid hC
              have hI0 : ((I : Int) == 0) = false := by simp; omega
              clear hE hC hX hY hO e hv hl h2 hr hx hr' hx' hS h0
              cases O with
              | false =>
                go_enter Tryd.func25, Tryd.ntmps25
                go_wp2_with fail
                refine HC.out.mono ?_
                rintro e w1 ⟨rfl, rfl⟩
                go_wp2_with fail
                refine (HBy.out _ (Below.refl _ _)).mono ?_
                rintro e w1 ⟨rfl, b1⟩
                have HB1 := Lib.hid b1
                clear b1
                have HR : Hid (checkGrown x I rt N p = false) := Lib.hid (by rw [HE.out]; rfl)
                go_wp2
                go_ret
                exact ⟨by rw [HR.out]; rfl, HB1.out⟩
              | true =>
                go_enter Tryd.func25, Tryd.ntmps25
                go_wp2_with fail
                refine HC.out.mono ?_
                rintro e w1 ⟨rfl, rfl⟩
                go_wp2_with fail
                refine (HBy.out _ (Below.refl _ _)).mono ?_
                rintro e w1 ⟨rfl, b1⟩
                have HB1 := Lib.hid b1
                clear b1
                by_cases he1 : X.toList = x.toList
                · have fb1 : (X.toList == x.toList) = true := by simp [he1]
                  have HQ1 := Lib.hid (str_ext he1)
                  clear he1
                  by_cases he2 : Y.toList = rt.toList
                  · have fb2 : (Y.toList == rt.toList) = true := by simp [he2]
                    have HQ2 := Lib.hid (str_ext he2)
                    clear he2
                    have HR : Hid (checkGrown x I rt N p = true) := Lib.hid (by rw [HE.out]; rw [HQ1.out, HQ2.out]; simp)
                    go_wp2
                    go_ret
                    exact ⟨by rw [HR.out]; rfl, HB1.out⟩
                  · have fb2 : (Y.toList == rt.toList) = false := by simp [he2]
                    have HQ2 : Hid (Y ≠ rt) := Lib.hid fun h => he2 (by rw [h])
                    clear he2
                    have HR : Hid (checkGrown x I rt N p = false) := Lib.hid (by rw [HE.out]; rw [decide_eq_false HQ2.out]; simp)
                    go_wp2
                    go_ret
                    exact ⟨by rw [HR.out]; rfl, HB1.out⟩
                · have fb1 : (X.toList == x.toList) = false := by simp [he1]
                  have HQ1 : Hid (X ≠ x) := Lib.hid fun h => he1 (by rw [h])
                  clear he1
                  have HR : Hid (checkGrown x I rt N p = false) := Lib.hid (by rw [HE.out]; rw [decide_eq_false HQ1.out]; simp)
                  go_wp2
                  go_ret
                  exact ⟨by rw [HR.out]; rfl, HB1.out⟩
        · have hb2 : ((rt.size : Int) != 32) = true := by rw [bne_iff_ne]; omega
          have HF : Hid (checkGrown x I rt N p = false) := Lib.hid (by
            have hx' : (rt.size == 32) = false := by simpa using hx
            unfold checkGrown; rw [hx']; simp)
          clear e hv hl hr hx hr'
          go_enter Tryd.func25, Tryd.ntmps25
          go_wp2
          go_ret
          exact ⟨by rw [HF.out]; rfl, Below.refl _ _⟩
      · have hb1 : ((x.size : Int) != 32) = true := by rw [bne_iff_ne]; omega
        have HF : Hid (checkGrown x I rt N p = false) := Lib.hid (by
          have hr' : (x.size == 32) = false := by simpa using hr
          unfold checkGrown; rw [hr']; simp)
        clear e hv hl hr
        go_enter Tryd.func25, Tryd.ntmps25
        go_wp2
        go_ret
        exact ⟨by rw [HF.out]; rfl, Below.refl _ _⟩
end Go.Proofs.YtmapodkdnbbjgaaDoor
