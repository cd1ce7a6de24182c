/- missiveref03.block: the walk. -/
import Derived.Test.YtmapodkdnbbjgaaDoorRefBlk0
import Derived.Sort.AtCall
namespace Go.Proofs.YtmapodkdnbbjgaaDoor
open Go.RowKit Dg
/-- what block leaves -/
def BlkPost (w : World) (l : List UInt32) (e : Ending) (w' : World) : Prop := ∃ v', e = .returned v' ∧ WI w' w.heap.size v' 8 l ∧ Below w.heap.size w w'
set_option maxRecDepth 100000 in
set_option maxHeartbeats 4000000 in
theorem rblock_any (w : World) (vs vb : Value) (st : St) (bl : List UInt8) (nb t : Nat) (hs : WI w 0 vs 8 st.list) (hb : OB w 0 vb nb bl) (ht : t + 64 ≤ nb) (hn : nb ≤ 2000000) :
    Calls Tryd.prog 43 #[vs, vb, .int .i64 t] w (BlkPost w (comp st (chunk bl t)).list) := by
  obtain ⟨gs, cs, rfl, _, hgs, hcs1, hcs2, hcs⟩ := WI.row hs (by omega)
  obtain ⟨gb, cb, rfl, _, hgb, hcb1, hcb2, hcb⟩ := OB.row hb (by omega)
  have HCS := Lib.hid hcs
  have HCB := Lib.hid hcb
  obtain ⟨M, hM⟩ : ∃ M, words (chunk bl t) = M := ⟨_, rfl⟩
  have hMl : M.length = 16 := by rw [← hM]; exact words_len _
  have hMw : ∀ k, k < 16 → M.take (k + 1) = M.take k ++ [be32 (bl.getD (t + 4 * k) 0) (bl.getD (t + 4 * k + 1) 0) (bl.getD (t + 4 * k + 2) 0) (bl.getD (t + 4 * k + 3) 0)] := fun k hk => by
    rw [← chunk_word bl t k hk, ← hM]; exact words_take_succ _ _ hk
  have HM := Lib.hid hM
  have HMl := Lib.hid hMl
  have HMw := Lib.hid hMw
  clear hs hb hcs hcb hM hMl hMw
  go_enter Tryd.func43, Tryd.ntmps43
  go_wp2
  go_loopw [7, 8, 9] (fun v i _ wr => ∃ k : Nat, k ≤ 16 ∧ i = .int .i64 k ∧ WI wr w.heap.size v k (M.take k) ∧ Below w.heap.size w wr) (fun _ i _ _ => 16 - (intOf i).toNat)
  case atStart => exact ⟨0, Nat.zero_le _, rfl, Own.nil _ _ _ _, Below.refl _ _⟩
  case round =>
    obtain ⟨k, hk, rfl, ho, hb⟩ := hrel
    have HO := Lib.hid ho
    have HB := Lib.hid hb
    clear ho hb
    by_cases hlt : k < 16
    ·--[1
      have HT := Lib.hid (HMw.out k hlt)
      obtain ⟨p, hp⟩ : ∃ p, t + 4 * k = p := ⟨_, rfl⟩
      rw [hp] at HT
      obtain ⟨p1, hp1⟩ : ∃ y, p + 1 = y := ⟨_, rfl⟩
      obtain ⟨p2, hp2⟩ : ∃ y, p + 2 = y := ⟨_, rfl⟩
      obtain ⟨p3, hp3⟩ : ∃ y, p + 3 = y := ⟨_, rfl⟩
      have cc : ∀ j, j < nb → wr.cell? ⟨gb, j, none⟩ = some (.int .u8 (bl.getD j 0).toNat) := fun j hj => (HB.out.cell (p := ⟨gb, j, none⟩) hgb).trans (HCB.out j hj)
      have c0 := cc p (by omega)
      have c1 := cc p1 (by omega)
      have c2 := cc p2 (by omega)
      have c3 := cc p3 (by omega)
      clear cc
      rw [hp1, hp2, hp3] at HT
      obtain ⟨z0, hz0⟩ : ∃ y, bl.getD p 0 = y := ⟨_, rfl⟩
      obtain ⟨z1, hz1⟩ : ∃ y, bl.getD p1 0 = y := ⟨_, rfl⟩
      obtain ⟨z2, hz2⟩ : ∃ y, bl.getD p2 0 = y := ⟨_, rfl⟩
      obtain ⟨z3, hz3⟩ : ∃ y, bl.getD p3 0 = y := ⟨_, rfl⟩
      rw [hz0] at c0 HT
      rw [hz1] at c1 HT
      rw [hz2] at c2 HT
      rw [hz3] at c3 HT
      obtain ⟨o1, o2, r1, r2, r3⟩ := or4 z0 z1 z2 z3
      obtain ⟨s1, _, _⟩ := or4_sh z0
      obtain ⟨_, s2, _⟩ := or4_sh z1
      obtain ⟨_, _, s3⟩ := or4_sh z2
      have t0 := or4_byte z0
      have t1 := or4_byte z1
      have t2 := or4_byte z2
      have t3 := or4_byte z3
      obtain ⟨ov, hov⟩ : ∃ y, v32 (be32 z0 z1 z2 z3) = y := ⟨_, rfl⟩
      rw [hov] at r3
      have HV : Hid (ov = v32 (be32 z0 z1 z2 z3)) := Lib.hid hov.symm
      have q1 : IntKind.i64.wrap ((p : Int) + 1) = (p1 : Int) := by rw [IntWalk.i64_in _ (by omega)]; omega
      have q2 : IntKind.i64.wrap ((p : Int) + 2) = (p2 : Int) := by rw [IntWalk.i64_in _ (by omega)]; omega
      have q3 : IntKind.i64.wrap ((p : Int) + 3) = (p3 : Int) := by rw [IntWalk.i64_in _ (by omega)]; omega
      have x0 : (p : Int) < (nb : Int) := by omega
      have x1 : (p1 : Int) < (nb : Int) := by omega
      have x2 : (p2 : Int) < (nb : Int) := by omega
      have x3 : (p3 : Int) < (nb : Int) := by omega
      have y0 : 0 ≤ (p : Int) := by omega
      have y1 : 0 ≤ (p1 : Int) := by omega
      have y2 : 0 ≤ (p2 : Int) := by omega
      have y3 : 0 ≤ (p3 : Int) := by omega
      have hpp : (t : Int) + 4 * (k : Int) = (p : Int) := by omega
      clear hz0 hz1 hz2 hz3 hov hp hp1 hp2 hp3
      go_wp2_with fail
      clear hpp
      go_region_held3 (fun w' => w'.cell? ⟨gb, p, none⟩ = some (.int .u8 z0.toNat) ∧ w'.cell? ⟨gb, p1, none⟩ = some (.int .u8 z1.toNat) ∧ w'.cell? ⟨gb, p2, none⟩ = some (.int .u8 z2.toNat) ∧ w'.cell? ⟨gb, p3, none⟩ = some (.int .u8 z3.toNat)) (first | go_keep | (refine ⟨?_, ?_, ?_, ?_⟩ <;> (refine (hg1.cell hgb).trans ?_; go_keep)))
        ((refine step_append_w1 (by rfl) _ _ (by rfl) w.heap.size u7 k (M.take k) (by rfl) ((HO.out.alloc _).drew) wr.heap.size ov _ HV (by rfl) (heap_alloc_new _ _) (by omega) (by have := HB.out.size; simp; omega) ?_; intro v1 w4 hown1 hg1 hk1))
      have HWn : Hid (WI w4 w.heap.size v1 (k + 1) (M.take (k + 1))) := Lib.hid (by rw [HT.out]; exact hown1)
      have HBn : Hid (Below w.heap.size w w4) := Lib.hid (((HB.out.alloc HB.out.size (.cells #[.int .i64 ov] 3)).drew).trans hg1)
      clear hown1 hg1 hk1
      go_wp2_with fail
      go_roundw
      case rel => exact ⟨k + 1, by omega, by go_num, HWn.out, HBn.out⟩
      case measure => simp [intOf]; omega
      --]1
    · have HO1 : Hid (WI wr w.heap.size u7 16 (wk (chunk bl t) 0)) := Lib.hid (by
        have h := HO.out
        rw [show k = 16 by omega] at h
        rw [List.take_of_length_le (by rw [HMl.out]; omega), ← HM.out] at h; exact h)
      have HB1 := HB
      have hkd : decide ((k : Int) < 16) = false := by simp; omega
      clear HO HB hlt hk
      go_wp2
      obtain ⟨wo, hwo⟩ : ∃ y, y = wr := ⟨_, rfl⟩
      subst hwo
      go_loopw [7, 10, 11, 12, 13, 14] (fun v i _ _ _ _ wr => ∃ j : Nat, 16 ≤ j ∧ j ≤ 64 ∧ i = .int .i64 j ∧ WI wr w.heap.size v j (wk (chunk bl t) (j - 16)) ∧ Below w.heap.size w wr) (fun _ i _ _ _ _ _ => 64 - (intOf i).toNat)
      case atStart => exact ⟨16, by omega, by omega, rfl, HO1.out, HB1.out⟩
      case round =>
        clear HO1 HB1
        obtain ⟨j, hj1, hj2, rfl, ho, hb⟩ := hrel
        by_cases hlt : j < 64
        ·--[2
          have HB := Lib.hid hb
          obtain ⟨g, cap, rfl, hgB, hgl, hc1, hc2, hcell⟩ := WI.row ho (by omega)
          have HO := Lib.hid ho
          obtain ⟨n1, hn1⟩ : ∃ y, j - 15 = y := ⟨_, rfl⟩
          obtain ⟨n2, hn2⟩ : ∃ y, j - 2 = y := ⟨_, rfl⟩
          obtain ⟨n3, hn3⟩ : ∃ y, j - 16 = y := ⟨_, rfl⟩
          obtain ⟨n4, hn4⟩ : ∃ y, j - 7 = y := ⟨_, rfl⟩
          rw [hn3] at HO hcell
          have c1 := hcell n1 (by omega)
          have c2 := hcell n2 (by omega)
          have c3 := hcell n3 (by omega)
          have c4 := hcell n4 (by omega)
          obtain ⟨E, hE⟩ : ∃ E : UInt32, (wk (chunk bl t) n3).getD n3 0 + (rotr ((wk (chunk bl t) n3).getD n1 0) 7 ^^^ rotr ((wk (chunk bl t) n3).getD n1 0) 18 ^^^ shr ((wk (chunk bl t) n3).getD n1 0) 3) + (wk (chunk bl t) n3).getD n4 0 + (rotr ((wk (chunk bl t) n3).getD n2 0) 17 ^^^ rotr ((wk (chunk bl t) n3).getD n2 0) 19 ^^^ shr ((wk (chunk bl t) n3).getD n2 0) 10) = E := ⟨_, rfl⟩
          have HW : Hid (wk (chunk bl t) (j + 1 - 16) = wk (chunk bl t) n3 ++ [E]) := by
            show _ = _
            rw [show j + 1 - 16 = n3 + 1 by omega, wk_succ, ← hE, nextW_eq, show 16 + n3 - 16 = n3 by omega, show 16 + n3 - 15 = n1 by omega, show 16 + n3 - 7 = n4 by omega, show 16 + n3 - 2 = n2 by omega]
            rfl
          obtain ⟨x1, hx1⟩ : ∃ x, (wk (chunk bl t) n3).getD n1 0 = x := ⟨_, rfl⟩
          obtain ⟨x2, hx2⟩ : ∃ x, (wk (chunk bl t) n3).getD n2 0 = x := ⟨_, rfl⟩
          obtain ⟨x3, hx3⟩ : ∃ x, (wk (chunk bl t) n3).getD n3 0 = x := ⟨_, rfl⟩
          obtain ⟨x4, hx4⟩ : ∃ x, (wk (chunk bl t) n3).getD n4 0 = x := ⟨_, rfl⟩
          rw [hx1] at c1 hE
          rw [hx2] at c2 hE
          rw [hx3] at c3 hE
          rw [hx4] at c4 hE
          clear hx1 hx2 hx3 hx4 hcell
          have b1 := v32_0 x3; have b2 := v32_lt x3; have b3 := v32_0 x4; have b4 := v32_lt x4
          have b5 := v32_0 (rotr x1 7 ^^^ rotr x1 18 ^^^ shr x1 3); have b6 := v32_lt (rotr x1 7 ^^^ rotr x1 18 ^^^ shr x1 3)
          have b7 := v32_0 (rotr x2 17 ^^^ rotr x2 19 ^^^ shr x2 10); have b8 := v32_lt (rotr x2 17 ^^^ rotr x2 19 ^^^ shr x2 10)
          have hsum := v32_add4 x3 (rotr x1 7 ^^^ rotr x1 18 ^^^ shr x1 3) x4 (rotr x2 17 ^^^ rotr x2 19 ^^^ shr x2 10)
          rw [hE] at hsum
          obtain ⟨S0, hS0⟩ : ∃ x, v32 (rotr x1 7 ^^^ rotr x1 18 ^^^ shr x1 3) = x := ⟨_, rfl⟩
          obtain ⟨S1, hS1⟩ : ∃ x, v32 (rotr x2 17 ^^^ rotr x2 19 ^^^ shr x2 10) = x := ⟨_, rfl⟩
          rw [hS0] at b5 b6 hsum
          rw [hS1] at b7 b8 hsum
          have d1 := sum_in (v32 x3 + S0) (by omega) (by omega)
          have d2 := sum_in (v32 x3 + S0 + v32 x4) (by omega) (by omega)
          have d3 := sum_in (v32 x3 + S0 + v32 x4 + S1) (by omega) (by omega)
          have HWd : Hid (∀ W, Calls Tryd.prog 52 #[.int .i64 (v32 x3 + S0 + v32 x4 + S1)] W fun e w' => e = .returned (.int .i64 (v32 E)) ∧ W = w') := fun W => sum_word _ E (by omega) hsum (by omega) W
          have q1 : IntKind.i64.wrap ((j : Int) - 16) = (n3 : Int) := by rw [IntWalk.i64_in _ (by omega)]; omega
          have q2 : IntKind.i64.wrap ((j : Int) - 7) = (n4 : Int) := by rw [IntWalk.i64_in _ (by omega)]; omega
          have y1 : 0 ≤ (n3 : Int) := by omega
          have y2 : (n3 : Int) < (j : Int) := by omega
          have y3 : 0 ≤ (n4 : Int) := by omega
          have y4 : (n4 : Int) < (j : Int) := by omega
          have y2n : n3 < j := by omega
          have y4n : n4 < j := by omega
          have y5 : n1 < j := by omega
          have y6 : n2 < j := by omega
          have i1 : (j : Int) - 15 = (n1 : Int) := by omega
          have i2 : (j : Int) - 2 = (n2 : Int) := by omega
          have rx := jxor
          have rs : ∀ x, v32 x / 8 = v32 (shr x 3) := fun x => shr32 x 3
          have rt : ∀ x, v32 x / 1024 = v32 (shr x 10) := fun x => shr32 x 10
          clear hn1 hn2 hn3 hn4 hE hsum b1 b2 b3 b4 b5 b6 b7 b8 ho hb
          obtain ⟨ev, hev⟩ : ∃ y, v32 E = y := ⟨_, rfl⟩
          rw [hev] at HWd
          have HV : Hid (ev = v32 E) := Lib.hid hev.symm
          clear hev
          go_wp2_with (go_at_call 51; refine (turn_lit _ _ (by decide) _).mono ?_; rintro e w2 ⟨rfl, m, rfl⟩)
          clear i1 i2 rs rt rx
          go_region_held3 (fun w' => w'.cell? ⟨g, n3, none⟩ = some (.int .i64 (v32 x3)) ∧ w'.cell? ⟨g, n4, none⟩ = some (.int .i64 (v32 x4))) (first | go_keep | (refine ⟨(hk1 _ _ rfl y2n).trans ?_, (hk1 _ _ rfl y4n).trans ?_⟩ <;> go_keep))
            ((first
              | (go_at_call 52; refine (HWd.out _).mono ?_; rintro e w2 ⟨rfl, rfl⟩)
              | (refine step_append_w1 (by rfl) _ _ (by rfl) w.heap.size _ j (wk (chunk bl t) n3) (by rfl) ((HO.out.alloc _).drewN _) wr.heap.size ev _ HV (by rfl) (heap_alloc_new _ _) (by omega) (by have := HB.out.size; simp; omega) ?_; intro v1 w4 hown1 hg1 hk1)))
          have HWn : Hid (WI w4 w.heap.size v1 (j + 1) (wk (chunk bl t) (j + 1 - 16))) := Lib.hid (by rw [HW.out]; exact hown1)
          have HBn : Hid (Below w.heap.size w w4) := Lib.hid ((below_drewN (HB.out.alloc HB.out.size (.cells #[.int .i64 ev] 3)) _).trans hg1)
          clear hown1 hg1 hk1
          go_wp2_with fail
          go_roundw
          case rel => exact ⟨j + 1, by omega, by omega, by go_num, HWn.out, HBn.out⟩
          case measure => simp [intOf]; omega
          --]2
        · have HW1 : Hid (WI wr w.heap.size u7 64 (sched (chunk bl t))) := Lib.hid (by
            have h := ho
            rw [show j = 64 by omega] at h
            exact h)
          have HB1 := Lib.hid hb
          obtain ⟨Sx, hSx⟩ : ∃ y, sched (chunk bl t) = y := ⟨_, rfl⟩
          have hcomp : comp st (chunk bl t) = st.add (rounds Sx 64 st) := by rw [← hSx]; rfl
          have HC := Lib.hid hcomp
          rw [hSx] at HW1
          have hjd : decide ((j : Int) < 64) = false := by simp; omega
          clear ho hb hSx hcomp HM HMw HMl hlt hj1 hj2
          obtain ⟨gw, cw, rfl, hgwB, hgwl, _, _, hwc⟩ := WI.row HW1.out (by omega)
          have HWC := Lib.hid hwc
          clear hwc
          have hcs' : ∀ j, j < 8 → (wr.alloc (.cells #[] 3)).cell? ⟨gs, j, none⟩ = some (.int .i64 (v32 (st.list.getD j 0))) := fun j hj =>
            ((HB1.out.alloc HB1.out.size (.cells #[] 3)).cell (p := ⟨gs, j, none⟩) hgs).trans (HCS.out j hj)
          have HCS' := Lib.hid hcs'
          clear hcs'
          go_wp2_with (first
            | (at_builtin; refine wpList_append_ws rfl _ _ rfl wr.heap.size _ 0 [] rfl (WI.empty (heap_alloc_new wr _) (Nat.le_refl _)) gs 8 cs st.list rfl rfl HCS'.out (by omega) (by simp) ?_; intro v15 w5 hown5 hg5; have HL5 : Hid (WI w5 wr.heap.size v15 8 st.list) := Lib.hid hown5; have HG5 : Hid (Below wr.heap.size wr w5) := Lib.hid (((Below.refl _ _).alloc (Nat.le_refl _) (.cells #[] 3)).trans hg5); clear hown5 hg5)
            | (go_at_call 53; refine (rk_any _).mono ?_; rintro e w6 ⟨rfl, rfl⟩))
          obtain ⟨W6, hW6⟩ : ∃ y, w5.alloc (.cells (wcs K).toArray 3) = y := ⟨_, rfl⟩
          obtain ⟨gk, hgk⟩ : ∃ y, w5.heap.size = y := ⟨_, rfl⟩
          have hkl : gk < W6.heap.size := by rw [← hW6, ← hgk]; simp
          have h56 : Below w5.heap.size w5 W6 := hW6 ▸ (Below.refl _ _).alloc (Nat.le_refl _) _
          have h16 : Below wr.heap.size wr W6 := HG5.out.trans (h56.mono HG5.out.size)
          have hkc : ∀ i, i < 64 → W6.cell? ⟨gk, i, none⟩ = some (.int .i64 (v32 (K.getD i 0))) := fun i hi => by
            rw [cell_of_row W6 gk i _ _ _ (hW6 ▸ hgk ▸ heap_alloc_new w5 _), ← wcs_at K i (by rw [K_len]; exact hi)]; simp
          have HKC := Lib.hid hkc
          have HWC6 : Hid (∀ j, j < 64 → W6.cell? ⟨gw, j, none⟩ = some (.int .i64 (v32 (Sx.getD j 0)))) := Lib.hid fun j hj => (h16.cell (p := ⟨gw, j, none⟩) hgwl).trans (HWC.out j hj)
          have hgw6 : gw < W6.heap.size := Nat.lt_of_lt_of_le hgwl h16.size
          have HB6 : Hid (Below w.heap.size w W6) := Lib.hid (HB1.out.trans (h16.mono HB1.out.size))
          have HL6 : Hid (WI W6 w.heap.size v15 8 st.list) := Lib.hid ((Own.below HL5.out h56 (Nat.le_refl _)).mono HB1.out.size)
          rw [hW6, hgk]
          clear hW6 hgk h56 h16 hkc HG5 HL5 HCS' HWC HB1 HW1
          go_loopw [15, 17, 18, 19, 20] (fun v i _ _ _ wr => ∃ n : Nat, n ≤ 64 ∧ i = .int .i64 n ∧ WI wr w.heap.size v 8 (rounds Sx n st).list ∧ Below W6.heap.size W6 wr) (fun _ i _ _ _ _ => 64 - (intOf i).toNat)
          case atStart => exact ⟨0, by omega, rfl, HL6.out, Below.refl _ _⟩
          case round =>
            clear HL6
            obtain ⟨n, hn, rfl, ho, hb⟩ := hrel
            by_cases hlt : n < 64
            ·--[3
              have hn64 : (n : Int) < 64 := by omega
              have hn0 : 0 ≤ (n : Int) := by omega
              obtain ⟨g, cap, rfl, hgB, hgl, hc1, hc2, hcell⟩ := WI.row ho (by omega)
              have HB := Lib.hid hb
              have ck := (hb.cell (p := ⟨gk, n, none⟩) hkl).trans (HKC.out n hlt)
              have cw := (hb.cell (p := ⟨gw, n, none⟩) hgw6).trans (HWC6.out n hlt)
              have HT : Hid (rounds Sx (n + 1) st = round (rounds Sx n st) (K.getD n 0) (Sx.getD n 0)) := rfl
              obtain ⟨k', hk'⟩ : ∃ k, K.getD n 0 = k := ⟨_, rfl⟩
              obtain ⟨x', hx'⟩ : ∃ x, Sx.getD n 0 = x := ⟨_, rfl⟩
              obtain ⟨T, hT'⟩ : ∃ T, rounds Sx n st = T := ⟨_, rfl⟩
              rw [hk'] at ck HT
              rw [hx'] at cw HT
              rw [hT'] at hcell HT
              have c0 : wr.cell? ⟨g, 0, none⟩ = some (.int .i64 (v32 T.a)) := hcell 0 (by omega)
              have c1 : wr.cell? ⟨g, 1, none⟩ = some (.int .i64 (v32 T.b)) := hcell 1 (by omega)
              have c2 : wr.cell? ⟨g, 2, none⟩ = some (.int .i64 (v32 T.c)) := hcell 2 (by omega)
              have c3 : wr.cell? ⟨g, 3, none⟩ = some (.int .i64 (v32 T.d)) := hcell 3 (by omega)
              have c4 : wr.cell? ⟨g, 4, none⟩ = some (.int .i64 (v32 T.e)) := hcell 4 (by omega)
              have c5 : wr.cell? ⟨g, 5, none⟩ = some (.int .i64 (v32 T.f)) := hcell 5 (by omega)
              have c6 : wr.cell? ⟨g, 6, none⟩ = some (.int .i64 (v32 T.g)) := hcell 6 (by omega)
              have c7 : wr.cell? ⟨g, 7, none⟩ = some (.int .i64 (v32 T.h)) := hcell 7 (by omega)
              clear hk' hx' hT' hcell ho hb
              obtain ⟨X, hX⟩ : ∃ X, T.h + (rotr T.e 6 ^^^ rotr T.e 11 ^^^ rotr T.e 25) + (T.e &&& T.f ^^^ ~~~T.e &&& T.g) + k' + x' = X := ⟨_, rfl⟩
              obtain ⟨Y, hY⟩ : ∃ Y, (rotr T.a 2 ^^^ rotr T.a 13 ^^^ rotr T.a 22) + (T.a &&& T.b ^^^ T.a &&& T.c ^^^ T.b &&& T.c) = Y := ⟨_, rfl⟩
              have HR := Lib.hid (round_eq T k' x' X Y hX hY)
              obtain ⟨s1, s2, s3, s4, d1, d2, d3, d4, hw1⟩ := word5 T.h (rotr T.e 6 ^^^ rotr T.e 11 ^^^ rotr T.e 25) (T.e &&& T.f ^^^ ~~~T.e &&& T.g) k' x'
              rw [hX] at hw1
              obtain ⟨s5, d5, hw2⟩ := word2 (rotr T.a 2 ^^^ rotr T.a 13 ^^^ rotr T.a 22) (T.a &&& T.b ^^^ T.a &&& T.c ^^^ T.b &&& T.c)
              rw [hY] at hw2
              obtain ⟨s6, d6, hw3⟩ := word2 X Y
              obtain ⟨s7, d7, hw4⟩ := word2 T.d X
              have HW1 := Lib.hid hw1; have HW2 := Lib.hid hw2; have HW3 := Lib.hid hw3; have HW4 := Lib.hid hw4
              have rx := jxor
              have rd := jand
              have rn : 4294967295 - v32 T.e = v32 (~~~T.e) := (not32 _).symm
              have rn2 : wrap64 (v32 (~~~T.e)) = v32 (~~~T.e) := wrap64_v32 _
              clear hX hY hw1 hw2 hw3 hw4
              go_wp2_with fail
              go_quiet ((first | (go_at_call 51; exact quiet_more (turn_lit _ _ (by decide) _)) | (go_at_call_has 52 (Value.int .i64 s4); exact quiet_left (HW1.out _))))
              go_wp2_with fail
              go_quiet ((first | (go_at_call 51; exact quiet_add (turn_lit _ _ (by decide) _)) | (go_at_call_has 52 (Value.int .i64 s5); exact quiet_add_left (HW2.out _))))
              go_wp2_with fail
              clear rx rd rn rn2 d1 d2 d3 d4 d5 HW1 HW2 ck cw c7
              go_region_held3 (fun w' => w'.cell? ⟨g, 0, none⟩ = some (.int .i64 (v32 T.a)) ∧ w'.cell? ⟨g, 1, none⟩ = some (.int .i64 (v32 T.b)) ∧ w'.cell? ⟨g, 2, none⟩ = some (.int .i64 (v32 T.c)) ∧ w'.cell? ⟨g, 3, none⟩ = some (.int .i64 (v32 T.d)) ∧ w'.cell? ⟨g, 4, none⟩ = some (.int .i64 (v32 T.e)) ∧ w'.cell? ⟨g, 5, none⟩ = some (.int .i64 (v32 T.f)) ∧ w'.cell? ⟨g, 6, none⟩ = some (.int .i64 (v32 T.g))) (go_keep)
                ((first
                  | (go_at_call_has 52 (Value.int .i64 s6); refine (HW3.out _).mono ?_; rintro e w2 ⟨rfl, rfl⟩)
                  | (go_at_call_has 52 (Value.int .i64 s7); refine (HW4.out _).mono ?_; rintro e w2 ⟨rfl, rfl⟩)))
              all_goals
                go_wp2_with fail
                go_roundw
                case rel =>
                  refine ⟨n + 1, by omega, by go_num, ?_, below_drewN (HB.out.alloc HB.out.size _) _⟩
                  rw [HT.out, HR.out]
                  exact WI.drewN (WI.made (n := 8) (l := St.list ⟨X + Y, T.a, T.b, T.c, T.d + X, T.e, T.f, T.g⟩) rfl (by omega) (heap_alloc_new wr _) (by have := HB6.out.size; have := HB.out.size; omega)) _
                case measure => simp [intOf]; omega
              --]3
            · have HL7 : Hid (WI wr w.heap.size u15 8 (rounds Sx 64 st).list) := Lib.hid (by
                have h := ho
                rw [show n = 64 by omega] at h
                exact h)
              have HB7 := Lib.hid hb
              have hnd : decide ((n : Int) < 64) = false := by simp; omega
              obtain ⟨T, hT⟩ : ∃ T, rounds Sx 64 st = T := ⟨_, rfl⟩
              have hcomp : (comp st (chunk bl t)).list = (st.add T).list := by rw [HC.out, hT]
              have HC2 := Lib.hid hcomp
              rw [hT] at HL7
              obtain ⟨g, cap, rfl, hgB, hgl, hc1, hc2, hcell⟩ := WI.row HL7.out (by omega)
              have HLC := Lib.hid hcell
              have HSC : Hid (∀ j, j < 8 → wr.cell? ⟨gs, j, none⟩ = some (.int .i64 (v32 (st.list.getD j 0)))) := Lib.hid fun j hj => ((HB6.out.trans (hb.mono HB6.out.size)).cell (p := ⟨gs, j, none⟩) hgs).trans (HCS.out j hj)
              have hgs7 : gs < wr.heap.size := Nat.lt_of_lt_of_le hgs (HB6.out.trans (hb.mono HB6.out.size)).size
              have HB8 : Hid (Below w.heap.size w wr) := Lib.hid (HB6.out.trans (hb.mono HB6.out.size))
              clear ho hb hT hcomp hcell HL7 HB7 HC HKC HWC6 HB6 hn hlt hkl
              go_wp2
              obtain ⟨wo, hwo⟩ : ∃ y, y = wr := ⟨_, rfl⟩
              rw [← hwo] at HLC HSC hgs7 HB8 hgl
              rw [← hwo]
              clear hwo
              go_loopw [21, 22] (fun v i wr => ∃ i' : Nat, i' ≤ 8 ∧ i = .int .i64 i' ∧ WI wr wo.heap.size v i' ((st.add T).list.take i') ∧ Below wo.heap.size wo wr) (fun _ i _ => 8 - (intOf i).toNat)
              case atStart => exact ⟨0, by omega, rfl, Own.nil _ _ _ _, Below.refl _ _⟩
              case round =>
                obtain ⟨i, hi, rfl, ho, hb⟩ := hrel
                have HO := Lib.hid ho
                have HB := Lib.hid hb
                by_cases hlt : i < 8
                · have c1 := (hb.cell (p := ⟨gs, i, none⟩) hgs7).trans (HSC.out i hlt)
                  have c2 := (hb.cell (p := ⟨g, i, none⟩) hgl).trans (HLC.out i hlt)
                  have HT : Hid ((st.add T).list.take (i + 1) = (st.add T).list.take i ++ [st.list.getD i 0 + T.list.getD i 0]) := by
                    show _ = _
                    rw [List.take_add_one, (add_list st T i hlt).1]; rfl
                  have x0 : 0 ≤ (i : Int) := by omega
                  have x1 : (i : Int) < 8 := by omega
                  obtain ⟨a, ha⟩ : ∃ a, st.list.getD i 0 = a := ⟨_, rfl⟩
                  obtain ⟨b, hb'⟩ : ∃ a, T.list.getD i 0 = a := ⟨_, rfl⟩
                  rw [ha] at c1 HT
                  rw [hb'] at c2 HT
                  obtain ⟨s, d1, hw⟩ := word2 a b
                  have HW := Lib.hid hw
                  obtain ⟨ev, hev⟩ : ∃ y, v32 (a + b) = y := ⟨_, rfl⟩
                  rw [hev] at HW
                  have HV : Hid (ev = v32 (a + b)) := Lib.hid hev.symm
                  clear ho hb ha hb' hw hev
                  go_wp2_with fail
                  go_region_held3 (fun w' => w'.cell? ⟨gs, i, none⟩ = some (.int .i64 (v32 a)) ∧ w'.cell? ⟨g, i, none⟩ = some (.int .i64 (v32 b))) (first | go_keep | (refine ⟨(hg1.cell hgs7).trans ?_, (hg1.cell hgl).trans ?_⟩ <;> go_keep))
                    ((first
                      | (go_at_call_has 52 (Value.int .i64 s); refine (HW.out _).mono ?_; rintro e w2 ⟨rfl, rfl⟩)
                      | (refine step_append_w1 (by rfl) _ _ (by rfl) wo.heap.size _ i _ (by rfl) ((HO.out.alloc _).drewN _) wr.heap.size ev _ HV (by rfl) (heap_alloc_new _ _) (by omega) (by have := HB.out.size; simp; omega) ?_; intro v1 w4 hown1 hg1 hk1)))
                  all_goals
                    have HWn : Hid (WI w4 wo.heap.size v1 (i + 1) ((st.add T).list.take (i + 1))) := Lib.hid (by rw [HT.out]; exact hown1)
                    have HBn : Hid (Below wo.heap.size wo w4) := Lib.hid ((below_drewN (HB.out.alloc HB.out.size (.cells #[.int .i64 ev] 3)) _).trans hg1)
                    clear hown1 hg1 hk1
                    go_wp2_with fail
                    go_roundw
                    case rel => exact ⟨i + 1, by omega, by go_num, HWn.out, HBn.out⟩
                    case measure => simp [intOf]; omega
                · have HF : Hid (WI wr wo.heap.size u21 8 (st.add T).list) := Lib.hid (by
                    have h := ho
                    rw [show i = 8 by omega] at h
                    exact h)
                  clear ho hb HO
                  go_wp2
                  go_ret
                  exact ⟨_, rfl, HC2.out ▸ Own.mono HF.out HB8.out.size, HB8.out.trans (HB.out.mono HB8.out.size)⟩
end Go.Proofs.YtmapodkdnbbjgaaDoor
