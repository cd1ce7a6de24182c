/- missiveref03.Sum: the walk. -/
import Derived.Test.YtmapodkdnbbjgaaDoorRefSum0
namespace Go.Proofs.YtmapodkdnbbjgaaDoor
open Go.RowKit Dg
set_option maxHeartbeats 2000000 in
theorem rsum_any (s : ByteArray) (w : World) (hs : s.size ≤ 1000000) :
    Calls Tryd.prog 32 #[.string s] w fun e w' => e = .returned (.string (bs (sumL s.data.toList))) ∧ Below w.heap.size w w' := by
  obtain ⟨W0, hW0⟩ : ∃ y, y = w.alloc (.cells (wcs iv.list).toArray 3) := ⟨_, rfl⟩
  have HW0 := Lib.hid hW0
  have hz0 : w.heap.size + 1 ≤ W0.heap.size := by rw [hW0]; simp
  have hwc : w.alloc (.cells #[.int .i64 1779033703, .int .i64 3144134277, .int .i64 1013904242, .int .i64 2773480762, .int .i64 1359893119, .int .i64 2600822924, .int .i64 528734635, .int .i64 1541459225] 3) = W0 := by rw [hW0]; rfl
  clear hW0
  have H128 : Hid ((128 : Int) = ((128 : UInt8).toNat : Int)) := Lib.hid rfl
  have H0 : Hid ((0 : Int) = ((0 : UInt8).toNat : Int)) := Lib.hid rfl
  go_enter Tryd.func32, Tryd.ntmps32
  go_wp2_with (first
    | ((with_reducible show wpList _ _ _ (Oper.mk (some 13) _ _ _ _ _ :: _) _ _); refine wpList_to_bytes rfl 9 50 5 _ rfl s rfl Tryd.underlying9 Tryd.underlying50 Tryd.underlying5 (by unfold maxLen; omega) (w.heap.size + 1) (by first | exact hz0 | simp) ?_; intro v0 w2 hown hb2 hv0; (try rw [hwc] at hb2); have HO2 := Lib.hid hown; have HB2 := Lib.hid hb2; clear hown hb2 hv0)
    | (at_builtin; refine wpList_append_b1 rfl _ _ rfl (w.heap.size + 1) v0 s.size s.data.toList rfl (Own.alloc HO2.out _) w2.heap.size 128 128 H128 rfl (heap_alloc_new w2 _) (by omega) (by have := HB2.out.size; simp; omega) ?_; intro v3 w3 ho3 hb3; have HO3 := Lib.hid ho3; have HB3 : Hid (Below (w.heap.size + 1) W0 w3) := Lib.hid ((((HB2.out.mono hz0).alloc (by have := HB2.out.size; omega) (.cells #[.int .u8 128] 5)).trans hb3)); clear ho3 hb3))
  go_loopw [4] (fun v wr => ∃ j : Nat, j ≤ zeros s.size ∧ OB wr (w.heap.size + 1) v (s.size + 1 + j) (s.data.toList ++ [128] ++ List.replicate j 0) ∧ Below (w.heap.size + 1) W0 wr) (fun v _ => s.size + 66 - (match v with | .slice _ n _ => n | _ => 0))
  case atStart => exact ⟨0, Nat.zero_le _, by simpa using HO3.out, HB3.out⟩
  case round =>
    obtain ⟨j, hj, ho, hb⟩ := hrel
    have hzl := zeros_le s.size
    obtain ⟨n, hn⟩ : ∃ n, s.size + 1 + j = n := ⟨_, rfl⟩
    rw [hn] at ho
    obtain ⟨p, c, rfl, hc, _⟩ := Own.shape' ho
    have HO := Lib.hid ho; have HB := Lib.hid hb; have HN := Lib.hid hn
    have hnl : n ≤ 1000066 := by omega
    clear ho hb hn
    by_cases h56 : n % 64 = 56
    · have h1 : ((n : Int) % 64 == 56) = true := by simp; omega
      have h2 : ((n : Int) % 64 != 56) = false := by simp; omega
      have hje : j = zeros s.size := by have := HN.out; unfold zeros at *; omega
      subst hje
      have H56 := Lib.hid h56
      clear h56 hj
      obtain ⟨L, hL⟩ : ∃ L, s.data.toList ++ [128] ++ List.replicate (zeros s.size) 0 = L := ⟨_, rfl⟩
      rw [hL] at HO
      have HL := Lib.hid hL
      obtain ⟨t, ht⟩ : ∃ t, 8 * s.size = t := ⟨_, rfl⟩
      have ht2 : 8 * (s.size : Int) = (t : Int) := by omega
      have htl : t ≤ 8000000 := by omega
      have HT := Lib.hid ht
      clear hL ht
      have HO1 := HO; have HB1 := HB
      clear HO HB
      go_wp2_with fail
      clear h2 h1
      go_loopw [4, 6] (fun v i wr => ∃ m : Nat, m ≤ 8 ∧ i = .int .i64 (7 - (m : Int)) ∧ OB wr (w.heap.size + 1) v (n + m) (L ++ (be64 t).take m) ∧ Below (w.heap.size + 1) W0 wr) (fun _ i _ => (intOf i + 1).toNat)
      case atStart => exact ⟨0, Nat.zero_le _, rfl, by simpa using HO1.out, HB1.out⟩
      case round =>
        obtain ⟨m, hm, rfl, ho, hb⟩ := hrel
        have HO := Lib.hid ho; have HB := Lib.hid hb
        clear ho hb
        obtain ⟨ii, hii⟩ : ∃ ii : Int, 7 - (m : Int) = ii := ⟨_, rfl⟩
        rw [hii]
        obtain ⟨z, hz⟩ : ∃ z : Int, ((t / 2 ^ (8 * (7 - m)) % 256 : Nat) : Int) = z := ⟨_, rfl⟩
        have HZ : Hid (z = ((UInt8.ofNat (t / 2 ^ (8 * (7 - m)))).toNat : Int)) := Lib.hid (by rw [← hz, UInt8.toNat_ofNat'])
        have hz0 : 0 ≤ z := by omega
        have hz1 : z < 256 := by omega
        have hmc : m = 0 ∨ m = 1 ∨ m = 2 ∨ m = 3 ∨ m = 4 ∨ m = 5 ∨ m = 6 ∨ m = 7 ∨ m = 8 := by omega
        rcases hmc with rfl | rfl | rfl | rfl | rfl | rfl | rfl | rfl | rfl
        · obtain rfl : ii = 7 := by omega
          have hand : bits .and .i64 ((t : Int) / 72057594037927936) 255 = z := by
            rw [← hz]
            have h := j64_and (t / 2 ^ 56) 255 (Nat.lt_of_le_of_lt (Nat.div_le_self _ _) (by omega)) (by decide)
            rw [show (255 : Nat) = 2 ^ 8 - 1 from rfl, Nat.and_two_pow_sub_one_eq_mod] at h
            simpa using h
          clear hz hii
          go_wp2_with (at_builtin; refine wpList_append_b1 rfl _ _ rfl (w.heap.size + 1) _ (n + 0) _ rfl (Own.alloc HO.out _) wr.heap.size z _ HZ rfl (heap_alloc_new wr _) (by omega) (by have := HB.out.size; simp; omega) ?_; intro v4 w4 ho4 hb4; have HO4 := Lib.hid ho4; have HB4 : Hid (Below (w.heap.size + 1) W0 w4) := Lib.hid (((HB.out.alloc (by have := HB.out.size; omega) (.cells #[.int .u8 z] 5)).trans hb4)); clear ho4 hb4)
          go_roundw
          case rel => exact ⟨1, by omega, by go_num, by rw [be64_take t 0 (by decide), ← List.append_assoc]; exact HO4.out, HB4.out⟩
          case measure => simp [intOf]
        · obtain rfl : ii = 6 := by omega
          have hand : bits .and .i64 ((t : Int) / 281474976710656) 255 = z := by
            rw [← hz]
            have h := j64_and (t / 2 ^ 48) 255 (Nat.lt_of_le_of_lt (Nat.div_le_self _ _) (by omega)) (by decide)
            rw [show (255 : Nat) = 2 ^ 8 - 1 from rfl, Nat.and_two_pow_sub_one_eq_mod] at h
            simpa using h
          clear hz hii
          go_wp2_with (at_builtin; refine wpList_append_b1 rfl _ _ rfl (w.heap.size + 1) _ (n + 1) _ rfl (Own.alloc HO.out _) wr.heap.size z _ HZ rfl (heap_alloc_new wr _) (by omega) (by have := HB.out.size; simp; omega) ?_; intro v4 w4 ho4 hb4; have HO4 := Lib.hid ho4; have HB4 : Hid (Below (w.heap.size + 1) W0 w4) := Lib.hid (((HB.out.alloc (by have := HB.out.size; omega) (.cells #[.int .u8 z] 5)).trans hb4)); clear ho4 hb4)
          go_roundw
          case rel => exact ⟨2, by omega, by go_num, by rw [be64_take t 1 (by decide), ← List.append_assoc]; exact HO4.out, HB4.out⟩
          case measure => simp [intOf]
        · obtain rfl : ii = 5 := by omega
          have hand : bits .and .i64 ((t : Int) / 1099511627776) 255 = z := by
            rw [← hz]
            have h := j64_and (t / 2 ^ 40) 255 (Nat.lt_of_le_of_lt (Nat.div_le_self _ _) (by omega)) (by decide)
            rw [show (255 : Nat) = 2 ^ 8 - 1 from rfl, Nat.and_two_pow_sub_one_eq_mod] at h
            simpa using h
          clear hz hii
          go_wp2_with (at_builtin; refine wpList_append_b1 rfl _ _ rfl (w.heap.size + 1) _ (n + 2) _ rfl (Own.alloc HO.out _) wr.heap.size z _ HZ rfl (heap_alloc_new wr _) (by omega) (by have := HB.out.size; simp; omega) ?_; intro v4 w4 ho4 hb4; have HO4 := Lib.hid ho4; have HB4 : Hid (Below (w.heap.size + 1) W0 w4) := Lib.hid (((HB.out.alloc (by have := HB.out.size; omega) (.cells #[.int .u8 z] 5)).trans hb4)); clear ho4 hb4)
          go_roundw
          case rel => exact ⟨3, by omega, by go_num, by rw [be64_take t 2 (by decide), ← List.append_assoc]; exact HO4.out, HB4.out⟩
          case measure => simp [intOf]
        · obtain rfl : ii = 4 := by omega
          have hand : bits .and .i64 ((t : Int) / 4294967296) 255 = z := by
            rw [← hz]
            have h := j64_and (t / 2 ^ 32) 255 (Nat.lt_of_le_of_lt (Nat.div_le_self _ _) (by omega)) (by decide)
            rw [show (255 : Nat) = 2 ^ 8 - 1 from rfl, Nat.and_two_pow_sub_one_eq_mod] at h
            simpa using h
          clear hz hii
          go_wp2_with (at_builtin; refine wpList_append_b1 rfl _ _ rfl (w.heap.size + 1) _ (n + 3) _ rfl (Own.alloc HO.out _) wr.heap.size z _ HZ rfl (heap_alloc_new wr _) (by omega) (by have := HB.out.size; simp; omega) ?_; intro v4 w4 ho4 hb4; have HO4 := Lib.hid ho4; have HB4 : Hid (Below (w.heap.size + 1) W0 w4) := Lib.hid (((HB.out.alloc (by have := HB.out.size; omega) (.cells #[.int .u8 z] 5)).trans hb4)); clear ho4 hb4)
          go_roundw
          case rel => exact ⟨4, by omega, by go_num, by rw [be64_take t 3 (by decide), ← List.append_assoc]; exact HO4.out, HB4.out⟩
          case measure => simp [intOf]
        · obtain rfl : ii = 3 := by omega
          have hand : bits .and .i64 ((t : Int) / 16777216) 255 = z := by
            rw [← hz]
            have h := j64_and (t / 2 ^ 24) 255 (Nat.lt_of_le_of_lt (Nat.div_le_self _ _) (by omega)) (by decide)
            rw [show (255 : Nat) = 2 ^ 8 - 1 from rfl, Nat.and_two_pow_sub_one_eq_mod] at h
            simpa using h
          clear hz hii
          go_wp2_with (at_builtin; refine wpList_append_b1 rfl _ _ rfl (w.heap.size + 1) _ (n + 4) _ rfl (Own.alloc HO.out _) wr.heap.size z _ HZ rfl (heap_alloc_new wr _) (by omega) (by have := HB.out.size; simp; omega) ?_; intro v4 w4 ho4 hb4; have HO4 := Lib.hid ho4; have HB4 : Hid (Below (w.heap.size + 1) W0 w4) := Lib.hid (((HB.out.alloc (by have := HB.out.size; omega) (.cells #[.int .u8 z] 5)).trans hb4)); clear ho4 hb4)
          go_roundw
          case rel => exact ⟨5, by omega, by go_num, by rw [be64_take t 4 (by decide), ← List.append_assoc]; exact HO4.out, HB4.out⟩
          case measure => simp [intOf]
        · obtain rfl : ii = 2 := by omega
          have hand : bits .and .i64 ((t : Int) / 65536) 255 = z := by
            rw [← hz]
            have h := j64_and (t / 2 ^ 16) 255 (Nat.lt_of_le_of_lt (Nat.div_le_self _ _) (by omega)) (by decide)
            rw [show (255 : Nat) = 2 ^ 8 - 1 from rfl, Nat.and_two_pow_sub_one_eq_mod] at h
            simpa using h
          clear hz hii
          go_wp2_with (at_builtin; refine wpList_append_b1 rfl _ _ rfl (w.heap.size + 1) _ (n + 5) _ rfl (Own.alloc HO.out _) wr.heap.size z _ HZ rfl (heap_alloc_new wr _) (by omega) (by have := HB.out.size; simp; omega) ?_; intro v4 w4 ho4 hb4; have HO4 := Lib.hid ho4; have HB4 : Hid (Below (w.heap.size + 1) W0 w4) := Lib.hid (((HB.out.alloc (by have := HB.out.size; omega) (.cells #[.int .u8 z] 5)).trans hb4)); clear ho4 hb4)
          go_roundw
          case rel => exact ⟨6, by omega, by go_num, by rw [be64_take t 5 (by decide), ← List.append_assoc]; exact HO4.out, HB4.out⟩
          case measure => simp [intOf]
        · obtain rfl : ii = 1 := by omega
          have hand : bits .and .i64 ((t : Int) / 256) 255 = z := by
            rw [← hz]
            have h := j64_and (t / 2 ^ 8) 255 (Nat.lt_of_le_of_lt (Nat.div_le_self _ _) (by omega)) (by decide)
            rw [show (255 : Nat) = 2 ^ 8 - 1 from rfl, Nat.and_two_pow_sub_one_eq_mod] at h
            simpa using h
          clear hz hii
          go_wp2_with (at_builtin; refine wpList_append_b1 rfl _ _ rfl (w.heap.size + 1) _ (n + 6) _ rfl (Own.alloc HO.out _) wr.heap.size z _ HZ rfl (heap_alloc_new wr _) (by omega) (by have := HB.out.size; simp; omega) ?_; intro v4 w4 ho4 hb4; have HO4 := Lib.hid ho4; have HB4 : Hid (Below (w.heap.size + 1) W0 w4) := Lib.hid (((HB.out.alloc (by have := HB.out.size; omega) (.cells #[.int .u8 z] 5)).trans hb4)); clear ho4 hb4)
          go_roundw
          case rel => exact ⟨7, by omega, by go_num, by rw [be64_take t 6 (by decide), ← List.append_assoc]; exact HO4.out, HB4.out⟩
          case measure => simp [intOf]
        · obtain rfl : ii = 0 := by omega
          have hand : bits .and .i64 (t : Int) 255 = z := by
            rw [← hz]
            have h := j64_and (t / 2 ^ 0) 255 (Nat.lt_of_le_of_lt (Nat.div_le_self _ _) (by omega)) (by decide)
            rw [show (255 : Nat) = 2 ^ 8 - 1 from rfl, Nat.and_two_pow_sub_one_eq_mod] at h
            simpa using h
          clear hz hii
          go_wp2_with (at_builtin; refine wpList_append_b1 rfl _ _ rfl (w.heap.size + 1) _ (n + 7) _ rfl (Own.alloc HO.out _) wr.heap.size z _ HZ rfl (heap_alloc_new wr _) (by omega) (by have := HB.out.size; simp; omega) ?_; intro v4 w4 ho4 hb4; have HO4 := Lib.hid ho4; have HB4 : Hid (Below (w.heap.size + 1) W0 w4) := Lib.hid (((HB.out.alloc (by have := HB.out.size; omega) (.cells #[.int .u8 z] 5)).trans hb4)); clear ho4 hb4)
          go_roundw
          case rel => exact ⟨8, by omega, by go_num, by rw [be64_take t 7 (by decide), ← List.append_assoc]; exact HO4.out, HB4.out⟩
          case measure => simp [intOf]
        · obtain rfl : ii = -1 := by omega
          clear hz hii HZ hz0 hz1 hm
          obtain ⟨N, hN⟩ : ∃ N, n + 8 = N := ⟨_, rfl⟩
          obtain ⟨P, hP⟩ : ∃ P, pad s.data.toList = P := ⟨_, rfl⟩
          have hPe : L ++ (be64 t).take 8 = P := by
            rw [← hP, ← HL.out, ← HT.out, List.take_of_length_le (by rw [be64_len]; omega)]; rfl
          rw [hN, hPe] at HO
          have hPl : P.length = N := OB.len HO.out
          obtain ⟨nb, hnb⟩ : ∃ nb, N / 64 = nb := ⟨_, rfl⟩
          have hN64 : N = 64 * nb := by have := H56.out; omega
          have hsum : sumL s.data.toList = (runP P nb).list.flatMap bytes4 := by
            unfold sumL; rw [hP, hPl, hnb, run_all]
          have HS := Lib.hid hsum
          have HN64 := Lib.hid hN64
          have hNl : N ≤ 1000100 := by omega
          have hN0 : 0 < N := by omega
          have HSt : Hid (WI W0 0 (.slice (some ⟨w.heap.size, 0, none⟩) 8 8) 8 iv.list) := Lib.hid (WI.made (n := 8) rfl (by omega) (by rw [HW0.out]; exact heap_alloc_new w _) (Nat.zero_le _))
          have HSt2 : Hid (WI wr 0 (.slice (some ⟨w.heap.size, 0, none⟩) 8 8) 8 iv.list) := Lib.hid (Own.kept HSt.out fun g hg hl => by
            simp only [Value.ownBlock, Option.some.injEq] at hg; subst hg
            exact HB.out.block _ (Nat.lt_succ_self _))
          have HBw : Hid (Below w.heap.size w wr) := Lib.hid ((HW0.out ▸ (Below.refl _ _).alloc (Nat.le_refl _) _ : Below w.heap.size w W0).trans (HB.out.mono (Nat.le_succ _)))
          clear hPe hPl hnb hsum hN64 hP hN HSt HL HT HO1 HB1 H56 HN HO3 HB3 HB
          obtain ⟨gb, cb, rfl, hgb1, hgbl, hcb1, hcb2, _⟩ := OB.row HO.out hN0
          have HOB : Hid (OB wr 0 (.slice (some ⟨gb, 0, none⟩) N cb) N P) := Lib.hid (Own.mono HO.out (Nat.zero_le _))
          clear HO hzl
          go_wp2
          obtain ⟨wo, hwo⟩ : ∃ y, y = wr := ⟨_, rfl⟩
          rw [← hwo] at HOB HSt2 hgbl HBw
          rw [← hwo]
          clear hwo
          go_loopw [3, 7] (fun v i wr => ∃ q : Nat, q ≤ nb ∧ i = .int .i64 (64 * q : Nat) ∧ WI wr 0 v 8 (runP P q).list ∧ Below wo.heap.size wo wr) (fun _ i _ => (N - (intOf i)).toNat)
          case atStart => exact ⟨0, Nat.zero_le _, rfl, HSt2.out, Below.refl _ _⟩
          case round =>
            clear HSt2
            obtain ⟨q, hq, rfl, ho, hb⟩ := hrel
            obtain ⟨at', hat⟩ : ∃ y, 64 * q = y := ⟨_, rfl⟩
            rw [hat]
            by_cases hlt : q < nb
            · have hl1 : at' < N := by have := HN64.out; omega
              have hl2 : at' + 64 ≤ N := by have := HN64.out; omega
              have HC := Lib.hid (rblock_any wr u3 (.slice (some ⟨gb, 0, none⟩) N cb) (runP P q) P N at' ho (Own.below HOB.out hb (Nat.le_refl _)) hl2 (by omega))
              have HR : Hid (runP P (q + 1) = comp (runP P q) (chunk P at')) := Lib.hid (by rw [← hat]; rfl)
              have HB := Lib.hid hb
              have HAT := Lib.hid hat
              clear ho hb hat
              go_wp2_with fail
              refine (HC.out).mono ?_
              rintro e w2 ⟨v3, rfl, ho3, hb3⟩
              have HO3 : Hid (WI w2 0 v3 8 (runP P (q + 1)).list) := Lib.hid (by rw [HR.out]; exact Own.mono ho3 (Nat.zero_le _))
              have HB3 : Hid (Below wo.heap.size wo w2) := Lib.hid (HB.out.trans (hb3.mono HB.out.size))
              clear ho3 hb3
              go_wp2_with fail
              go_roundw
              case rel => exact ⟨q + 1, by omega, by have := HAT.out; congr 1; omega, HO3.out, HB3.out⟩
              case measure => simp [intOf]; omega
            · have hqe : q = nb := by omega
              have hge : ¬ (at' < N) := by have := HN64.out; omega
              have HST : Hid (WI wr 0 u3 8 (runP P nb).list) := Lib.hid (by rw [← hqe]; exact ho)
              have HB := Lib.hid hb
              have hd : decide ((at' : Int) < (N : Int)) = false := by simp; omega
              clear ho hb hlt hq hqe hat
              obtain ⟨LS, hLS⟩ : ∃ l, (runP P nb).list = l := ⟨_, rfl⟩
              have hLl : LS.length = 8 := by rw [← hLS]; rfl
              rw [hLS] at HST HS
              have HLl := Lib.hid hLl
              clear hLS hLl
              obtain ⟨g, cap, rfl, _, hgl, hc1, hc2, hcell⟩ := WI.row HST.out (by omega)
              have HCL := Lib.hid hcell
              have HBw2 : Hid (Below w.heap.size w wr) := Lib.hid (HBw.out.trans (HB.out.mono HBw.out.size))
              clear hcell HB HST HBw HOB
              go_wp2
              obtain ⟨wq, hwq⟩ : ∃ y, y = wr := ⟨_, rfl⟩
              rw [← hwq] at HCL HBw2 hgl
              rw [← hwq]
              clear hwq
              go_loopw [8, 9, 10] (fun v i _ wr => ∃ k : Nat, k ≤ 8 ∧ i = .int .i64 k ∧ OB wr wq.heap.size v (4 * k) ((LS.take k).flatMap bytes4) ∧ Below wq.heap.size wq wr) (fun _ i _ _ => 8 - (intOf i).toNat)
              case atStart => exact ⟨0, Nat.zero_le _, rfl, Own.nil _ _ _ _, Below.refl _ _⟩
              case round =>
                obtain ⟨k, hk, rfl, ho, hb⟩ := hrel
                have HO := Lib.hid ho
                have HB := Lib.hid hb
                by_cases hlt : k < 8
                · have c1 := (hb.cell (p := ⟨g, k, none⟩) hgl).trans (HCL.out k hlt)
                  have HTk := Lib.hid (bytes4_take LS k (by rw [HLl.out]; exact hlt))
                  obtain ⟨x, hx⟩ : ∃ x, LS.getD k 0 = x := ⟨_, rfl⟩
                  rw [hx] at c1 HTk
                  obtain ⟨b1, b2, b3, b4, hb4, a1, a2, a3, a4⟩ := and4 x
                  rw [hb4] at HTk
                  obtain ⟨z1, hz1⟩ : ∃ z : Int, (b1.toNat : Int) = z := ⟨_, rfl⟩
                  obtain ⟨z2, hz2⟩ : ∃ z : Int, (b2.toNat : Int) = z := ⟨_, rfl⟩
                  obtain ⟨z3, hz3⟩ : ∃ z : Int, (b3.toNat : Int) = z := ⟨_, rfl⟩
                  obtain ⟨z4, hz4⟩ : ∃ z : Int, (b4.toNat : Int) = z := ⟨_, rfl⟩
                  have l1 := w8_lt b1; have l2 := w8_lt b2; have l3 := w8_lt b3; have l4 := w8_lt b4
                  rw [hz1] at a1
                  rw [hz2] at a2
                  rw [hz3] at a3
                  rw [hz4] at a4
                  have HZ : Hid (z1 = (b1.toNat : Int) ∧ z2 = (b2.toNat : Int) ∧ z3 = (b3.toNat : Int) ∧ z4 = (b4.toNat : Int)) := Lib.hid ⟨hz1.symm, hz2.symm, hz3.symm, hz4.symm⟩
                  have y1 : 0 ≤ z1 ∧ z1 < 256 := by omega
                  have y2 : 0 ≤ z2 ∧ z2 < 256 := by omega
                  have y3 : 0 ≤ z3 ∧ z3 < 256 := by omega
                  have y4 : 0 ≤ z4 ∧ z4 < 256 := by omega
                  obtain ⟨y1, y1'⟩ := y1
                  obtain ⟨y2, y2'⟩ := y2
                  obtain ⟨y3, y3'⟩ := y3
                  obtain ⟨y4, y4'⟩ := y4
                  clear ho hb hx hb4 hz1 hz2 hz3 hz4 l1 l2 l3 l4
                  go_wp2_with (at_builtin; refine wpList_append_b4 rfl _ _ rfl wq.heap.size _ (4 * k) _ rfl (Own.alloc HO.out _) wr.heap.size z1 z2 z3 z4 b1 b2 b3 b4 HZ rfl (heap_alloc_new wr _) (by omega) (by have := HB.out.size; simp; omega) ?_; intro v4 w4 ho4 hb4; have HO4 := Lib.hid ho4; have HB4 : Hid (Below wq.heap.size wq w4) := Lib.hid ((HB.out.alloc HB.out.size (.cells #[.int .u8 z1, .int .u8 z2, .int .u8 z3, .int .u8 z4] 5)).trans hb4); clear ho4 hb4)
                  go_roundw
                  case rel => exact ⟨k + 1, by omega, by go_num, by rw [HTk.out]; exact HO4.out, HB4.out⟩
                  case measure => simp [intOf]; omega
                · have ho' : OB wr wq.heap.size u8 32 (sumL s.data.toList) := by
                    have h := ho
                    rw [show k = 8 by omega, List.take_of_length_le (by rw [HLl.out]; omega), ← HS.out] at h
                    exact h
                  have hcv := Own.run_str ho' 50 9 Tryd.underlying50 Tryd.underlying5 Tryd.underlying9
                  clear ho hb HO ho'
                  go_wp2
                  go_ret
                  exact ⟨rfl, HBw2.out.trans (HB.out.mono HBw2.out.size)⟩
    · have h1 : ((n : Int) % 64 == 56) = false := by simp; omega
      have hj2 : j + 1 ≤ zeros s.size := by have := HN.out; have := zeros_ne s.size; unfold zeros at *; omega
      clear h56
      go_wp2_with (at_builtin; refine wpList_append_b1 rfl _ _ rfl (w.heap.size + 1) _ n _ rfl (Own.alloc HO.out _) wr.heap.size 0 0 H0 rfl (heap_alloc_new wr _) (by omega) (by have := HB.out.size; simp; omega) ?_; intro v4 w4 ho4 hb4; have HO4 := Lib.hid ho4; have HB4 : Hid (Below (w.heap.size + 1) W0 w4) := Lib.hid (((HB.out.alloc (by have := HB.out.size; omega) (.cells #[.int .u8 0] 5)).trans hb4)); obtain ⟨p4, c4, rfl, _, _⟩ := Own.shape' ho4; clear ho4 hb4)
      go_roundw
      case rel => exact ⟨j + 1, hj2, by have h := HO4.out; rw [List.append_assoc, ← List.replicate_succ'] at h; rw [show s.size + 1 + (j + 1) = n + 1 by have := HN.out; omega]; exact h, HB4.out⟩
      case measure => have := HN.out; simp; omega
end Go.Proofs.YtmapodkdnbbjgaaDoor
