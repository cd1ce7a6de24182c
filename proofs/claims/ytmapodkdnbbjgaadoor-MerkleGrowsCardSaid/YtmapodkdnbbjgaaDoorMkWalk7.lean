/- merkle.Check at any arguments; merkle.CheckGrown: the walks. -/
import Derived.Test.YtmapodkdnbbjgaaDoorMkWalk6
namespace Go.Proofs.YtmapodkdnbbjgaaDoor
open Go.RowKit Mk Sl
set_option maxRecDepth 100000 in
set_option maxHeartbeats 2000000 in
theorem check_any (rt x : ByteArray) (n i : Int) (p : List ByteArray) (vp : Value) (w : World) (hv : SV w vp p) (hl : p.length ≤ 1000) (hn : n ≤ 9223372036854775807) (hk : OKW w) :
    Calls Tryd.prog 22 #[.string rt, .int .i64 n, .int .i64 i, .string x, vp] w fun e w' => e = .returned (.bool (checkI rt n i x p)) ∧ Below w.heap.size w w' := by
  by_cases hi0 : i < 0
  · have e : checkI rt n i x p = false := by unfold checkI; rw [if_neg (by omega)]
    rw [e]
    clear e hv hk hn hl
    go_enter Tryd.func22, Tryd.ntmps22
    go_wp2
    go_ret
    exact ⟨rfl, Below.refl _ _⟩
  · by_cases hin : n ≤ i
    · have e : checkI rt n i x p = false := by unfold checkI; rw [if_neg (by omega)]
      rw [e]
      clear e hv hk hn hl
      go_enter Tryd.func22, Tryd.ntmps22
      go_wp2
      go_ret
      exact ⟨rfl, Below.refl _ _⟩
    · obtain ⟨I, rfl⟩ := Int.eq_ofNat_of_zero_le (show 0 ≤ i by omega)
      obtain ⟨N, rfl⟩ := Int.eq_ofNat_of_zero_le (show 0 ≤ n by omega)
      have e : checkI rt N I x p = check rt N I x p := by unfold checkI; rw [if_pos (by omega)]; simp
      have ec := check_prog rt N I x p (by omega)
      rw [e, ec]
      have hd1 : decide ((I : Int) < 0) = false := by simp
      have hd2 : decide (N ≤ I) = false := by simp; omega
      cases h1 : allH [rt, x] with
      | false =>
        have hf : (rt.size == 32 && x.size == 32 && allH p && (rights N I).length == p.length && decide (upF x p.reverse (rights N I) = rt)) = false := by
          rw [allH_two] at h1; rw [h1]; simp
        have HF := Lib.hid hf
        have HC1 : Hid (∀ W : World, Calls Tryd.prog 38 #[.slice (some ⟨W.heap.size, 0, none⟩) 2 2] (W.alloc (.cells #[.string rt, .string x] 9)) fun e w' => e = .returned (.bool false) ∧ (W.alloc (.cells #[.string rt, .string x] 9)) = w') := Lib.hid fun W => by
          have := hashes_any [rt, x] _ _ (two_lit (w := W) rt x); rw [h1] at this; exact this
        clear hf h1 e ec hv hk hn hl
        go_enter Tryd.func22, Tryd.ntmps22
        go_wp2_with fail
        refine (HC1.out _).mono ?_
        rintro e w1 ⟨rfl, rfl⟩
        go_wp2
        go_ret
        exact ⟨by rw [HF.out]; rfl, (Below.refl _ _).alloc (Nat.le_refl _) _⟩
      | true =>
        cases h2 : allH p with
        | false =>
          have hf : (rt.size == 32 && x.size == 32 && false && (rights N I).length == p.length && decide (upF x p.reverse (rights N I) = rt)) = false := by simp
          have HF := Lib.hid hf
          have HC1 : Hid (∀ W : World, Calls Tryd.prog 38 #[.slice (some ⟨W.heap.size, 0, none⟩) 2 2] (W.alloc (.cells #[.string rt, .string x] 9)) fun e w' => e = .returned (.bool true) ∧ (W.alloc (.cells #[.string rt, .string x] 9)) = w') := Lib.hid fun W => by
            have := hashes_any [rt, x] _ _ (two_lit (w := W) rt x); rw [h1] at this; exact this
          have HC2 : Hid (∀ W, Below w.heap.size w W → Calls Tryd.prog 38 #[vp] W fun e w' => e = .returned (.bool false) ∧ W = w') := Lib.hid fun W hW => by
            have := hashes_any p _ W (hv.below hW (Nat.le_refl _)); rw [h2] at this; exact this
          clear hf h1 h2 e ec hv hk hn hl
          go_enter Tryd.func22, Tryd.ntmps22
          go_wp2_with fail
          refine (HC1.out _).mono ?_
          rintro e w1 ⟨rfl, rfl⟩
          go_wp2_with fail
          refine (HC2.out _ ((Below.refl _ _).alloc (Nat.le_refl _) _)).mono ?_
          rintro e w1 ⟨rfl, rfl⟩
          go_wp2
          go_ret
          exact ⟨by rw [HF.out]; rfl, (Below.refl _ _).alloc (Nat.le_refl _) _⟩
        | true =>
          have hs : (rt.size == 32 && x.size == 32) = true := by rw [← allH_two]; exact h1
          refine (check_in rt x N I p vp w hv hl (by omega) (by omega) h1 h2 hk).mono ?_
          rintro e w' ⟨rfl, hb⟩
          exact ⟨by rw [hs]; simp, hb⟩
def checkGrownI (old : ByteArray) (m : Int) (rt : ByteArray) (n : Int) (p : List ByteArray) : Bool := if 0 ≤ m ∧ m ≤ n then checkGrown old m.toNat rt n.toNat p else false
/-- what the program computes of a growth -/
def cgP (old rt : ByteArray) (p : List ByteArray) (rs : List Bool) (wf : Bool) : Bool :=
  if wf then rs.length == p.length && (decide (upG old p.reverse rs = old) && decide (upF old p.reverse rs = rt))
  else match p with
    | [] => false
    | a :: p' => rs.length == p'.length && (decide (upG a p'.reverse rs = old) && decide (upF a p'.reverse rs = rt))
theorem upF_app (x : ByteArray) (q t : List ByteArray) : ∀ rs : List Bool, rs.length ≤ q.length → upF x (q ++ t) rs = upF x q rs := by
  induction q with
  | nil => intro rs h; cases rs with
    | nil => cases t <;> simp [upF]
    | cons r rs => simp at h
  | cons y q ih =>
    intro rs h
    cases rs with
    | nil => simp [upF]
    | cons r rs => simp only [List.cons_append, upF]; rw [ih rs (by simpa using h)]
theorem upG_app (x : ByteArray) (q t : List ByteArray) : ∀ rs : List Bool, rs.length ≤ q.length → upG x (q ++ t) rs = upG x q rs := by
  induction q with
  | nil => intro rs h; cases rs with
    | nil => cases t <;> simp [upG]
    | cons r rs => simp at h
  | cons y q ih =>
    intro rs h
    cases rs with
    | nil => simp [upG]
    | cons r rs => simp only [List.cons_append, upG]; rw [ih rs (by simpa using h)]
theorem grown_prog (old rt : ByteArray) (m n : Nat) (p : List ByteArray) (h1 : 1 ≤ m) (h2 : m ≤ n) :
    checkGrown old m rt n p = (old.size == 32 && rt.size == 32 && allH p && cgP old rt p (gright n m true).1 (gright n m true).2) := by
  obtain ⟨e1, e2⟩ := bothR_up p.reverse old m n true h1 h2
  unfold checkGrown
  rw [if_neg (by omega)]
  congr 1
  rw [e1]
  obtain ⟨rs, hrs⟩ : ∃ rs, (gright n m true).1 = rs := ⟨_, rfl⟩
  obtain ⟨wf, hwf⟩ : ∃ wf, (gright n m true).2 = wf := ⟨_, rfl⟩
  rw [hrs, hwf] at e1 e2
  rw [hrs, hwf]
  clear hrs hwf
  cases wf with
  | true =>
    simp only [cgP, if_true, Nat.add_zero, List.length_reverse] at *
    by_cases h : rs.length = p.length
    · obtain ⟨f1, f2⟩ := e2 h
      rw [f1, f2]; simp [endOf, Bool.and_assoc]
    · have hz : (rs.length == p.length) = false := by simpa using h
      rw [hz]; simp
  | false =>
    cases p with
    | nil => simp [cgP]
    | cons a p' =>
      simp only [cgP, List.length_reverse, List.length_cons] at *
      by_cases h : rs.length = p'.length
      · obtain ⟨f1, f2⟩ := e2 (by simp [h])
        rw [f1, f2]
        have ee : endOf old (a :: p').reverse false = a := by simp [endOf]
        rw [ee, List.reverse_cons, upG_app _ _ _ _ (by simp; omega), upF_app _ _ _ _ (by simp; omega)]
        simp [Bool.and_assoc, h]
      · have hz : (rs.length == p'.length) = false := by simpa using h
        rw [hz]
        have hz2 : (rs.length + 1 == p'.length + 1) = false := by simpa using h
        simp [hz2, h]

set_option maxRecDepth 100000 in
set_option maxHeartbeats 4000000 in
theorem grownck_in (old rt : ByteArray) (m n : Nat) (p : List ByteArray) (vp : Value) (w : World) (hv : SV w vp p) (hl : p.length ≤ 1000) (hn : n ≤ 9223372036854775807) (hm1 : 1 ≤ m) (hmn : m ≤ n)
    (h1 : allH [old, rt] = true) (h2 : allH p = true) (hk : OKW w) :
    Calls Tryd.prog 24 #[.string old, .int .i64 m, .string rt, .int .i64 n, vp] w fun e w' => e = .returned (.bool (cgP old rt p (gright n m true).1 (gright n m true).2)) ∧ Below w.heap.size w w' := by
  obtain ⟨q, cap, rfl, _, _⟩ := hv.shape
  have HV := Lib.hid hv
  have HK := Lib.hid hk
  have HPS : Hid (Short p 32) := Lib.hid fun s hs => by
    have := List.all_eq_true.1 h2 s hs; simp at this; omega
  have hxs : old.size = 32 := by rw [allH_two] at h1; simp at h1; exact h1.1
  have HXS := Lib.hid hxs
  obtain ⟨rs, hrs⟩ : ∃ rs, (gright n m true).1 = rs := ⟨_, rfl⟩
  obtain ⟨wf, hwf⟩ : ∃ rs, (gright n m true).2 = rs := ⟨_, rfl⟩
  have hrl : rs.length ≤ 63 := by rw [← hrs]; exact gright_len 63 n m true (Nat.le_trans hn (by decide))
  have HRS := Lib.hid hrs
  have HWF := Lib.hid hwf
  rw [hrs, hwf]
  obtain ⟨RES, hres⟩ : ∃ b, cgP old rt p rs wf = b := ⟨_, rfl⟩
  have HRES := Lib.hid hres
  rw [hres]
  have HC1 : Hid (∀ W : World, Calls Tryd.prog 38 #[.slice (some ⟨W.heap.size, 0, none⟩) 2 2] (W.alloc (.cells #[.string old, .string rt] 9)) fun e w' => e = .returned (.bool true) ∧ (W.alloc (.cells #[.string old, .string rt] 9)) = w') := Lib.hid fun W => by
    have := hashes_any [old, rt] _ _ (two_lit (w := W) old rt); rw [h1] at this; exact this
  have HC2 : Hid (∀ W, Below w.heap.size w W → Calls Tryd.prog 38 #[.slice q p.length cap] W fun e w' => e = .returned (.bool true) ∧ W = w') := Lib.hid fun W hW => by
    have := hashes_any p _ W (HV.out.below hW (Nat.le_refl _)); rw [h2] at this; exact this
  have hd1 : decide ((m : Int) < 0) = false := by simp
  have hd2 : decide (n < m) = false := by simp; omega
  have hd3 : ((m : Int) == 0) = false := by simp; omega
  obtain ⟨pl, hpl⟩ : ∃ m, p.length = m := ⟨_, rfl⟩
  have HPL := Lib.hid hpl
  have HN := Lib.hid hn
  rw [hpl] at HC2 hl
  rw [hpl]
  clear hv hk h1 h2 hxs hrs hwf hres hn hpl
  go_enter Tryd.func24, Tryd.ntmps24
  go_wp2_with fail
  refine (HC1.out _).mono ?_
  rintro e w1 ⟨rfl, rfl⟩
  go_wp2_with fail
  have HB1 : Hid (Below w.heap.size w (w.alloc (.cells #[.string old, .string rt] 9))) := Lib.hid ((Below.refl _ _).alloc (Nat.le_refl _) _)
  refine (HC2.out _ HB1.out).mono ?_
  rintro e w1 ⟨rfl, rfl⟩
  clear HC1 HC2
  go_wp2_with fail
  obtain ⟨W1, hW1⟩ : ∃ y, w.alloc (.cells #[.string old, .string rt] 9) = y := ⟨_, rfl⟩
  rw [hW1] at HB1 ⊢
  clear hW1
  go_loopw [1, 3, 11, 12, 13] (fun u1 u3 u11 u12 _ wr => ∃ (M N : Nat) (acc : List Bool) (wh : Bool), u1 = .int .i64 M ∧ u3 = .int .i64 N ∧ u12 = .bool wh ∧ 1 ≤ M ∧ M ≤ N ∧ N ≤ 9223372036854775807 ∧ BO wr w.heap.size u11 acc ∧ Hid (rs = acc ++ (gright N M wh).1 ∧ wf = (gright N M wh).2) ∧ Below w.heap.size w wr) (fun _ u3 _ _ _ _ => (intOf u3).toNat)
  case atStart => exact ⟨m, n, [], true, rfl, rfl, rfl, hm1, hmn, HN.out, Own.nil _ _ _ _, Lib.hid ⟨HRS.out.symm, HWF.out.symm⟩, HB1.out⟩
  case round =>
    clear HB1 hd1 hd2 hd3 HN hm1 hmn
    obtain ⟨M, N, acc, wh, rfl, rfl, rfl, hM1, hMN, hN, ho, hrsE, hb⟩ := hrel
    have HO := Lib.hid ho
    have HB := Lib.hid hb
    by_cases h3 : M < N
    · have h2 : 2 ≤ N := by omega
      have hlt := split_lt N h2
      have hpos := split_pos N
      have HSp := Lib.hid fun W => split_any N W h2 hN
      have hacc : acc.length + 1 ≤ 1000000 := by have := congrArg List.length hrsE.out.1; simp at this; omega
      by_cases hc : M ≤ split N
      · have HE : Hid (rs = (acc ++ [false]) ++ (gright (split N) M wh).1 ∧ wf = (gright (split N) M wh).2) := Lib.hid (by obtain ⟨g1, g2⟩ := hrsE.out; rw [gright_left N M wh h2 h3 hc] at g1 g2; exact ⟨by rw [g1]; simp, g2⟩)
        obtain ⟨k, hk'⟩ : ∃ k, split N = k := ⟨_, rfl⟩
        rw [hk'] at HE HSp hlt hpos hc
        have hd3 : decide (k < M) = false := by simp; omega
        clear hk' ho hb
        go_wp2_with fail
        refine (HSp.out _).mono ?_
        rintro e w1 ⟨rfl, rfl⟩
        go_wp2_with (at_builtin; refine wpList_append_bool rfl _ _ rfl w.heap.size _ acc rfl (HO.out.alloc _) wr.heap.size false rfl (heap_alloc_new wr _) hacc (by have := HB.out.size; simp; omega) ?_; intro v4 w4 ho4 hb4; have HO4 := Lib.hid ho4; have HB4 : Hid (Below w.heap.size w w4) := Lib.hid ((HB.out.alloc HB.out.size _).trans hb4); clear ho4 hb4)
        go_roundw
        case rel => exact ⟨M, k, _, wh, rfl, rfl, rfl, hM1, hc, by omega, HO4.out, HE, HB4.out⟩
        case measure => simp [intOf]; omega
      · have HE : Hid (rs = (acc ++ [true]) ++ (gright (N - split N) (M - split N) false).1 ∧ wf = (gright (N - split N) (M - split N) false).2) := Lib.hid (by obtain ⟨g1, g2⟩ := hrsE.out; rw [gright_right N M wh h2 h3 hc] at g1 g2; exact ⟨by rw [g1]; simp, g2⟩)
        obtain ⟨k, hk'⟩ : ∃ k, split N = k := ⟨_, rfl⟩
        rw [hk'] at HE HSp hlt hpos hc
        have hd3 : decide (k < M) = true := by simp; omega
        have hs1 : (N : Int) - (k : Int) = ((N - k : Nat) : Int) := by omega
        have hs2 : (M : Int) - (k : Int) = ((M - k : Nat) : Int) := by omega
        clear hk' ho hb
        go_wp2_with fail
        refine (HSp.out _).mono ?_
        rintro e w1 ⟨rfl, rfl⟩
        go_wp2_with (at_builtin; refine wpList_append_bool rfl _ _ rfl w.heap.size _ acc rfl (HO.out.alloc _) wr.heap.size true rfl (heap_alloc_new wr _) hacc (by have := HB.out.size; simp; omega) ?_; intro v4 w4 ho4 hb4; have HO4 := Lib.hid ho4; have HB4 : Hid (Below w.heap.size w w4) := Lib.hid ((HB.out.alloc HB.out.size _).trans hb4); clear ho4 hb4)
        go_roundw
        case rel => exact ⟨M - k, N - k, _, false, rfl, rfl, rfl, by omega, by omega, by omega, HO4.out, HE, HB4.out⟩
        case measure => simp [intOf]; omega
    · have hge : gright N M wh = ([], wh) := gright_end N M wh (.inr (by omega))
      have hre : rs = acc := by rw [hrsE.out.1, hge, List.append_nil]
      have hwe : wf = wh := by rw [hrsE.out.2, hge]
      subst hre
      subst hwe
      have hNd : decide (M < N) = false := by simp; omega
      obtain ⟨pz, cz, rfl, _, _⟩ := ho.shape
      clear hb hrsE hM1 hMN hN HRS HWF HO h3 hge
      have HO := Lib.hid ho

      cases wf with
      | true =>
        have HRE : Hid (RES = (rs.length == p.length && (decide (upG old p.reverse rs = old) && decide (upF old p.reverse rs = rt)))) := Lib.hid (by rw [← HRES.out]; rfl)
        by_cases hlm : rs.length = pl
        · have hbm : ((pl : Int) != (pl : Int)) = false := by simp
          have HLM := Lib.hid hlm
          rw [hlm] at HO ⊢
          clear ho hlm
          go_wp2_with fail
          obtain ⟨wo, hwo⟩ : ∃ y, y = wr := ⟨_, rfl⟩
          rw [← hwo] at HO HB
          rw [← hwo]
          clear hwo hbm
          obtain ⟨PA, hPA⟩ : ∃ f : Nat → ByteArray, f = fun j => upG old (p.reverse.drop (pl - j)) (rs.drop (pl - j)) := ⟨_, rfl⟩
          obtain ⟨PB, hPB⟩ : ∃ f : Nat → ByteArray, f = fun j => upF old (p.reverse.drop (pl - j)) (rs.drop (pl - j)) := ⟨_, rfl⟩
          have h0 : PA 0 = old ∧ PB 0 = old := by
            rw [hPA, hPB]; have := up_nil old p rs; rw [HPL.out] at this; exact ⟨this.2, this.1⟩
          have hE : PA pl = upG old p.reverse rs ∧ PB pl = upF old p.reverse rs := by rw [hPA, hPB]; simp
          have hstA : ∀ j, j < pl → PA (j + 1) = if rs.getD (pl - 1 - j) false then join (p.getD j ⟨#[]⟩) (PA j) else PA j := fun j hj => by
            rw [hPA]
            have := upG_step old p rs (by rw [HLM.out, HPL.out]) j (by rw [HPL.out]; exact hj)
            rw [HPL.out] at this; exact this
          have hstB : ∀ j, j < pl → PB (j + 1) = if rs.getD (pl - 1 - j) false then join (p.getD j ⟨#[]⟩) (PB j) else join (PB j) (p.getD j ⟨#[]⟩) := fun j hj => by
            rw [hPB]
            have := upF_step old p rs (by rw [HLM.out, HPL.out]) j (by rw [HPL.out]; exact hj)
            rw [HPL.out] at this; exact this
          have hszA : ∀ j, (PA j).size ≤ 100000 := fun j => by rw [hPA]; exact upG_size old 100000 (by rw [HXS.out]; omega) (by omega) _ _
          have hszB : ∀ j, (PB j).size ≤ 100000 := fun j => by rw [hPB]; exact upF_size old 100000 (by rw [HXS.out]; omega) (by omega) _ _
          have H0 := Lib.hid h0; have HEn := Lib.hid hE; have HSTA := Lib.hid hstA; have HSTB := Lib.hid hstB; have HSZA := Lib.hid hszA; have HSZB := Lib.hid hszB
          clear h0 hE hstA hstB hszA hszB hPA hPB
          go_loopw [87, 16, 17, 14, 15] (fun u87 _ _ u14 u15 wr => ∃ j : Nat, j ≤ pl ∧ u87 = .int .i64 j ∧ u14 = .string (PA j) ∧ u15 = .string (PB j) ∧ Below wo.heap.size wo wr) (fun u87 _ _ _ _ _ => pl - (intOf u87).toNat)
          case atStart => exact ⟨0, Nat.zero_le _, rfl, by rw [H0.out.1], by rw [H0.out.2], Below.refl _ _⟩
          case round =>
            obtain ⟨j, hj, rfl, rfl, rfl, hb⟩ := hrel
            by_cases hjm : j < pl
            · obtain ⟨g, o, c, hpv, hg, _, _, hcp⟩ := HV.out.row (by rw [HPL.out]; omega)
              simp only [Value.slice.injEq] at hpv
              obtain ⟨rfl, -, rfl⟩ := hpv
              have HBw : Hid (Below w.heap.size w wr) := Lib.hid (HB.out.trans (hb.mono HB.out.size))
              have c0 := (HBw.out.cell (p := ⟨g, o + j, none⟩) hg).trans (hcp j (by rw [HPL.out]; exact hjm))
              obtain ⟨g2, c2, hpv, hg2, _, _, hcb⟩ := BO.row HO.out (by rw [HLM.out]; omega)
              simp only [Value.slice.injEq] at hpv
              obtain ⟨rfl, -, rfl⟩ := hpv
              obtain ⟨t, ht⟩ : ∃ t, pl - 1 - j = t := ⟨_, rfl⟩
              have d0 := (hb.cell (p := ⟨g2, t, none⟩) hg2).trans (hcb t (by rw [HLM.out]; omega))
              have hSA := HSTA.out j hjm
              have hSB := HSTB.out j hjm
              rw [ht] at hSA hSB
              have hti : (pl : Int) - 1 - (j : Int) = (t : Int) := by omega
              have htm : t < pl := by omega
              have hys : (p.getD j ⟨#[]⟩).size ≤ 100000 := Nat.le_trans (HPS.out.get j) (by omega)
              have hpsA := HSZA.out j
              have hpsB := HSZB.out j
              obtain ⟨y, hy⟩ : ∃ y, p.getD j ⟨#[]⟩ = y := ⟨_, rfl⟩
              obtain ⟨r, hr⟩ : ∃ r, rs.getD t false = r := ⟨_, rfl⟩
              obtain ⟨LA, hLA⟩ : ∃ y, PA j = y := ⟨_, rfl⟩
              obtain ⟨LB, hLB⟩ : ∃ y, PB j = y := ⟨_, rfl⟩
              rw [hy] at c0 hSA hSB hys
              rw [hr] at d0 hSA hSB
              rw [hLA] at hSA hpsA ⊢
              rw [hLB] at hSB hpsB ⊢
              have HBr := Lib.hid hb
              have hkr : OKW wr := HK.out.below HBw.out
              cases r with
              | true =>
                have HSA : Hid (PA (j + 1) = join y LA) := Lib.hid (by rw [hSA]; rfl)
                have HSB : Hid (PB (j + 1) = join y LB) := Lib.hid (by rw [hSB]; rfl)
                have HJ := Lib.hid (join_any y LA wr hys hpsA hkr)
                have HJ2 : Hid (∀ W, Below wr.heap.size wr W → Calls Tryd.prog 13 #[.string y, .string LB] W fun e w' => e = .returned (.string (join y LB)) ∧ Below W.heap.size W w') := Lib.hid fun W hW => join_any y LB W hys hpsB (hkr.below hW)
                clear hcp hcb ht hSA hSB hys hpsA hpsB hy hr hLA hLB hb hkr
                go_wp2_with fail
                refine HJ.out.mono ?_
                rintro e w1 ⟨rfl, b1⟩
                have HB1 := Lib.hid b1
                clear b1
                go_wp2_with fail
                refine (HJ2.out _ HB1.out).mono ?_
                rintro e w2 ⟨rfl, b2⟩
                have HB2 : Hid (Below wo.heap.size wo w2) := Lib.hid ((HBr.out.trans (HB1.out.mono HBr.out.size)).trans (b2.mono (Nat.le_trans HBr.out.size HB1.out.size)))
                clear b2
                go_wp2_with fail
                go_roundw
                case rel => exact ⟨j + 1, by omega, by go_num, by rw [HSA.out], by rw [HSB.out], HB2.out⟩
                case measure => simp [intOf]; omega
              | false =>
                have HSA : Hid (PA (j + 1) = LA) := Lib.hid (by rw [hSA]; rfl)
                have HSB : Hid (PB (j + 1) = join LB y) := Lib.hid (by rw [hSB]; rfl)
                have HJ := Lib.hid (join_any LB y wr hpsB hys hkr)
                clear hcp hcb ht hSA hSB hys hpsA hpsB hy hr hLA hLB hb hkr
                go_wp2_with fail
                refine HJ.out.mono ?_
                rintro e w1 ⟨rfl, b1⟩
                have HB1 : Hid (Below wo.heap.size wo w1) := Lib.hid (HBr.out.trans (b1.mono HBr.out.size))
                clear b1
                go_wp2_with fail
                go_roundw
                case rel => exact ⟨j + 1, by omega, by go_num, by rw [HSA.out], by rw [HSB.out], HB1.out⟩
                case measure => simp [intOf]; omega
            · have hjm' : j = pl := by omega
              have hRr : RES = (decide (PA j = old) && decide (PB j = rt)) := by
                rw [HRE.out, hjm', HEn.out.1, HEn.out.2, HLM.out, HPL.out]; simp
              have HRr := Lib.hid hRr
              have HBe : Hid (Below w.heap.size w wr) := Lib.hid (HB.out.trans (hb.mono HB.out.size))
              obtain ⟨LA, hLA⟩ : ∃ y, PA j = y := ⟨_, rfl⟩
              obtain ⟨LB, hLB⟩ : ∃ y, PB j = y := ⟨_, rfl⟩
              rw [hLA, hLB] at HRr
              rw [hLA, hLB]
              clear hb hLA hLB hjm' hRr
              by_cases he : LA.toList = old.toList
              · have hbb : (LA.toList == old.toList) = true := by simp [he]
                have hee : LA = old := str_ext he
                have HR2 : Hid (RES = decide (LB = rt)) := Lib.hid (by rw [HRr.out, hee]; simp)
                clear hee he
                by_cases hf : LB.toList = rt.toList
                · have hb2 : (LB.toList == rt.toList) = true := by simp [hf]
                  have HR3 : Hid (RES = true) := Lib.hid (by rw [HR2.out]; exact decide_eq_true (str_ext hf))
                  clear hf
                  go_wp2
                  go_ret
                  exact ⟨by rw [HR3.out]; rfl, HBe.out⟩
                · have hb2 : (LB.toList == rt.toList) = false := by simp [hf]
                  have HR3 : Hid (RES = false) := Lib.hid (by rw [HR2.out]; exact decide_eq_false fun h => hf (by rw [h]))
                  clear hf
                  go_wp2
                  go_ret
                  exact ⟨by rw [HR3.out]; rfl, HBe.out⟩
              · have hbb : (LA.toList == old.toList) = false := by simp [he]
                have HR3 : Hid (RES = false) := Lib.hid (by rw [HRr.out, decide_eq_false fun h => he (by rw [h])]; rfl)
                clear he
                go_wp2
                go_ret
                exact ⟨by rw [HR3.out]; rfl, HBe.out⟩
        · have hbm : ((rs.length : Int) != (pl : Int)) = true := by rw [bne_iff_ne]; omega
          have HR2 : Hid (RES = false) := Lib.hid (by
            have hz : (rs.length == pl) = false := by simpa using hlm
            rw [HRE.out, HPL.out, hz]; rfl)
          clear ho hlm
          go_wp2
          go_ret
          exact ⟨by rw [HR2.out]; rfl, HB.out⟩
      | false =>
        rcases Nat.eq_zero_or_pos pl with h0 | h0
        · have HRE : Hid (RES = false) := Lib.hid (by
            rw [← HRES.out]
            have : p = [] := List.length_eq_zero_iff.1 (by rw [HPL.out]; exact h0)
            rw [this]; rfl)
          have hz0 : ((pl : Int) == 0) = true := by simp; omega
          clear ho HO
          go_wp2
          go_ret
          exact ⟨by rw [HRE.out]; rfl, HB.out⟩
        · have hz0 : ((pl : Int) == 0) = false := by simp; omega
          obtain ⟨a0, p', hpp⟩ : ∃ a p', p = a :: p' := by
            cases p with
            | nil => have := HPL.out; simp at this; omega
            | cons a p' => exact ⟨a, p', rfl⟩
          subst hpp
          obtain ⟨p1, c1, hs1, hv1⟩ := HV.out.from 1 (by simp)
          obtain ⟨g, o, c, hpv, hg, _, _, hcp⟩ := HV.out.row (by simp)
          simp only [Value.slice.injEq] at hpv
          obtain ⟨rfl, -, rfl⟩ := hpv
          have c0 := (HB.out.cell (p := ⟨g, o + 0, none⟩) hg).trans (hcp 0 (by simp))
          rw [show (a0 :: p').getD 0 ⟨#[]⟩ = a0 from rfl, Nat.add_zero] at c0
          have HRE : Hid (RES = (rs.length == p'.length && (decide (upG a0 p'.reverse rs = old) && decide (upF a0 p'.reverse rs = rt)))) := Lib.hid (by rw [← HRES.out]; rfl)
          have ha0 : a0.size ≤ 100000 := Nat.le_trans (HPS.out a0 (by simp)) (by omega)
          have HPS' : Hid (Short p' 32) := Lib.hid fun s hs => HPS.out s (by simp [hs])
          obtain ⟨pk, hpk⟩ : ∃ k, p'.length = k := ⟨_, rfl⟩
          have hplk : pl = pk + 1 := by have := HPL.out; simp at this; omega
          have HPK := Lib.hid hpk
          rw [show (a0 :: p').drop 1 = p' from rfl, show (a0 :: p').length - 1 = pk by rw [List.length_cons]; omega] at hv1
          rw [show (a0 :: p').length - 1 = pk by rw [List.length_cons]; omega, HPL.out, show (((1 : Nat) : Int)) = 1 from rfl] at hs1
          have HV1 := Lib.hid hv1
          have HPLK := Lib.hid hplk
          have hk1 : pk + 1 ≤ 1000 := by omega
          clear hv1 hcp hpk hplk
          have hpl1 : (0 : Int) < (pl : Int) := by omega
          have HA0 := Lib.hid ha0
          clear ha0 h0
          by_cases hlm : rs.length = pk
          · have hbm : ((pk : Int) != (pk : Int)) = false := by simp
            have HLM := Lib.hid hlm
            rw [hlm] at HO ⊢
            clear ho hlm
            go_wp2_with fail
            go_quiet (fail)
            go_wp2_with fail
            have HB : Hid (Below w.heap.size w (wr.drewN nq)) := Lib.hid (below_drewN HB.out nq)
            have HO : Hid (BO (wr.drewN nq) w.heap.size (.slice pz pk cz) rs) := Lib.hid (Own.drewN HO.out nq)
            obtain ⟨wo, hwo⟩ : ∃ y, y = wr.drewN nq := ⟨_, rfl⟩
            rw [← hwo] at HO HB
            rw [← hwo]
            clear hwo hbm
            obtain ⟨PA, hPA⟩ : ∃ f : Nat → ByteArray, f = fun j => upG a0 (p'.reverse.drop (pk - j)) (rs.drop (pk - j)) := ⟨_, rfl⟩
            obtain ⟨PB, hPB⟩ : ∃ f : Nat → ByteArray, f = fun j => upF a0 (p'.reverse.drop (pk - j)) (rs.drop (pk - j)) := ⟨_, rfl⟩
            have h0 : PA 0 = a0 ∧ PB 0 = a0 := by
              rw [hPA, hPB]; have := up_nil a0 p' rs; rw [HPK.out] at this; exact ⟨this.2, this.1⟩
            have hE : PA pk = upG a0 p'.reverse rs ∧ PB pk = upF a0 p'.reverse rs := by rw [hPA, hPB]; simp
            have hstA : ∀ j, j < pk → PA (j + 1) = if rs.getD (pk - 1 - j) false then join (p'.getD j ⟨#[]⟩) (PA j) else PA j := fun j hj => by
              rw [hPA]
              have := upG_step a0 p' rs (by rw [HLM.out, HPK.out]) j (by rw [HPK.out]; exact hj)
              rw [HPK.out] at this; exact this
            have hstB : ∀ j, j < pk → PB (j + 1) = if rs.getD (pk - 1 - j) false then join (p'.getD j ⟨#[]⟩) (PB j) else join (PB j) (p'.getD j ⟨#[]⟩) := fun j hj => by
              rw [hPB]
              have := upF_step a0 p' rs (by rw [HLM.out, HPK.out]) j (by rw [HPK.out]; exact hj)
              rw [HPK.out] at this; exact this
            have hszA : ∀ j, (PA j).size ≤ 100000 := fun j => by rw [hPA]; exact upG_size a0 100000 HA0.out (by omega) _ _
            have hszB : ∀ j, (PB j).size ≤ 100000 := fun j => by rw [hPB]; exact upF_size a0 100000 HA0.out (by omega) _ _
            have H0 := Lib.hid h0; have HEn := Lib.hid hE; have HSTA := Lib.hid hstA; have HSTB := Lib.hid hstB; have HSZA := Lib.hid hszA; have HSZB := Lib.hid hszB
            clear h0 hE hstA hstB hszA hszB hPA hPB
            go_loopw [87, 16, 17, 14, 15] (fun u87 _ _ u14 u15 wr => ∃ j : Nat, j ≤ pk ∧ u87 = .int .i64 j ∧ u14 = .string (PA j) ∧ u15 = .string (PB j) ∧ Below wo.heap.size wo wr) (fun u87 _ _ _ _ _ => pk - (intOf u87).toNat)
            case atStart => exact ⟨0, Nat.zero_le _, rfl, by rw [H0.out.1], by rw [H0.out.2], Below.refl _ _⟩
            case round =>
              obtain ⟨j, hj, rfl, rfl, rfl, hb⟩ := hrel
              by_cases hjm : j < pk
              · obtain ⟨g, o, c, hpv, hg, _, _, hcp⟩ := HV1.out.row (by rw [HPK.out]; omega)
                simp only [Value.slice.injEq] at hpv
                obtain ⟨rfl, -, rfl⟩ := hpv
                have HBw : Hid (Below w.heap.size w wr) := Lib.hid (HB.out.trans (hb.mono HB.out.size))
                have c0 := (HBw.out.cell (p := ⟨g, o + j, none⟩) hg).trans (hcp j (by rw [HPK.out]; exact hjm))
                obtain ⟨g2, c2, hpv, hg2, _, _, hcb⟩ := BO.row HO.out (by rw [HLM.out]; omega)
                simp only [Value.slice.injEq] at hpv
                obtain ⟨rfl, -, rfl⟩ := hpv
                obtain ⟨t, ht⟩ : ∃ t, pk - 1 - j = t := ⟨_, rfl⟩
                have d0 := (hb.cell (p := ⟨g2, t, none⟩) hg2).trans (hcb t (by rw [HLM.out]; omega))
                have hSA := HSTA.out j hjm
                have hSB := HSTB.out j hjm
                rw [ht] at hSA hSB
                have hti : (pk : Int) - 1 - (j : Int) = (t : Int) := by omega
                have htm : t < pk := by omega
                have hys : (p'.getD j ⟨#[]⟩).size ≤ 100000 := Nat.le_trans (HPS'.out.get j) (by omega)
                have hpsA := HSZA.out j
                have hpsB := HSZB.out j
                obtain ⟨y, hy⟩ : ∃ y, p'.getD j ⟨#[]⟩ = y := ⟨_, rfl⟩
                obtain ⟨r, hr⟩ : ∃ r, rs.getD t false = r := ⟨_, rfl⟩
                obtain ⟨LA, hLA⟩ : ∃ y, PA j = y := ⟨_, rfl⟩
                obtain ⟨LB, hLB⟩ : ∃ y, PB j = y := ⟨_, rfl⟩
                rw [hy] at c0 hSA hSB hys
                rw [hr] at d0 hSA hSB
                rw [hLA] at hSA hpsA ⊢
                rw [hLB] at hSB hpsB ⊢
                have HBr := Lib.hid hb
                have hkr : OKW wr := HK.out.below HBw.out
                cases r with
                | true =>
                  have HSA : Hid (PA (j + 1) = join y LA) := Lib.hid (by rw [hSA]; rfl)
                  have HSB : Hid (PB (j + 1) = join y LB) := Lib.hid (by rw [hSB]; rfl)
                  have HJ := Lib.hid (join_any y LA wr hys hpsA hkr)
                  have HJ2 : Hid (∀ W, Below wr.heap.size wr W → Calls Tryd.prog 13 #[.string y, .string LB] W fun e w' => e = .returned (.string (join y LB)) ∧ Below W.heap.size W w') := Lib.hid fun W hW => join_any y LB W hys hpsB (hkr.below hW)
                  clear hcp hcb ht hSA hSB hys hpsA hpsB hy hr hLA hLB hb hkr
                  go_wp2_with fail
                  refine HJ.out.mono ?_
                  rintro e w1 ⟨rfl, b1⟩
                  have HB1 := Lib.hid b1
                  clear b1
                  go_wp2_with fail
                  refine (HJ2.out _ HB1.out).mono ?_
                  rintro e w2 ⟨rfl, b2⟩
                  have HB2 : Hid (Below wo.heap.size wo w2) := Lib.hid ((HBr.out.trans (HB1.out.mono HBr.out.size)).trans (b2.mono (Nat.le_trans HBr.out.size HB1.out.size)))
                  clear b2
                  go_wp2_with fail
                  go_roundw
                  case rel => exact ⟨j + 1, by omega, by go_num, by rw [HSA.out], by rw [HSB.out], HB2.out⟩
                  case measure => simp [intOf]; omega
                | false =>
                  have HSA : Hid (PA (j + 1) = LA) := Lib.hid (by rw [hSA]; rfl)
                  have HSB : Hid (PB (j + 1) = join LB y) := Lib.hid (by rw [hSB]; rfl)
                  have HJ := Lib.hid (join_any LB y wr hpsB hys hkr)
                  clear hcp hcb ht hSA hSB hys hpsA hpsB hy hr hLA hLB hb hkr
                  go_wp2_with fail
                  refine HJ.out.mono ?_
                  rintro e w1 ⟨rfl, b1⟩
                  have HB1 : Hid (Below wo.heap.size wo w1) := Lib.hid (HBr.out.trans (b1.mono HBr.out.size))
                  clear b1
                  go_wp2_with fail
                  go_roundw
                  case rel => exact ⟨j + 1, by omega, by go_num, by rw [HSA.out], by rw [HSB.out], HB1.out⟩
                  case measure => simp [intOf]; omega
              · have hjm' : j = pk := by omega
                have hRr : RES = (decide (PA j = old) && decide (PB j = rt)) := by
                  rw [HRE.out, hjm', HEn.out.1, HEn.out.2, HLM.out, HPK.out]; simp
                have HRr := Lib.hid hRr
                have HBe : Hid (Below w.heap.size w wr) := Lib.hid (HB.out.trans (hb.mono HB.out.size))
                obtain ⟨LA, hLA⟩ : ∃ y, PA j = y := ⟨_, rfl⟩
                obtain ⟨LB, hLB⟩ : ∃ y, PB j = y := ⟨_, rfl⟩
                rw [hLA, hLB] at HRr
                rw [hLA, hLB]
                clear hb hLA hLB hjm' hRr
                by_cases he : LA.toList = old.toList
                · have hbb : (LA.toList == old.toList) = true := by simp [he]
                  have hee : LA = old := str_ext he
                  have HR2 : Hid (RES = decide (LB = rt)) := Lib.hid (by rw [HRr.out, hee]; simp)
                  clear hee he
                  by_cases hf : LB.toList = rt.toList
                  · have hb2 : (LB.toList == rt.toList) = true := by simp [hf]
                    have HR3 : Hid (RES = true) := Lib.hid (by rw [HR2.out]; exact decide_eq_true (str_ext hf))
                    clear hf
                    go_wp2
                    go_ret
                    exact ⟨by rw [HR3.out]; rfl, HBe.out⟩
                  · have hb2 : (LB.toList == rt.toList) = false := by simp [hf]
                    have HR3 : Hid (RES = false) := Lib.hid (by rw [HR2.out]; exact decide_eq_false fun h => hf (by rw [h]))
                    clear hf
                    go_wp2
                    go_ret
                    exact ⟨by rw [HR3.out]; rfl, HBe.out⟩
                · have hbb : (LA.toList == old.toList) = false := by simp [he]
                  have HR3 : Hid (RES = false) := Lib.hid (by rw [HRr.out, decide_eq_false fun h => he (by rw [h])]; rfl)
                  clear he
                  go_wp2
                  go_ret
                  exact ⟨by rw [HR3.out]; rfl, HBe.out⟩
          · have hbm : ((rs.length : Int) != (pk : Int)) = true := by rw [bne_iff_ne]; omega
            have HR2 : Hid (RES = false) := Lib.hid (by
              have hz : (rs.length == pk) = false := by simpa using hlm
              rw [HRE.out, HPK.out, hz]; rfl)
            clear ho hlm
            go_wp2_with fail
            go_quiet (fail)
            go_wp2
            go_ret
            exact ⟨by rw [HR2.out]; rfl, below_drewN HB.out nq⟩
end Go.Proofs.YtmapodkdnbbjgaaDoor
