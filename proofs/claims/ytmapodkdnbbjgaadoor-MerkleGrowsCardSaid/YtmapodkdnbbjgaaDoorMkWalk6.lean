/- merkle.Check: the walk. -/
import Derived.Test.YtmapodkdnbbjgaaDoorMkWalk5
import Derived.Test.YtmapodkdnbbjgaaDoorMkLaw1
import Derived.Deep.AppendLies
namespace Go.Proofs.YtmapodkdnbbjgaaDoor
open Go.RowKit Mk Sl
theorem bool_info : (Tryd.prog.info? 4).map (fun i => (i.zero, i.size, i.bytes)) = some (some (.bool false), 1, 1) := by kernel_rfl
/-- truth values that the call has gathered -/
def BO (w : World) (B : Nat) (v : Value) (l : List Bool) : Prop := Own w B 4 1 v l.length (l.map Value.bool)
theorem BO.alloc {w : World} {B : Nat} {v : Value} {l : List Bool} (h : BO w B v l) (o : Obj) : BO (w.alloc o) B v l := Own.alloc h o
theorem BO.below {w w' : World} {B B' : Nat} {v : Value} {l : List Bool} (h : BO w B v l) (hb : Below B' w w') (hB : w.heap.size ≤ B') : BO w' B v l := Own.below h hb hB
theorem BO.row {w : World} {B : Nat} {v : Value} {l : List Bool} (h : BO w B v l) (hn : 0 < l.length) :
    ∃ g cap, v = .slice (some ⟨g, 0, none⟩) l.length cap ∧ g < w.heap.size ∧ l.length ≤ cap ∧ cap ≤ maxLen ∧ ∀ j, j < l.length → w.cell? ⟨g, j, none⟩ = some (.bool (l.getD j false)) := by
  obtain ⟨g, cap, h1, h2, h3, h4, h5, h6⟩ := Own.shape h hn
  exact ⟨g, cap, h1, h3, h4, h5, fun j hj => by rw [h6 j (by omega)]; simp [List.getD_eq_getElem?_getD, List.getElem?_eq_getElem hj]⟩
theorem BO.shape {w : World} {B : Nat} {v : Value} {l : List Bool} (h : BO w B v l) : ∃ p cap, v = .slice p l.length cap ∧ l.length ≤ cap ∧ cap ≤ maxLen := Own.shape' h
theorem wpList_append_bool {w : World} {ops : Array Oper} {rest : List Oper} {o : Oper} {a : Act} {Q : Exit → Act → World → Prop} (hgd : o.guard = none) (s x : Operand)
    (ho : o.op = .call { callee := .builtin .append, args := #[s, x], argTypes := #[43, 43] })
    (base : Nat) (v : Value) (l : List Bool) (hs : a.eval s = v) (hown : BO w base v l)
    (b : Nat) (z : Bool) (hx : a.eval x = .slice (some ⟨b, 0, none⟩) 1 1) (hb : w.heap[b]? = some (.cells #[.bool z] 4 (0, 0))) (h63 : l.length + 1 ≤ 1000000) (hbase : base ≤ w.heap.size)
    (h : ∀ v' w', BO w' base v' (l ++ [z]) → Below base w w' → wpList Tryd.prog ops Q rest (a.put o.dst v') w') : wpList Tryd.prog ops Q (o :: rest) a w := by
  obtain ⟨i0, hi, hz0, hz1, hz2⟩ := info_parts bool_info
  refine wpList_append_x hgd s x _ ho base 4 i0 (.bool false) 1 1 Tryd.underlying43 hi hz0 hz1 hz2 rfl (by decide) v l.length (l.map Value.bool) hs hown ⟨b, 0, none⟩ 1 1 [.bool z] hx rfl (World.news_of_block (cs := #[.bool z]) hb) (by simp [Value.oneCell']) (by unfold maxLen; omega) (by omega) hbase ?_
  intro v' w' h2 h3 h4 h5
  refine h v' w' ?_ ⟨h3.os, h3.tape, h3.output, h3.size, fun i hi => h3.block i (by omega) (fun e => by have := (Own.block_ge hown i e.symm).1; omega)⟩
  unfold BO
  rw [List.map_append, List.length_append]; exact h2
def checkI (rt : ByteArray) (n i : Int) (x : ByteArray) (p : List ByteArray) : Bool := if 0 ≤ i ∧ i < n then check rt n.toNat i.toNat x p else false
theorem two_lit {w : World} (a b : ByteArray) : SV (w.alloc (.cells #[.string a, .string b] 9)) (.slice (some ⟨w.heap.size, 0, none⟩) 2 2) [a, b] := SV.lit [a, b] (by simp) (heap_alloc_new w _)
theorem allH_two (a b : ByteArray) : allH [a, b] = (a.size == 32 && b.size == 32) := by simp [allH]
set_option maxRecDepth 100000 in
set_option maxHeartbeats 4000000 in
theorem check_in (rt x : ByteArray) (n i : Nat) (p : List ByteArray) (vp : Value) (w : World) (hv : SV w vp p) (hl : p.length ≤ 1000) (hn : n ≤ 9223372036854775807) (hi : i < n)
    (h1 : allH [rt, x] = true) (h2 : allH p = true) (hk : OKW w) :
    Calls Tryd.prog 22 #[.string rt, .int .i64 n, .int .i64 i, .string x, vp] w fun e w' => e = .returned (.bool ((rights n i).length == p.length && decide (upF x p.reverse (rights n i) = rt))) ∧ Below w.heap.size w w' := by
  obtain ⟨q, cap, rfl, _, _⟩ := hv.shape
  have HV := Lib.hid hv
  have HK := Lib.hid hk
  have HPS : Hid (Short p 32) := Lib.hid fun s hs => by
    have := List.all_eq_true.1 h2 s hs; simp at this; omega
  have hxs : x.size = 32 := by rw [allH_two] at h1; simp at h1; exact h1.2
  have HXS := Lib.hid hxs
  obtain ⟨rs, hrs⟩ : ∃ rs, rights n i = rs := ⟨_, rfl⟩
  have hrl : rs.length ≤ 63 := by rw [← hrs]; exact rights_len 63 n i (Nat.le_trans hn (by decide))
  have HRS := Lib.hid hrs
  rw [hrs]
  have HC1 : Hid (∀ W : World, Calls Tryd.prog 38 #[.slice (some ⟨W.heap.size, 0, none⟩) 2 2] (W.alloc (.cells #[.string rt, .string x] 9)) fun e w' => e = .returned (.bool true) ∧ (W.alloc (.cells #[.string rt, .string x] 9)) = w') := Lib.hid fun W => by
    have := hashes_any [rt, x] _ _ (two_lit (w := W) rt x); rw [h1] at this; exact this
  have HC2 : Hid (∀ W, Below w.heap.size w W → Calls Tryd.prog 38 #[.slice q p.length cap] W fun e w' => e = .returned (.bool true) ∧ W = w') := Lib.hid fun W hW => by
    have := hashes_any p _ W (HV.out.below hW (Nat.le_refl _)); rw [h2] at this; exact this
  have hd1 : decide ((i : Int) < 0) = false := by simp
  have hd2 : decide (n ≤ i) = false := by simp; omega
  obtain ⟨m, hm⟩ : ∃ m, p.length = m := ⟨_, rfl⟩
  have HMm := Lib.hid hm
  have HN := Lib.hid hn
  rw [hm] at HC2 hl
  rw [hm]
  clear hv hk h1 h2 hxs hrs hn hm
  go_enter Tryd.func22, Tryd.ntmps22
  go_wp2_with fail
  refine (HC1.out _).mono ?_
  rintro e w1 ⟨rfl, rfl⟩
  go_wp2_with fail
  have HB1 : Hid (Below w.heap.size w (w.alloc (.cells #[.string rt, .string x] 9))) := Lib.hid ((Below.refl _ _).alloc (Nat.le_refl _) _)
  refine (HC2.out _ HB1.out).mono ?_
  rintro e w1 ⟨rfl, rfl⟩
  clear HC1 HC2
  go_wp2_with fail
  obtain ⟨W1, hW1⟩ : ∃ y, w.alloc (.cells #[.string rt, .string x] 9) = y := ⟨_, rfl⟩
  rw [hW1] at HB1 ⊢
  clear hW1
  go_loopw [1, 2, 11, 12] (fun u1 u2 u11 _ wr => ∃ (N I : Nat) (acc : List Bool), u1 = .int .i64 N ∧ u2 = .int .i64 I ∧ I < N ∧ N ≤ 9223372036854775807 ∧ BO wr w.heap.size u11 acc ∧ Hid (rs = acc ++ rights N I) ∧ Below w.heap.size w wr) (fun u1 _ _ _ _ => (intOf u1).toNat)
  case atStart => exact ⟨n, i, [], rfl, rfl, hi, HN.out, Own.nil _ _ _ _, Lib.hid HRS.out.symm, HB1.out⟩
  case round =>
    clear HB1 hd1 hd2 HN
    obtain ⟨N, I, acc, rfl, rfl, hIN, hN, ho, hrsE, hb⟩ := hrel
    have HO := Lib.hid ho
    have HB := Lib.hid hb
    by_cases h2 : 2 ≤ N
    · have hlt := split_lt N h2
      have hpos := split_pos N
      have HSp := Lib.hid fun W => split_any N W h2 hN
      have hacc : acc.length + 1 ≤ 1000000 := by have := congrArg List.length hrsE.out; simp at this; omega
      by_cases hc : I < split N
      · have HE : Hid (rs = (acc ++ [false]) ++ rights (split N) I) := Lib.hid (by rw [hrsE.out, rights_left N I h2 hc]; simp)
        obtain ⟨k, hk'⟩ : ∃ k, split N = k := ⟨_, rfl⟩
        rw [hk'] at HE HSp hlt hpos hc
        have hd3 : decide (k ≤ I) = false := by simp; omega
        clear hk' ho hb
        go_wp2_with fail
        refine (HSp.out _).mono ?_
        rintro e w1 ⟨rfl, rfl⟩
        go_wp2_with (at_builtin; refine wpList_append_bool rfl _ _ rfl w.heap.size _ acc rfl (HO.out.alloc _) wr.heap.size false rfl (heap_alloc_new wr _) hacc (by have := HB.out.size; simp; omega) ?_; intro v4 w4 ho4 hb4; have HO4 := Lib.hid ho4; have HB4 : Hid (Below w.heap.size w w4) := Lib.hid ((HB.out.alloc HB.out.size _).trans hb4); clear ho4 hb4)
        go_roundw
        case rel => exact ⟨k, I, _, rfl, rfl, hc, by omega, HO4.out, HE, HB4.out⟩
        case measure => simp [intOf]; omega
      · have HE : Hid (rs = (acc ++ [true]) ++ rights (N - split N) (I - split N)) := Lib.hid (by rw [hrsE.out, rights_right N I h2 hc]; simp)
        obtain ⟨k, hk'⟩ : ∃ k, split N = k := ⟨_, rfl⟩
        rw [hk'] at HE HSp hlt hpos hc
        have hd3 : decide (k ≤ I) = true := by simp; omega
        have hs1 : (N : Int) - (k : Int) = ((N - k : Nat) : Int) := by omega
        have hs2 : (I : Int) - (k : Int) = ((I - k : Nat) : Int) := by omega
        clear hk' ho hb
        go_wp2_with fail
        refine (HSp.out _).mono ?_
        rintro e w1 ⟨rfl, rfl⟩
        go_wp2_with (at_builtin; refine wpList_append_bool rfl _ _ rfl w.heap.size _ acc rfl (HO.out.alloc _) wr.heap.size true rfl (heap_alloc_new wr _) hacc (by have := HB.out.size; simp; omega) ?_; intro v4 w4 ho4 hb4; have HO4 := Lib.hid ho4; have HB4 : Hid (Below w.heap.size w w4) := Lib.hid ((HB.out.alloc HB.out.size _).trans hb4); clear ho4 hb4)
        go_roundw
        case rel => exact ⟨N - k, I - k, _, rfl, rfl, by omega, by omega, HO4.out, HE, HB4.out⟩
        case measure => simp [intOf]; omega
    · have hre : rs = acc := by rw [hrsE.out, rights_small N I (by omega), List.append_nil]
      subst hre
      have hNd : decide ((1 : Int) < (N : Int)) = false := by simp; omega
      obtain ⟨pz, cz, rfl, _, _⟩ := ho.shape
      clear hb hrsE hIN hN HRS HO
      have HO := Lib.hid ho
      by_cases hlm : rs.length = m
      · have hbm : ((m : Int) != (m : Int)) = false := by simp
        have HLM := Lib.hid hlm
        rw [hlm] at HO ⊢
        clear ho hlm
        go_wp2_with fail
        obtain ⟨wo, hwo⟩ : ∃ y, y = wr := ⟨_, rfl⟩
        rw [← hwo] at HO HB
        rw [← hwo]
        clear hwo hbm
        obtain ⟨PR, hPR⟩ : ∃ f : Nat → ByteArray, f = fun j => upF x (p.reverse.drop (m - j)) (rs.drop (m - j)) := ⟨_, rfl⟩
        have h0 : PR 0 = x := by
          rw [hPR]; have := (up_nil x p rs).1; rw [HMm.out] at this; exact this
        have hM' : PR m = upF x p.reverse rs := by rw [hPR]; simp
        have hstep : ∀ j, j < m → PR (j + 1) = if rs.getD (m - 1 - j) false then join (p.getD j ⟨#[]⟩) (PR j) else join (PR j) (p.getD j ⟨#[]⟩) := fun j hj => by
          rw [hPR]
          have := upF_step x p rs (by rw [HLM.out, HMm.out]) j (by rw [HMm.out]; exact hj)
          rw [HMm.out] at this; exact this
        have hsz : ∀ j, (PR j).size ≤ 100000 := fun j => by rw [hPR]; exact upF_size x 100000 (by rw [HXS.out]; omega) (by omega) _ _
        have H0 := Lib.hid h0; have HMx := Lib.hid hM'; have HST := Lib.hid hstep; have HSZ := Lib.hid hsz
        clear h0 hM' hstep hsz hPR
        go_loopw [61, 13, 14, 3] (fun u61 _ _ u3 wr => ∃ j : Nat, j ≤ m ∧ u61 = .int .i64 j ∧ u3 = .string (PR j) ∧ Below wo.heap.size wo wr) (fun u61 _ _ _ _ => m - (intOf u61).toNat)
        case atStart => exact ⟨0, Nat.zero_le _, rfl, by rw [H0.out], Below.refl _ _⟩
        case round =>
          obtain ⟨j, hj, rfl, rfl, hb⟩ := hrel
          by_cases hjm : j < m
          · obtain ⟨g, o, c, hpv, hg, _, _, hcp⟩ := HV.out.row (by rw [HMm.out]; omega)
            simp only [Value.slice.injEq] at hpv
            obtain ⟨rfl, -, rfl⟩ := hpv
            have HBw : Hid (Below w.heap.size w wr) := Lib.hid (HB.out.trans (hb.mono HB.out.size))
            have c0 := (HBw.out.cell (p := ⟨g, o + j, none⟩) hg).trans (hcp j (by rw [HMm.out]; exact hjm))
            obtain ⟨g2, c2, hpv, hg2, _, _, hcb⟩ := BO.row HO.out (by rw [HLM.out]; omega)
            simp only [Value.slice.injEq] at hpv
            obtain ⟨rfl, -, rfl⟩ := hpv
            obtain ⟨t, ht⟩ : ∃ t, m - 1 - j = t := ⟨_, rfl⟩
            have d0 := (hb.cell (p := ⟨g2, t, none⟩) hg2).trans (hcb t (by rw [HLM.out]; omega))
            have hS := HST.out j hjm
            rw [ht] at hS
            have hti : (m : Int) - 1 - (j : Int) = (t : Int) := by omega
            have htm : t < m := by omega
            have hys : (p.getD j ⟨#[]⟩).size ≤ 100000 := Nat.le_trans (HPS.out.get j) (by omega)
            have hps := HSZ.out j
            obtain ⟨y, hy⟩ : ∃ y, p.getD j ⟨#[]⟩ = y := ⟨_, rfl⟩
            obtain ⟨r, hr⟩ : ∃ r, rs.getD t false = r := ⟨_, rfl⟩
            obtain ⟨Lf, hLf⟩ : ∃ y, PR j = y := ⟨_, rfl⟩
            rw [hy] at c0 hS hys
            rw [hr] at d0 hS
            rw [hLf] at hS hps ⊢
            have HBr := Lib.hid hb
            have hkr : OKW wr := HK.out.below HBw.out
            cases r with
            | true =>
              have HS : Hid (PR (j + 1) = join y Lf) := Lib.hid (by rw [hS]; rfl)
              have HJ := Lib.hid (join_any y Lf wr hys hps hkr)
              clear hcp hcb ht hS hys hps hy hr hLf hb hkr
              go_wp2_with fail
              refine HJ.out.mono ?_
              rintro e w1 ⟨rfl, b1⟩
              have HB1 : Hid (Below wo.heap.size wo w1) := Lib.hid (HBr.out.trans (b1.mono HBr.out.size))
              clear b1
              go_wp2_with fail
              go_roundw
              case rel => exact ⟨j + 1, by omega, by go_num, by rw [HS.out], HB1.out⟩
              case measure => simp [intOf]; omega
            | false =>
              have HS : Hid (PR (j + 1) = join Lf y) := Lib.hid (by rw [hS]; rfl)
              have HJ := Lib.hid (join_any Lf y wr hps hys hkr)
              clear hcp hcb ht hS hys hps hy hr hLf hb hkr
              go_wp2_with fail
              refine HJ.out.mono ?_
              rintro e w1 ⟨rfl, b1⟩
              have HB1 : Hid (Below wo.heap.size wo w1) := Lib.hid (HBr.out.trans (b1.mono HBr.out.size))
              clear b1
              go_wp2_with fail
              go_roundw
              case rel => exact ⟨j + 1, by omega, by go_num, by rw [HS.out], HB1.out⟩
              case measure => simp [intOf]; omega
          · have hjm' : j = m := by omega
            have HL : Hid (PR j = upF x p.reverse rs) := Lib.hid (by rw [hjm', HMx.out])
            have HBe : Hid (Below w.heap.size w wr) := Lib.hid (HB.out.trans (hb.mono HB.out.size))
            have HR : Hid (((rs.length == m) && decide (upF x p.reverse rs = rt)) = decide (PR j = rt)) := Lib.hid (by rw [HLM.out, HL.out]; simp)
            obtain ⟨Lf, hLf⟩ : ∃ y, PR j = y := ⟨_, rfl⟩
            rw [hLf] at HR ⊢
            clear hb hLf hjm' HL
            by_cases he : Lf.toList = rt.toList
            · have hee : Lf = rt := str_ext he
              have HR2 : Hid (((rs.length == m) && decide (upF x p.reverse rs = rt)) = true) := Lib.hid (by rw [HR.out, hee]; simp)
              have hbb : (Lf.toList == rt.toList) = true := by simp [he]
              clear hee he
              go_wp2
              go_ret
              exact ⟨by rw [HR2.out]; rfl, HBe.out⟩
            · have HR2 : Hid (((rs.length == m) && decide (upF x p.reverse rs = rt)) = false) := Lib.hid (by
                rw [HR.out]; exact decide_eq_false fun h => he (by rw [h]))
              have hbb : (Lf.toList == rt.toList) = false := by simp [he]
              clear he
              go_wp2
              go_ret
              exact ⟨by rw [HR2.out]; rfl, HBe.out⟩
      · have hbm : ((rs.length : Int) != (m : Int)) = true := by rw [bne_iff_ne]; omega
        have HR2 : Hid (((rs.length == m) && decide (upF x p.reverse rs = rt)) = false) := Lib.hid (by
          have : (rs.length == m) = false := by simpa using hlm
          rw [this]; rfl)
        clear ho hlm
        go_wp2
        go_ret
        exact ⟨by rw [HR2.out]; rfl, HB.out⟩
end Go.Proofs.YtmapodkdnbbjgaaDoor
