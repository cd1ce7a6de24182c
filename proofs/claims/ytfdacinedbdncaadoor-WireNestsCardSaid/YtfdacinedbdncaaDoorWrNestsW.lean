/- missivelaw02.WireNests. -/
import Derived.Test.YtfdacinedbdncaaDoorWrBackW
namespace Go.Proofs.YtfdacinedbdncaaDoor
open Go.RowKit
namespace Wr
/-- the encodings of a list's values -/
def parts (l : List Vl) : List (List UInt8) := l.map Vl.enc
theorem parts_len (l : List Vl) : (parts l).length = l.length := by simp [parts]
theorem parts_le {l : List Vl} (hs : ∀ y ∈ l, y.Small) (ho : ∀ y ∈ l, y.Ok) : ∀ t ∈ parts l, t.length ≤ 200000 := by
  intro t ht
  obtain ⟨x, hx, rfl⟩ := List.mem_map.1 ht
  exact (enc_len (hs x hx) (ho x hx)).1
theorem etext_le {t : List UInt8} {B : Nat} (h : t.length ≤ B) (hB : B ≤ 1000000000) : (etext t).length ≤ B + 22 := by
  have := itoa_le t.length (by omega)
  unfold etext; simp only [List.length_append, List.length_cons, List.length_nil]; omega
theorem nest_len {l : List Vl} (h20 : l.length ≤ 20) (hs : ∀ y ∈ l, y.Small) (ho : ∀ y ∈ l, y.Ok) : (elist etext (parts l)).length ≤ 5000000 := by
  have h1 := flat_len etext 200022 (parts l) (fun t ht => etext_le (parts_le hs ho t ht) (by omega))
  have h2 := itoa_le (parts l).length (by rw [parts_len]; omega)
  have h3 := parts_len l
  unfold elist; simp only [List.length_append, List.length_cons, List.length_nil]; omega
set_option maxRecDepth 100000 in
set_option maxHeartbeats 4000000 in
theorem nests_walk (v : Value) (l : List Vl) (W : World) (hv : LVs W v l) (hE : Env W) (hok : ∀ y ∈ l, y.Ok) :
    Calls Tryd.prog 8 #[v] W fun e w' => e = .returned (.bool true) ∧ Below W.heap.size W w' := by
  obtain ⟨i0, hi, hz0, hz1, hz2⟩ := info_parts str_info
  have HES := head_steps hE
  have HV := Lib.hid hv
  have HOK := Lib.hid hok
  obtain ⟨b, o, cap, p, rfl, hc1, hc2, hp, hcell⟩ := hv.parts
  unfold maxLen at hc2
  have HCELL := Lib.hid hcell
  have HP := Lib.hid hp
  have HEE := Lib.hid hE
  obtain ⟨N, hN⟩ : ∃ N, N = l.length := ⟨_, rfl⟩
  rw [← hN] at HP hc1 HV ⊢
  have HN := Lib.hid hN
  clear hv hcell hp hE hok hN
  go_enter Tryd.func8, Tryd.ntmps8
  go_wp2_with fail
  refine (small_any W HEE.out).mono ?_
  rintro e w1 ⟨rfl, b1⟩
  have B1 := Lib.hid b1
  clear b1
  go_wp2_with fail
  have hv1 : LVs w1 (.slice p N cap) l := by
    refine ⟨p, cap, by rw [HN.out], by have := HN.out; omega, by unfold maxLen; omega, ?_⟩
    rcases Nat.eq_zero_or_pos l.length with h0 | h0
    · exact .inl (List.length_eq_zero_iff.1 h0)
    · refine .inr ⟨b, o, HP.out (by have := HN.out; omega), fun i x hx => ?_⟩
      obtain ⟨p1, p2, c1, c2, h⟩ := HCELL.out i x hx
      exact ⟨p1, p2, c1, c2, h.below B1.out⟩
  refine (few_any _ l w1 hv1).mono ?_
  rintro e w2 ⟨fx, rfl, hfew, d, rfl⟩
  have HFEW := Lib.hid hfew
  clear hfew hv1
  have B2 : Hid (Below W.heap.size W (w1.drewN d)) := ⟨B1.out.os, B1.out.tape, B1.out.output, B1.out.size, B1.out.block⟩
  cases fx with
  | false =>
    go_wp2
    go_ret
    exact ⟨rfl, B2.out⟩
  | true =>
    have hN20 : N ≤ 20 := by have := (HFEW.out rfl).1; have := HN.out; omega
    have HSM : Hid (∀ y ∈ l, y.Small) := (HFEW.out rfl).2
    have HNL : Hid ((elist etext (parts l)).length ≤ 5000000) := nest_len (HFEW.out rfl).1 HSM.out HOK.out
    have HPL : Hid (∀ t ∈ parts l, t.length ≤ 200000) := parts_le HSM.out HOK.out
    have HVX : Hid (∀ w' i x, Below W.heap.size W w' → l[i]? = some x → ∃ p1 p2 c1 c2, VAt w' b (o + i * 5) x p1 p2 c1 c2) := fun w' i x hb hx => by
      obtain ⟨p1, p2, c1, c2, h⟩ := HCELL.out i x hx
      exact ⟨p1, p2, c1, c2, h.below hb⟩
    clear HFEW
    go_wp2_with fail
    go_loopw [4, 5] (fun v i wr => ∃ k : Nat, k ≤ N ∧ i = .int .i64 k ∧ Own wr W.heap.size 9 1 v k ((parts (l.take k)).map vs) ∧ Below W.heap.size W wr) (fun _ i _ => N - (intOf i).toNat)
    case atStart => exact ⟨0, Nat.zero_le _, rfl, Own.nil _ _ _ _, B2.out⟩
    case round =>
      obtain ⟨k, hk, rfl, ho, hb⟩ := hrel
      have HB := Lib.hid hb
      have HO := Lib.hid ho
      clear hb ho
      by_cases hlt : k < N
      · obtain ⟨x, hx⟩ : ∃ x, l[k]? = some x := ⟨_, List.getElem?_eq_getElem (by rw [← HN.out]; exact hlt)⟩
        obtain ⟨p1, p2, c1, c2, hV⟩ := HVX.out wr k x HB.out hx
        have hpp := HP.out (by omega)
        subst hpp
        have q0 := hV.c0
        have q1 := hV.c1
        have q2 := hV.c2
        have q3 := hV.c3
        have q4 := hV.c4
        have hm := List.mem_of_getElem? hx
        have HW := Lib.hid (write_any x p1 p2 c1 c2 wr hV.li hV.lt hV.ok (HSM.out x hm) (HES.out _ HB.out))
        obtain ⟨Y, hYe⟩ : ∃ Y, Y = bs x.enc := ⟨_, rfl⟩
        rw [← hYe] at HW
        have HYE := Lib.hid hYe
        have HX := Lib.hid hx
        clear hx hV hm hYe
        go_wp2_with fail
        refine HW.out.mono ?_
        rintro e w3 ⟨rfl, b3⟩
        have HO3 : Hid (Own w3 W.heap.size 9 1 u4 k ((parts (l.take k)).map vs)) := HO.out.below b3 (Nat.le_refl _)
        have B3 := Lib.hid (HB.out.trans (b3.mono HB.out.size))
        clear b3
        go_wp2_with (at_builtin; refine wpList_append_x rfl _ _ 23 rfl W.heap.size 9 i0 _ 1 16 Tryd.underlying23 hi hz0 hz1 hz2 rfl (by decide) _ k _ rfl (HO3.out.alloc _) ⟨w3.heap.size, 0, none⟩ 1 1 [.string Y] rfl rfl (one_new (.string Y) w3 _) (one_cell rfl) (by unfold maxLen; omega) (by omega) (by have := B3.out.size; simp; omega) ?_; intro v' w4 hown' hgrow hnil hblk; clear hnil; refine Hid.out ?_)
        refine Lib.hid ?_
        have HO4 : Hid (Own w4 W.heap.size 9 1 v' (k + 1) ((parts (l.take (k + 1))).map vs)) := by
          show Own _ _ _ _ _ _ _
          have e : (parts (l.take (k + 1))).map vs = (parts (l.take k)).map vs ++ [.string Y] := by
            unfold parts
            rw [List.take_add_one, HX.out, HYE.out]
            simp
          rw [e]; exact hown'
        have B4 : Hid (Below W.heap.size W w4) := (B3.out.alloc B3.out.size _).grown hgrow (Nat.le_trans B3.out.size (by simp)) (fun g hg => (HO3.out.block_ge g hg).1)
        clear hown' hgrow hblk
        go_wp2
        go_roundw
        case rel => exact ⟨k + 1, by omega, by go_num, HO4.out, B4.out⟩
        case measure => simp [intOf]; omega
      · have hkN : k = N := by omega
        have HLVP : Hid (LV vs wr u4 (parts l)) := by
          have h1 := HO.out
          rw [hkN, HN.out, List.take_length] at h1
          rw [← parts_len l] at h1
          exact LV.of_own h1
        clear hkN
        go_wp2_with fail
        refine (wTexts_any u4 (parts l) wr HLVP.out (fun t ht => by have := HPL.out t ht; omega) (HES.out _ HB.out) (by have := HNL.out; omega)).mono ?_
        rintro e w5 ⟨rfl, b5⟩
        have B5 := Lib.hid (HB.out.trans (b5.mono HB.out.size))
        clear b5
        go_wp2_with fail
        refine (wText_any _ (by rw [bs_size]; have := HNL.out; omega) w5 (HES.out _ B5.out)).mono ?_
        rintro e w6 ⟨rfl, b6⟩
        have B6 := Lib.hid (B5.out.trans (b6.mono B5.out.size))
        clear b6
        go_wp2_with fail
        refine (open_any _ _).mono ?_
        rintro e w7 ⟨rfl, r7, b7⟩
        have B7 := Lib.hid (B6.out.trans (b7.mono B6.out.size))
        have R7 : Hid (Rd 54 w7 w6.heap.size ⟨etext (elist etext (parts l)) ++ [], false⟩) := by
          show Rd _ _ _ _
          rw [List.append_nil]; exact r7
        have HB1 : Hid (W.heap.size ≤ w6.heap.size) := B6.out.size
        obtain ⟨k1, hk1⟩ : ∃ bk, bk = w6.heap.size := ⟨_, rfl⟩
        rw [← hk1] at R7 HB1 ⊢
        clear r7 b7 hk1
        have HT := Lib.hid (rdText_any k1 _ w7 R7.out (HES.out _ B7.out) (by
          have h1 := HNL.out
          have h2 := etext_le (t := elist etext (parts l)) (B := 5000000) h1 (by omega)
          simp only [List.append_nil]; omega))
        have HRT : Hid (rtext ⟨etext (elist etext (parts l)) ++ [], false⟩ = (elist etext (parts l), ⟨[], false⟩)) := rtext_mk (by have := HNL.out; unfold len63; omega) []
        go_wp2_with fail
        refine HT.out.mono ?_
        rintro e w8 ⟨he, r8, f8⟩
        rw [HRT.out] at he r8
        simp only at he r8
        subst he
        have R8 := Lib.hid r8
        have B8 := Lib.hid (fr_below B7.out HB1.out f8)
        clear r8 f8
        go_wp2_with fail
        refine (open_any _ _).mono ?_
        rintro e w9 ⟨rfl, r9, b9⟩
        have B9 := Lib.hid (B8.out.trans (b9.mono B8.out.size))
        have R8b : Hid (Rd 54 w9 k1 ⟨[], false⟩) := R8.out.below b9 R8.out.lt
        have R9 : Hid (Rd 54 w9 w8.heap.size ⟨elist etext (parts l) ++ [], false⟩) := by
          show Rd _ _ _ _
          rw [List.append_nil]; exact r9
        have HB2 : Hid (W.heap.size ≤ w8.heap.size) := B8.out.size
        obtain ⟨k2, hk2⟩ : ∃ bk, bk = w8.heap.size := ⟨_, rfl⟩
        rw [← hk2] at R9 HB2 ⊢
        clear r9 b9 hk2
        go_wp2_with fail
        refine (done_any k1 _ w9 R8b.out).mono ?_
        rintro e w10 ⟨rfl, rfl⟩
        have HL := Lib.hid (rdTexts_any k2 _ w9 R9.out (fun h => by cases h) (HES.out _ B9.out) (Nat.le_trans HEE.out.lt HB2.out) (by have := HNL.out; simp only [List.append_nil]; omega))
        have HRL : Hid (rlist rtext ⟨elist etext (parts l) ++ [], false⟩ = (parts l, ⟨[], false⟩)) := rlist_mk (by rw [parts_len]; have := HN.out; unfold len63; omega) (fun t ht u => rtext_mk (by have := HPL.out t ht; unfold len63; omega) u) []
        go_wp2_with fail
        refine HL.out.mono ?_
        rintro e w11 ⟨v2, rfl, o11, r11, f11⟩
        rw [HRL.out] at o11 r11
        simp only at o11 r11
        have LV11 := LV.of_own o11
        obtain ⟨b2, o2, cap2, p2, rfl, g1, g2, g3, g4⟩ := LV11.parts
        rw [parts_len, ← HN.out] at g1 g3
        have HPN : Hid ((parts l).length = N) := by show _ = _; rw [parts_len, HN.out]
        have HG3 := Lib.hid g3
        have HLV := Lib.hid LV11
        have R11 := Lib.hid r11
        have B11 := Lib.hid (fr_below B9.out HB2.out f11)
        unfold maxLen at g2
        rw [HPN.out] at HLV ⊢
        clear o11 r11 f11 LV11 g3 g4
        go_wp2_with fail
        refine (done_any k2 _ w11 R11.out).mono ?_
        rintro e w12 ⟨rfl, rfl⟩
        go_wp2_with fail
        go_loopw [9, 10] (fun i z wr => ∃ k : Nat, k ≤ N ∧ i = .int .i64 k ∧ Below W.heap.size W wr ∧ LV vs wr (.slice p2 N cap2) (parts l)) (fun i _ _ => N - (intOf i).toNat)
        case atStart => exact ⟨0, Nat.zero_le _, rfl, B11.out, HLV.out⟩
        case round =>
          obtain ⟨k, hk, rfl, hb, hlv⟩ := hrel
          have HB := Lib.hid hb
          have HLW := Lib.hid hlv
          clear hb hlv
          by_cases hlt : k < N
          · obtain ⟨x, hx⟩ : ∃ x, l[k]? = some x := ⟨_, List.getElem?_eq_getElem (by rw [← HN.out]; exact hlt)⟩
            obtain ⟨p1, p2', c1, c2, hV0⟩ := HCELL.out k x hx
            have hm := List.mem_of_getElem? hx
            have hpp := HP.out (by omega)
            subst hpp
            obtain ⟨b3, o3, cap3, p3, hpe, e1, e2, e3, e4⟩ := HLW.out.parts
            simp only [Value.slice.injEq] at hpe
            obtain ⟨rfl, hjunk, rfl⟩ := hpe
            clear hjunk
            have hp2 := e3 (by have := HPN.out; omega)
            subst hp2
            have qx : wr.cell? ⟨b3, o3 + k, none⟩ = some (vs x.enc) := e4 k x.enc (by unfold parts; rw [List.getElem?_map, hx]; rfl)
            have HX := Lib.hid hx
            have HV0 := Lib.hid hV0
            have HM := Lib.hid hm
            clear hx hV0 hm e1 e2 e3 e4
            go_wp2_with fail
            refine (open_any _ _).mono ?_
            rintro e w13 ⟨rfl, r13, b13⟩
            have B13 := Lib.hid (HB.out.trans (b13.mono HB.out.size))
            have L13 := Lib.hid (HLW.out.below b13 (Nat.le_refl _))
            have R13 : Hid (Rd 54 w13 wr.heap.size ⟨x.enc ++ [], false⟩) := by
              show Rd _ _ _ _
              rw [List.append_nil]; exact r13
            have HBR : Hid (Below wr.heap.size wr w13) := b13
            have HB3 : Hid (W.heap.size ≤ wr.heap.size) := HB.out.size
            obtain ⟨k3, hk3⟩ : ∃ bk, bk = wr.heap.size := ⟨_, rfl⟩
            have HK3 := Lib.hid hk3
            rw [← hk3] at R13 HB3 ⊢
            have hV := HV0.out.below B13.out
            have q0 := hV.c0
            have q1 := hV.c1
            have q2 := hV.c2
            have q3 := hV.c3
            have q4 := hV.c4
            have HEQ := Lib.hid (equal_any x p1 p2' c1 c2 k3 _ W w13 ⟨B13.out, HV0.out.li, HV0.out.lt, HV0.out.ok, HEE.out, HB3.out, R13.out, (fun h => by cases h), by
              have h1 := (enc_len (HSM.out x HM.out) HV0.out.ok).1
              simp only [List.append_nil]
              omega⟩)
            have HBACK := Lib.hid (Vl.back (HSM.out x HM.out) HV0.out.ok [])
            clear r13 b13 hk3 hV
            go_wp2_with fail
            refine HEQ.out.mono ?_
            rintro e w14 ⟨he, r14, f14⟩
            rw [HBACK.out] at he r14
            simp only at he r14
            subst he
            have R14 := Lib.hid r14
            have B14 := Lib.hid (fr_below B13.out HB3.out f14)
            have hbb : Below wr.heap.size wr w14 := HBR.out.trans (f14.below HBR.out.size (fun i hi e => by have := HK3.out; omega))
            have L14 := Lib.hid (HLW.out.below hbb (Nat.le_refl _))
            clear r14 f14 hbb
            go_wp2_with fail
            refine (done_any k3 _ w14 R14.out).mono ?_
            rintro e w15 ⟨rfl, rfl⟩
            go_wp2
            go_roundw
            case rel => exact ⟨k + 1, by omega, by go_num, B14.out, L14.out⟩
            case measure => simp [intOf]; omega
          · go_wp2
            go_ret
            exact ⟨rfl, HB.out⟩
end Wr
end Go.Proofs.YtfdacinedbdncaaDoor
