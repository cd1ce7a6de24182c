/- missivelaw02.WireReads. -/
import Derived.Test.YtfdacinedbdncaaDoorWrAgainW
import Derived.Test.YtfdacinedbdncaaDoorWrRef7
import Derived.Test.YtfdacinedbdncaaDoorWrRef8
namespace Go.Proofs.YtfdacinedbdncaaDoor
open Go.RowKit
namespace Wr
theorem rmany_le {α : Type} {one : St → α × St} (hle : ∀ s, (one s).2.rest.length ≤ s.rest.length) : ∀ (n : Nat) (s : St), (rmany one n s).2.rest.length ≤ s.rest.length
  | 0, s => Nat.le_refl _
  | n + 1, s => by
    simp only [rmany]
    split
    · exact Nat.le_refl _
    · exact Nat.le_trans (rmany_le hle n _) (hle s)
theorem rlist_le {α : Type} {one : St → α × St} (hle : ∀ s, (one s).2.rest.length ≤ s.rest.length) (s : St) : (rlist one s).2.rest.length ≤ s.rest.length := by
  have h1 := Nat.le_trans (rclose_le 93 (rmany one (rnum 91 0 s).1.toNat (rnum 91 0 s).2).2) (Nat.le_trans (rmany_le hle _ _) (rnum_le 91 0 s))
  unfold rlist
  simp only
  split <;> exact h1
theorem rint_le (s : St) : (rint s).2.rest.length ≤ s.rest.length := rnum_le 59 _ s
/-- where the loop of WireReads stands: both readers stand alike -/
structure Two (b1 b2 : Nat) (q : St) (W w : World) : Prop where
  b : Below W.heap.size W w
  r1 : Rd 54 w b1 q
  r2 : RR w b2 q
  ok : q.Ok
  len : q.rest.length ≤ 400
  ne : b1 ≠ b2
  h1 : W.heap.size ≤ b1
  h2 : W.heap.size ≤ b2
set_option maxRecDepth 100000 in
set_option maxHeartbeats 8000000 in
theorem reads_walk (s : ByteArray) (v : Value) (l : List Int) (W : World) (hv : LV vi W v l) (hE : Env W) (htl : s.size ≤ maxLen) :
    Calls Tryd.prog 4 #[.string s, v] W fun e w' => e = .returned (.bool true) ∧ Below W.heap.size W w' := by
  have HES := head_steps hE
  have HEE := Lib.hid hE
  obtain ⟨b, o, cap, p, rfl, hc1, hc2, hp, hcell⟩ := hv.parts
  unfold maxLen at hc2 htl
  have HCELL := Lib.hid hcell
  have HP := Lib.hid hp
  obtain ⟨N, hN⟩ : ∃ N, N = l.length := ⟨_, rfl⟩
  rw [← hN] at HP hc1 ⊢
  have HN := Lib.hid hN
  have HK := Lib.hid (fun (z : Int) w => kind_any z 0 ⟨#[]⟩ none none 0 0 0 0 w)
  have HLV : Hid (∀ w', Below W.heap.size W w' → ∀ k x, l[k]? = some x → w'.cell? ⟨b, o + k, none⟩ = some (vi x)) := fun w' hb k x hk => by
    have hc := HCELL.out k x hk
    have hlt : b < W.heap.size := cell_in (a := ⟨b, o + k, none⟩) hc
    exact (World.cell?_of_block (w := W) (a := ⟨b, o + k, none⟩) (hb.block b hlt)).trans hc
  clear hv hcell hp hE hN
  go_enter Tryd.func4, Tryd.ntmps4
  go_wp2_with fail
  refine (small_any W HEE.out).mono ?_
  rintro e w1 ⟨rfl, b1⟩
  have B1 := Lib.hid b1
  clear b1
  by_cases ht : 400 < s.size
  · have hd : decide (400 < s.size) = true := decide_eq_true ht
    go_wp2
    go_ret
    exact ⟨rfl, B1.out⟩
  · have hd : decide (400 < s.size) = false := decide_eq_false ht
    by_cases hn : 20 < N
    · have hd2 : decide (20 < N) = true := decide_eq_true hn
      go_wp2
      go_ret
      exact ⟨rfl, B1.out⟩
    · have hd2 : decide (20 < N) = false := decide_eq_false hn
      have HSL : Hid (s.data.toList.length = s.size) := Array.length_toList
      go_wp2_with fail
      refine (open_any _ _).mono ?_
      rintro e w2 ⟨rfl, r2, b2⟩
      have B2 := Lib.hid (B1.out.trans (b2.mono B1.out.size))
      have R2 := Lib.hid r2
      have HB2 : Hid (W.heap.size ≤ w1.heap.size) := B1.out.size
      obtain ⟨k1, hk1⟩ : ∃ k, k = w1.heap.size := ⟨_, rfl⟩
      rw [← hk1] at R2 HB2 ⊢
      clear r2 b2 hk1
      go_wp2_with fail
      refine (ropen_any _ _).mono ?_
      rintro e w3 ⟨rfl, r3, b3⟩
      have HT : Hid (Two k1 w2.heap.size ⟨s.data.toList, false⟩ W w3) :=
        ⟨B2.out.trans (b3.mono B2.out.size), R2.out.below b3 R2.out.lt, r3, (fun h => by cases h), by have := HSL.out; simp only; omega, by have := R2.out.lt; omega, HB2.out, B2.out.size⟩
      obtain ⟨k2, hk2⟩ : ∃ k, k = w2.heap.size := ⟨_, rfl⟩
      rw [← hk2] at HT ⊢
      clear r3 b3 hk2 R2
      go_wp2_with fail
      go_loopw [8, 9] (fun i z wr => ∃ (k : Nat) (q : St), k ≤ N ∧ i = .int .i64 k ∧ Two k1 k2 q W wr) (fun i _ _ => N - (intOf i).toNat)
      case atStart => exact ⟨0, _, Nat.zero_le _, rfl, HT.out⟩
      case round =>
        obtain ⟨k, q, hk, rfl, hT⟩ := hrel
        have HW := Lib.hid hT
        clear hT HT
        by_cases hlt : k < N
        · obtain ⟨z, hz⟩ : ∃ z, l[k]? = some z := ⟨_, List.getElem?_eq_getElem (by rw [← HN.out]; exact hlt)⟩
          have qz := HLV.out wr HW.out.b k z hz
          have hpp := HP.out (by omega)
          subst hpp
          clear hz
          have hkk : z % 5 = 0 ∨ z % 5 = 1 ∨ z % 5 = 2 ∨ z % 5 = 3 ∨ z % 5 = 4 := by omega
          have HKZ := HK.out z
          rcases hkk with hkk | hkk | hkk | hkk | hkk
          · rw [hkk] at HKZ
            have HKY := Lib.hid HKZ
            clear HKZ hkk
            go_wp2_with fail
            refine (HKY.out _).mono ?_
            rintro e w4 ⟨rfl, b4⟩
            have T4 : Hid (Two k1 k2 q W w4) := ⟨HW.out.b.trans (b4.mono HW.out.b.size), HW.out.r1.below b4 HW.out.r1.lt, HW.out.r2.below b4 HW.out.r2.lt, HW.out.ok, HW.out.len, HW.out.ne, HW.out.h1, HW.out.h2⟩
            clear b4
            have HQOK : Hid ((rnum 59 0 q).2.Ok) := rnum_ok T4.out.ok
            have HQL : Hid ((rnum 59 0 q).2.rest.length ≤ 400) := Nat.le_trans (rnum_le 59 0 q) T4.out.len
            have C5 := Lib.hid (rdNum_any k1 q w4 T4.out.r1 (HES.out _ T4.out.b) (by have := T4.out.len; omega))
            have C6 : Hid (∀ w, RR w k2 q → Calls Tryd.prog 25 #[.pointer (some ⟨k2, 0, none⟩)] w (RDoes vi (rnum 59 0) k2 q w)) := fun w h => rrNum_any k2 q w h (by have := T4.out.len; omega)
            go_wp2_with fail
            refine C5.out.mono ?_
            rintro e w5 ⟨he5, r5, f5⟩
            obtain ⟨q2, hq2⟩ : ∃ q2, q2 = (rnum 59 0 q).2 := ⟨_, rfl⟩
            obtain ⟨x, hx⟩ : ∃ x, x =  (rnum 59 0 q).1 := ⟨_, rfl⟩
            have he5' : e = .returned (.int .i64 x) := by rw [hx]; exact he5
            subst he5'
            clear he5
            rw [← hq2] at r5 HQOK HQL
            have RR5 : Hid (RR w5 k2 q) := T4.out.r2.fr f5 (fun e => T4.out.ne e.symm)
            have F5 := Lib.hid f5
            have R5 := Lib.hid r5
            have HX := Lib.hid hx
            have HQ2 := Lib.hid hq2
            clear f5 r5 hx hq2
            go_wp2_with fail
            refine (C6.out _ RR5.out).mono ?_
            rintro e w6 ⟨he6, r6, f6⟩
            have he6' : e = .returned (.int .i64 x) := by rw [HX.out]; exact he6
            subst he6'
            clear he6
            have r5 := R5.out
            have f5 := F5.out
            rw [← HQ2.out] at r6
            have T6 : Hid (Two k1 k2 q2 W w6) := by
              have h1 := fr_below T4.out.b T4.out.h1 f5
              exact ⟨fr_below h1 T4.out.h2 f6, r5.fr f6 T4.out.ne, r6, HQOK.out, HQL.out, T4.out.ne, T4.out.h1, T4.out.h2⟩
            clear f5 f6 r5 r6
            have HD1 := Lib.hid (done_any k1 _ w6 T6.out.r1)
            have HD2 := Lib.hid (rdone_any k2 _ w6 T6.out.r2)
            have HL1 := Lib.hid (left_any k1 _ w6 T6.out.r1)
            have HL2 := Lib.hid (rleft_any k2 _ w6 T6.out.r2)
            obtain ⟨D, hD⟩ : ∃ D, D = rdone q2 := ⟨_, rfl⟩
            obtain ⟨L, hL⟩ : ∃ L, L = q2.rest.length := ⟨_, rfl⟩
            rw [← hD] at HD1 HD2
            rw [← hL] at HL1 HL2
            clear hD hL
            go_wp2_with fail
            refine HL1.out.mono ?_
            rintro e w7 ⟨rfl, rfl⟩
            go_wp2_with fail
            refine HL2.out.mono ?_
            rintro e w7 ⟨rfl, rfl⟩
            go_wp2_with fail
            refine HD1.out.mono ?_
            rintro e w7 ⟨rfl, rfl⟩
            go_wp2_with fail
            refine HD2.out.mono ?_
            rintro e w7 ⟨rfl, rfl⟩
            go_wp2
            go_roundw
            case rel => exact ⟨k + 1, q2, by omega, by go_num, T6.out⟩
            case measure => simp [intOf]; omega
          · rw [hkk] at HKZ
            have HKY := Lib.hid HKZ
            clear HKZ hkk
            go_wp2_with fail
            refine (HKY.out _).mono ?_
            rintro e w4 ⟨rfl, b4⟩
            have T4 : Hid (Two k1 k2 q W w4) := ⟨HW.out.b.trans (b4.mono HW.out.b.size), HW.out.r1.below b4 HW.out.r1.lt, HW.out.r2.below b4 HW.out.r2.lt, HW.out.ok, HW.out.len, HW.out.ne, HW.out.h1, HW.out.h2⟩
            clear b4
            have HQOK : Hid ((rint q).2.Ok) := rint_ok T4.out.ok
            have HQL : Hid ((rint q).2.rest.length ≤ 400) := Nat.le_trans (rint_le q) T4.out.len
            have C5 := Lib.hid (rdInt_any k1 q w4 T4.out.r1 (HES.out _ T4.out.b) (by have := T4.out.len; omega))
            have C6 : Hid (∀ w, RR w k2 q → Calls Tryd.prog 27 #[.pointer (some ⟨k2, 0, none⟩)] w (RDoes vi (rint) k2 q w)) := fun w h => rrInt_any k2 q w h (by have := T4.out.len; omega)
            go_wp2_with fail
            refine C5.out.mono ?_
            rintro e w5 ⟨he5, r5, f5⟩
            obtain ⟨q2, hq2⟩ : ∃ q2, q2 = (rint q).2 := ⟨_, rfl⟩
            obtain ⟨x, hx⟩ : ∃ x, x =  (rint q).1 := ⟨_, rfl⟩
            have he5' : e = .returned (.int .i64 x) := by rw [hx]; exact he5
            subst he5'
            clear he5
            rw [← hq2] at r5 HQOK HQL
            have RR5 : Hid (RR w5 k2 q) := T4.out.r2.fr f5 (fun e => T4.out.ne e.symm)
            have F5 := Lib.hid f5
            have R5 := Lib.hid r5
            have HX := Lib.hid hx
            have HQ2 := Lib.hid hq2
            clear f5 r5 hx hq2
            go_wp2_with fail
            refine (C6.out _ RR5.out).mono ?_
            rintro e w6 ⟨he6, r6, f6⟩
            have he6' : e = .returned (.int .i64 x) := by rw [HX.out]; exact he6
            subst he6'
            clear he6
            have r5 := R5.out
            have f5 := F5.out
            rw [← HQ2.out] at r6
            have T6 : Hid (Two k1 k2 q2 W w6) := by
              have h1 := fr_below T4.out.b T4.out.h1 f5
              exact ⟨fr_below h1 T4.out.h2 f6, r5.fr f6 T4.out.ne, r6, HQOK.out, HQL.out, T4.out.ne, T4.out.h1, T4.out.h2⟩
            clear f5 f6 r5 r6
            have HD1 := Lib.hid (done_any k1 _ w6 T6.out.r1)
            have HD2 := Lib.hid (rdone_any k2 _ w6 T6.out.r2)
            have HL1 := Lib.hid (left_any k1 _ w6 T6.out.r1)
            have HL2 := Lib.hid (rleft_any k2 _ w6 T6.out.r2)
            obtain ⟨D, hD⟩ : ∃ D, D = rdone q2 := ⟨_, rfl⟩
            obtain ⟨L, hL⟩ : ∃ L, L = q2.rest.length := ⟨_, rfl⟩
            rw [← hD] at HD1 HD2
            rw [← hL] at HL1 HL2
            clear hD hL
            go_wp2_with fail
            refine HL1.out.mono ?_
            rintro e w7 ⟨rfl, rfl⟩
            go_wp2_with fail
            refine HL2.out.mono ?_
            rintro e w7 ⟨rfl, rfl⟩
            go_wp2_with fail
            refine HD1.out.mono ?_
            rintro e w7 ⟨rfl, rfl⟩
            go_wp2_with fail
            refine HD2.out.mono ?_
            rintro e w7 ⟨rfl, rfl⟩
            go_wp2
            go_roundw
            case rel => exact ⟨k + 1, q2, by omega, by go_num, T6.out⟩
            case measure => simp [intOf]; omega
          · rw [hkk] at HKZ
            have HKY := Lib.hid HKZ
            clear HKZ hkk
            go_wp2_with fail
            refine (HKY.out _).mono ?_
            rintro e w4 ⟨rfl, b4⟩
            have T4 : Hid (Two k1 k2 q W w4) := ⟨HW.out.b.trans (b4.mono HW.out.b.size), HW.out.r1.below b4 HW.out.r1.lt, HW.out.r2.below b4 HW.out.r2.lt, HW.out.ok, HW.out.len, HW.out.ne, HW.out.h1, HW.out.h2⟩
            clear b4
            have HQOK : Hid ((rtext q).2.Ok) := rtext_ok T4.out.ok
            have HQL : Hid ((rtext q).2.rest.length ≤ 400) := Nat.le_trans (rtext_le q) T4.out.len
            have C5 := Lib.hid (rdText_any k1 q w4 T4.out.r1 (HES.out _ T4.out.b) (by have := T4.out.len; omega))
            have C6 : Hid (∀ w, RR w k2 q → Calls Tryd.prog 29 #[.pointer (some ⟨k2, 0, none⟩)] w (RDoes vs (rtext) k2 q w)) := fun w h => rrText_any k2 q w h T4.out.ok (by have := T4.out.len; omega)
            go_wp2_with fail
            refine C5.out.mono ?_
            rintro e w5 ⟨he5, r5, f5⟩
            obtain ⟨q2, hq2⟩ : ∃ q2, q2 = (rtext q).2 := ⟨_, rfl⟩
            obtain ⟨x, hx⟩ : ∃ x, x = bs (rtext q).1 := ⟨_, rfl⟩
            have he5' : e = .returned (.string x) := by rw [hx]; exact he5
            subst he5'
            clear he5
            rw [← hq2] at r5 HQOK HQL
            have RR5 : Hid (RR w5 k2 q) := T4.out.r2.fr f5 (fun e => T4.out.ne e.symm)
            have F5 := Lib.hid f5
            have R5 := Lib.hid r5
            have HX := Lib.hid hx
            have HQ2 := Lib.hid hq2
            clear f5 r5 hx hq2
            go_wp2_with fail
            refine (C6.out _ RR5.out).mono ?_
            rintro e w6 ⟨he6, r6, f6⟩
            have he6' : e = .returned (.string x) := by rw [HX.out]; exact he6
            subst he6'
            clear he6
            have r5 := R5.out
            have f5 := F5.out
            rw [← HQ2.out] at r6
            have T6 : Hid (Two k1 k2 q2 W w6) := by
              have h1 := fr_below T4.out.b T4.out.h1 f5
              exact ⟨fr_below h1 T4.out.h2 f6, r5.fr f6 T4.out.ne, r6, HQOK.out, HQL.out, T4.out.ne, T4.out.h1, T4.out.h2⟩
            clear f5 f6 r5 r6
            have HD1 := Lib.hid (done_any k1 _ w6 T6.out.r1)
            have HD2 := Lib.hid (rdone_any k2 _ w6 T6.out.r2)
            have HL1 := Lib.hid (left_any k1 _ w6 T6.out.r1)
            have HL2 := Lib.hid (rleft_any k2 _ w6 T6.out.r2)
            obtain ⟨D, hD⟩ : ∃ D, D = rdone q2 := ⟨_, rfl⟩
            obtain ⟨L, hL⟩ : ∃ L, L = q2.rest.length := ⟨_, rfl⟩
            rw [← hD] at HD1 HD2
            rw [← hL] at HL1 HL2
            clear hD hL
            go_wp2_with fail
            refine HL1.out.mono ?_
            rintro e w7 ⟨rfl, rfl⟩
            go_wp2_with fail
            refine HL2.out.mono ?_
            rintro e w7 ⟨rfl, rfl⟩
            go_wp2_with fail
            refine HD1.out.mono ?_
            rintro e w7 ⟨rfl, rfl⟩
            go_wp2_with fail
            refine HD2.out.mono ?_
            rintro e w7 ⟨rfl, rfl⟩
            go_wp2
            go_roundw
            case rel => exact ⟨k + 1, q2, by omega, by go_num, T6.out⟩
            case measure => simp [intOf]; omega
          · rw [hkk] at HKZ
            have HKY := Lib.hid HKZ
            clear HKZ hkk
            go_wp2_with fail
            refine (HKY.out _).mono ?_
            rintro e w4 ⟨rfl, b4⟩
            have T4 : Hid (Two k1 k2 q W w4) := ⟨HW.out.b.trans (b4.mono HW.out.b.size), HW.out.r1.below b4 HW.out.r1.lt, HW.out.r2.below b4 HW.out.r2.lt, HW.out.ok, HW.out.len, HW.out.ne, HW.out.h1, HW.out.h2⟩
            clear b4
            have HQOK : Hid ((rlist rint q).2.Ok) := rlist_ok (fun s hs => rint_ok hs) T4.out.ok
            have HQL : Hid ((rlist rint q).2.rest.length ≤ 400) := Nat.le_trans (rlist_le rint_le q) T4.out.len
            have C5 := Lib.hid (rdNums_any k1 q w4 T4.out.r1 T4.out.ok (HES.out _ T4.out.b) (Nat.le_trans HEE.out.lt HB2.out) (by have := T4.out.len; omega))
            have C6 : Hid (∀ w, RR w k2 q → Calls Tryd.prog 32 #[.pointer (some ⟨k2, 0, none⟩)] w (RListsint k2 q w)) := fun w h => rrNums_any k2 q w h T4.out.ok (by have := T4.out.len; omega)
            go_wp2_with fail
            refine C5.out.mono ?_
            rintro e w5 ⟨v5, rfl, o5, r5, f5⟩
            obtain ⟨q2, hq2⟩ : ∃ q2, q2 = (rlist rint q).2 := ⟨_, rfl⟩
            obtain ⟨x, hx⟩ : ∃ x, x = (rlist rint q).1 := ⟨_, rfl⟩
            rw [← hq2] at r5 HQOK HQL
            rw [← hx] at o5
            have RR5 : Hid (RR w5 k2 q) := T4.out.r2.fr f5 (fun e => T4.out.ne e.symm)
            have F5 := Lib.hid f5
            have R5 := Lib.hid r5
            have O5 := Lib.hid o5
            have HX := Lib.hid hx
            have HQ2 := Lib.hid hq2
            clear f5 r5 hx hq2 o5
            go_wp2_with fail
            refine (C6.out _ RR5.out).mono ?_
            rintro e w6 ⟨v6, rfl, o6, r6, f6⟩
            have r5 := R5.out
            have f5 := F5.out
            rw [← HQ2.out] at r6
            rw [← HX.out] at o6
            have LV6 := Lib.hid (LV.of_own o6)
            have LV5 : Hid (LV vi w6 v5 x) := LV.of_own (O5.out.fr f6 (fun g hg e => by
              have h1 := (O5.out.block_ge g hg).1
              have h2 := T4.out.r2.lt
              omega))
            have T6a : Hid (Two k1 k2 q2 W w6) := by
              have h1 := fr_below T4.out.b T4.out.h1 f5
              exact ⟨fr_below h1 T4.out.h2 f6, r5.fr f6 T4.out.ne, r6, HQOK.out, HQL.out, T4.out.ne, T4.out.h1, T4.out.h2⟩
            clear f5 f6 r5 r6 o6
            have HSM : Hid (Calls Tryd.prog 30 #[v5, v6] w6 fun e w' => e = .returned (.bool true) ∧ ∃ n, w' = w6.drewN n) := by
              have h1 := sameint_any v5 v6 x x w6 LV5.out LV6.out
              have h2 : (x == x) = true := by simp
              rw [h2] at h1
              exact h1
            go_wp2_with fail
            refine HSM.out.mono ?_
            rintro e w6b ⟨rfl, nb, hwb⟩
            have T6b : Hid (Two k1 k2 q2 W w6b) := by
              subst hwb
              exact ⟨⟨T6a.out.b.os, T6a.out.b.tape, T6a.out.b.output, T6a.out.b.size, T6a.out.b.block⟩, T6a.out.r1, T6a.out.r2, T6a.out.ok, T6a.out.len, T6a.out.ne, T6a.out.h1, T6a.out.h2⟩
            clear hwb T6a HSM LV5 LV6
            obtain ⟨w6, hw6⟩ : ∃ w6, w6 = w6b := ⟨_, rfl⟩
            subst hw6
            have T6 := T6b
            have HD1 := Lib.hid (done_any k1 _ w6 T6.out.r1)
            have HD2 := Lib.hid (rdone_any k2 _ w6 T6.out.r2)
            have HL1 := Lib.hid (left_any k1 _ w6 T6.out.r1)
            have HL2 := Lib.hid (rleft_any k2 _ w6 T6.out.r2)
            obtain ⟨D, hD⟩ : ∃ D, D = rdone q2 := ⟨_, rfl⟩
            obtain ⟨L, hL⟩ : ∃ L, L = q2.rest.length := ⟨_, rfl⟩
            rw [← hD] at HD1 HD2
            rw [← hL] at HL1 HL2
            clear hD hL
            go_wp2_with fail
            refine HL1.out.mono ?_
            rintro e w7 ⟨rfl, rfl⟩
            go_wp2_with fail
            refine HL2.out.mono ?_
            rintro e w7 ⟨rfl, rfl⟩
            go_wp2_with fail
            refine HD1.out.mono ?_
            rintro e w7 ⟨rfl, rfl⟩
            go_wp2_with fail
            refine HD2.out.mono ?_
            rintro e w7 ⟨rfl, rfl⟩
            go_wp2
            go_roundw
            case rel => exact ⟨k + 1, q2, by omega, by go_num, T6.out⟩
            case measure => simp [intOf]; omega
          · rw [hkk] at HKZ
            have HKY := Lib.hid HKZ
            clear HKZ hkk
            go_wp2_with fail
            refine (HKY.out _).mono ?_
            rintro e w4 ⟨rfl, b4⟩
            have T4 : Hid (Two k1 k2 q W w4) := ⟨HW.out.b.trans (b4.mono HW.out.b.size), HW.out.r1.below b4 HW.out.r1.lt, HW.out.r2.below b4 HW.out.r2.lt, HW.out.ok, HW.out.len, HW.out.ne, HW.out.h1, HW.out.h2⟩
            clear b4
            have HQOK : Hid ((rlist rtext q).2.Ok) := rlist_ok (fun s hs => rtext_ok hs) T4.out.ok
            have HQL : Hid ((rlist rtext q).2.rest.length ≤ 400) := Nat.le_trans (rlist_le rtext_le q) T4.out.len
            have C5 := Lib.hid (rdTexts_any k1 q w4 T4.out.r1 T4.out.ok (HES.out _ T4.out.b) (Nat.le_trans HEE.out.lt HB2.out) (by have := T4.out.len; omega))
            have C6 : Hid (∀ w, RR w k2 q → Calls Tryd.prog 35 #[.pointer (some ⟨k2, 0, none⟩)] w (RListsstring k2 q w)) := fun w h => rrTexts_any k2 q w h T4.out.ok (by have := T4.out.len; omega)
            go_wp2_with fail
            refine C5.out.mono ?_
            rintro e w5 ⟨v5, rfl, o5, r5, f5⟩
            obtain ⟨q2, hq2⟩ : ∃ q2, q2 = (rlist rtext q).2 := ⟨_, rfl⟩
            obtain ⟨x, hx⟩ : ∃ x, x = (rlist rtext q).1 := ⟨_, rfl⟩
            rw [← hq2] at r5 HQOK HQL
            rw [← hx] at o5
            have RR5 : Hid (RR w5 k2 q) := T4.out.r2.fr f5 (fun e => T4.out.ne e.symm)
            have F5 := Lib.hid f5
            have R5 := Lib.hid r5
            have O5 := Lib.hid o5
            have HX := Lib.hid hx
            have HQ2 := Lib.hid hq2
            clear f5 r5 hx hq2 o5
            go_wp2_with fail
            refine (C6.out _ RR5.out).mono ?_
            rintro e w6 ⟨v6, rfl, o6, r6, f6⟩
            have r5 := R5.out
            have f5 := F5.out
            rw [← HQ2.out] at r6
            rw [← HX.out] at o6
            have LV6 := Lib.hid (LV.of_own o6)
            have LV5 : Hid (LV vs w6 v5 x) := LV.of_own (O5.out.fr f6 (fun g hg e => by
              have h1 := (O5.out.block_ge g hg).1
              have h2 := T4.out.r2.lt
              omega))
            have T6a : Hid (Two k1 k2 q2 W w6) := by
              have h1 := fr_below T4.out.b T4.out.h1 f5
              exact ⟨fr_below h1 T4.out.h2 f6, r5.fr f6 T4.out.ne, r6, HQOK.out, HQL.out, T4.out.ne, T4.out.h1, T4.out.h2⟩
            clear f5 f6 r5 r6 o6
            have HSM : Hid (Calls Tryd.prog 33 #[v5, v6] w6 fun e w' => e = .returned (.bool true) ∧ ∃ n, w' = w6.drewN n) := by
              have h1 := samestring_any v5 v6 x x w6 LV5.out LV6.out
              have h2 : (x == x) = true := by simp
              rw [h2] at h1
              exact h1
            go_wp2_with fail
            refine HSM.out.mono ?_
            rintro e w6b ⟨rfl, nb, hwb⟩
            have T6b : Hid (Two k1 k2 q2 W w6b) := by
              subst hwb
              exact ⟨⟨T6a.out.b.os, T6a.out.b.tape, T6a.out.b.output, T6a.out.b.size, T6a.out.b.block⟩, T6a.out.r1, T6a.out.r2, T6a.out.ok, T6a.out.len, T6a.out.ne, T6a.out.h1, T6a.out.h2⟩
            clear hwb T6a HSM LV5 LV6
            obtain ⟨w6, hw6⟩ : ∃ w6, w6 = w6b := ⟨_, rfl⟩
            subst hw6
            have T6 := T6b
            have HD1 := Lib.hid (done_any k1 _ w6 T6.out.r1)
            have HD2 := Lib.hid (rdone_any k2 _ w6 T6.out.r2)
            have HL1 := Lib.hid (left_any k1 _ w6 T6.out.r1)
            have HL2 := Lib.hid (rleft_any k2 _ w6 T6.out.r2)
            obtain ⟨D, hD⟩ : ∃ D, D = rdone q2 := ⟨_, rfl⟩
            obtain ⟨L, hL⟩ : ∃ L, L = q2.rest.length := ⟨_, rfl⟩
            rw [← hD] at HD1 HD2
            rw [← hL] at HL1 HL2
            clear hD hL
            go_wp2_with fail
            refine HL1.out.mono ?_
            rintro e w7 ⟨rfl, rfl⟩
            go_wp2_with fail
            refine HL2.out.mono ?_
            rintro e w7 ⟨rfl, rfl⟩
            go_wp2_with fail
            refine HD1.out.mono ?_
            rintro e w7 ⟨rfl, rfl⟩
            go_wp2_with fail
            refine HD2.out.mono ?_
            rintro e w7 ⟨rfl, rfl⟩
            go_wp2
            go_roundw
            case rel => exact ⟨k + 1, q2, by omega, by go_num, T6.out⟩
            case measure => simp [intOf]; omega
        · go_wp2
          go_ret
          exact ⟨rfl, HW.out.b⟩
end Wr
end Go.Proofs.YtfdacinedbdncaaDoor
