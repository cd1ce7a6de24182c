/- missivelaw02.WireAgain. -/
import Derived.Test.YtfdacinedbdncaaDoorWrBackW
namespace Go.Proofs.YtfdacinedbdncaaDoor
open Go.RowKit
namespace Wr
theorem dn_true (q : St) (hb : q.bad = false) (hr : q.rest = []) : rdone q = true := by unfold rdone; rw [hb, hr]; rfl
theorem dn_false (q : St) (hb : q.bad = true) : rdone q = false := by unfold rdone; rw [hb]; rfl
theorem rtext_out (q : St) : (rtext q).1.length ≤ q.rest.length := by
  unfold rtext
  simp only
  split
  · simp
  · split
    · simp
    · have := rnum_le 58 0 q
      simp only [List.length_take]; omega
theorem rmany_all {α : Type} {one : St → α × St} {P : α → Prop} {B : Nat} (hle : ∀ s, (one s).2.rest.length ≤ s.rest.length) (h : ∀ s : St, s.rest.length ≤ B → P (one s).1) : ∀ (n : Nat) (s : St), s.rest.length ≤ B → ∀ x ∈ (rmany one n s).1, P x
  | 0, s, _, x, hx => by simp [rmany] at hx
  | n + 1, s, hs, x, hx => by
    simp only [rmany] at hx
    split at hx
    · simp at hx
    · simp only [List.mem_cons] at hx
      rcases hx with rfl | hx
      · exact h s hs
      · exact rmany_all hle h n _ (Nat.le_trans (hle s) hs) x hx
theorem rtext_le (q : St) : (rtext q).2.rest.length ≤ q.rest.length := by
  have h1 := rnum_le 58 0 q
  have h2 := rclose_le 44 ⟨(rnum 58 0 q).2.rest.drop (rnum 58 0 q).1.toNat, (rnum 58 0 q).2.bad⟩
  simp only [List.length_drop] at h2
  unfold rtext
  simp only
  split
  · simp [St.fail]
  · split <;> (simp only; omega)
theorem rlist_all {α : Type} {one : St → α × St} {P : α → Prop} {B : Nat} (hle : ∀ s, (one s).2.rest.length ≤ s.rest.length) (h : ∀ s : St, s.rest.length ≤ B → P (one s).1) (q : St) (hq : q.rest.length ≤ B) : ∀ x ∈ (rlist one q).1, P x := by
  intro x hx
  unfold rlist at hx
  simp only at hx
  split at hx
  · simp at hx
  · exact rmany_all hle h _ _ (Nat.le_trans (rnum_le 91 0 q) hq) x hx
theorem rlist_cnt {α : Type} {one : St → α × St} (h : ∀ s, (one s).2.bad = false → (one s).2.rest.length < s.rest.length) (q : St) : (rlist one q).1.length ≤ q.rest.length + 1 := by
  unfold rlist
  simp only
  split
  · simp
  · exact Nat.le_trans (rmany_len h _ _) (by have := rnum_le 91 0 q; omega)
theorem rlint_out (q : St) (hq : q.rest.length ≤ 400) : (elist eint (rlist rint q).1).length ≤ 1000000 ∧ ∀ y ∈ (rlist rint q).1, I64 y := by
  have h1 := rlist_all (one := rint) (P := I64) (B := 400) (fun s => rnum_le 59 _ s) (fun s _ => rnum_i64 59 _ s) q hq
  have h2 := rlist_cnt rint_lt q
  have h3 := flat_len eint 21 _ (fun y hy => eint_len (h1 y hy))
  have h4 := itoa_le (rlist rint q).1.length (by omega)
  refine ⟨?_, h1⟩
  unfold elist; simp only [List.length_append, List.length_cons, List.length_nil]; omega
theorem rltext_out (q : St) (hq : q.rest.length ≤ 400) : (elist etext (rlist rtext q).1).length ≤ 1000000 ∧ ∀ t ∈ (rlist rtext q).1, t.length ≤ 5000000000 := by
  have h1 := rlist_all (P := fun t : List UInt8 => t.length ≤ 400) (B := 400) rtext_le (fun s hs => Nat.le_trans (rtext_out s) hs) q hq
  have h2 := rlist_cnt rtext_lt q
  have h3 := flat_len etext 422 _ (fun t ht => by have h5 := h1 t ht; have := itoa_le t.length (by omega); unfold etext; simp only [List.length_append, List.length_cons, List.length_nil]; omega)
  have h4 := itoa_le (rlist rtext q).1.length (by omega)
  refine ⟨?_, fun t ht => by have := h1 t ht; omega⟩
  unfold elist; simp only [List.length_append, List.length_cons, List.length_nil]; omega
set_option maxRecDepth 100000 in
set_option maxHeartbeats 4000000 in
theorem again_0 (s : ByteArray) (what : Int) (W : World) (hE : Env W) (htl : s.size ≤ maxLen) (hk : what % 5 = 0) :
    Calls Tryd.prog 6 #[.string s, .int .i64 what] W fun e w' => e = .returned (.bool true) ∧ Below W.heap.size W w' := by
  have HES := head_steps hE
  have HEE := Lib.hid hE
  unfold maxLen at htl
  have HK := Lib.hid (fun w => kind_any what 0 ⟨#[]⟩ none none 0 0 0 0 w)
  rw [hk] at HK
  clear hE hk
  go_enter Tryd.func6, Tryd.ntmps6
  go_wp2_with fail
  refine (small_any W HEE.out).mono ?_
  rintro e w1 ⟨rfl, b1⟩
  have B1 := Lib.hid b1
  clear b1
  by_cases ht : 400 < s.size
  · have hd : decide (400 < s.size) = true := decide_eq_true ht
    go_wp2
    go_ret
    exact ⟨rfl, B1.out⟩
  · have hd : decide (400 < s.size) = false := decide_eq_false ht
    have HSL : Hid (s.data.toList.length = s.size) := Array.length_toList
    go_wp2_with fail
    refine (open_any _ _).mono ?_
    rintro e w2 ⟨rfl, r2, b2⟩
    have B2 := Lib.hid (B1.out.trans (b2.mono B1.out.size))
    have R2 := Lib.hid r2
    have HB2 : Hid (W.heap.size ≤ w1.heap.size) := B1.out.size
    obtain ⟨k, hk⟩ : ∃ k, k = w1.heap.size := ⟨_, rfl⟩
    rw [← hk] at R2 HB2 ⊢
    have HKW := Lib.hid hk
    clear r2 b2 hk
    go_wp2_with fail
    refine (HK.out _).mono ?_
    rintro e w3 ⟨rfl, b3⟩
    have B3 := Lib.hid (B2.out.trans (b3.mono B2.out.size))
    have R3 : Hid (Rd 54 w3 k ⟨s.data.toList, false⟩) := R2.out.below b3 R2.out.lt
    clear b3
    have HM := Lib.hid (rdNum_any k _ w3 R3.out (HES.out _ B3.out) (by have := HSL.out; simp only; omega))
    have HQOK : Hid ((rnum 59 0 ⟨s.data.toList, false⟩).2.Ok) := rnum_ok (fun h => by cases h)
    obtain ⟨z, hz⟩ : ∃ z, z = (rnum 59 0 ⟨s.data.toList, false⟩).1 := ⟨_, rfl⟩
    obtain ⟨q, hq⟩ : ∃ q, q = (rnum 59 0 ⟨s.data.toList, false⟩).2 := ⟨_, rfl⟩
    have HI64 : Hid (I64 z) := by show I64 z; rw [hz]; exact rnum_i64 _ _ _
    obtain ⟨T, hT⟩ : ∃ T, T = bs (enum z) := ⟨_, rfl⟩
    have HGOOD : Hid (q.bad = false → s.data.toList = T.data.toList ++ q.rest) := fun hb => by
      have := by
        obtain ⟨_, e, _, g⟩ := rnum_good (c := 59) (least := 0) (s := ⟨s.data.toList, false⟩) (n := z) (s' := q) (by rw [hz, hq]) hb
        show s.data.toList = enum (rnum 59 0 ⟨s.data.toList, false⟩).1 ++ (rnum 59 0 ⟨s.data.toList, false⟩).2.rest
        rw [← hz, ← hq]
        unfold enum eint
        rw [if_neg (by omega)]
        simpa using e
      rw [← hq, ← hz] at this
      rw [hT]; exact this
    go_wp2_with fail
    refine HM.out.mono ?_
    rintro e w4 ⟨he, r4, f4⟩
    have he2 : e = .returned (.int .i64 z) := by rw [hz]; exact he
    rw [← hq] at r4 HQOK
    subst he2
    have B4 := Lib.hid (fr_below B3.out HB2.out f4)
    have R4 := Lib.hid r4
    have HW := Lib.hid (wNum_any z HI64.out w4 (HES.out _ B4.out))
    clear r4 f4 he
    rw [← hT] at HW
    clear hz hq hT
    go_wp2_with fail
    refine HW.out.mono ?_
    rintro e w5 ⟨rfl, b5⟩
    have B5 := Lib.hid (B4.out.trans (b5.mono B4.out.size))
    have R5 : Hid (Rd 54 w5 k q) := R4.out.below b5 R4.out.lt
    clear b5
    -- behind the encoding: world w5, reader q, text T
    have hqok : q.Ok := HQOK.out
    have HDN := Lib.hid (fun w h => done_any k q w h)
    have HLF := Lib.hid (fun w h => left_any k q w h)
    cases hbad : q.bad with
    | true =>
      have hr0 := hqok hbad
      have HD0 : Hid (rdone q = false) := dn_false q hbad
      rw [HD0.out] at HDN
      rw [hr0] at HLF
      clear hr0 hbad hqok
      go_wp2_with fail
      refine (HLF.out _ R5.out).mono ?_
      rintro e w6 ⟨rfl, rfl⟩
      go_wp2_with fail
      refine (HDN.out _ R5.out).mono ?_
      rintro e w7 ⟨rfl, rfl⟩
      go_wp2
      go_ret
      exact ⟨rfl, B5.out⟩
    | false =>
      have hgood : s.data.toList = T.data.toList ++ q.rest := HGOOD.out hbad
      have hsz : s.size = T.size + q.rest.length := by
        have h1 := HSL.out
        have h2 : T.data.toList.length = T.size := Array.length_toList
        rw [← h1, hgood, List.length_append, h2]
      have hex : s.extract 0 T.size = T := by
        have h2 : T.data.toList.length = T.size := Array.length_toList
        have e : s = bs (T.data.toList ++ q.rest) := by rw [← hgood]
        rw [e, upto_eq, ← h2, List.take_left]
      obtain ⟨L, hL⟩ : ∃ L, L = q.rest.length := ⟨_, rfl⟩
      rw [← hL] at hsz HLF
      have hT1 : T.size ≤ s.size := by omega
      have hT2 : (s.size : Int) - (L : Int) = (T.size : Int) := by omega
      have hT3 : decide (T.size ≤ s.size) = true := decide_eq_true hT1
      have hT4 : max (0 : Int) (min (T.size : Int) (s.size : Int)) = (T.size : Int) := by omega
      have HEX := Lib.hid hex
      have HT2 := Lib.hid hT2
      have HT4 := Lib.hid hT4
      by_cases h0 : L = 0
      · have HD0 : Hid (rdone q = true) := dn_true q hbad (List.length_eq_zero_iff.1 (hL.symm.trans h0))
        rw [HD0.out] at HDN
        have HTS : Hid (T.toList == s.toList) := by
          show (T.toList == s.toList) = true
          have e : T = s := by
            have h3 : T.size = s.size := by omega
            rw [h3] at hex
            rw [← hex, ← bs_self s, upto_eq, bs_size, List.take_length]
          rw [e]; simp
        rw [h0] at HLF
        clear hbad hqok hgood hL hsz hex hT2 hT4 h0
        go_wp2_with fail
        refine (HLF.out _ R5.out).mono ?_
        rintro e w6 ⟨rfl, rfl⟩
        go_wp2_with fail
        refine (HDN.out _ R5.out).mono ?_
        rintro e w7 ⟨rfl, rfl⟩
        go_wp2_with fail
        refine (HLF.out _ R5.out).mono ?_
        rintro e w6 ⟨rfl, rfl⟩
        go_wp2
        go_ret
        exact ⟨congrArg (fun x => Ending.returned (Value.bool x)) HTS.out, B5.out⟩
      · have hl0 : ((L : Int) == 0) = false := beq_false_of_ne (by omega)
        have hl1 : (L : Int) ≤ 400 := by omega
        clear hbad hqok hgood hL hsz hex hT4 h0
        go_wp2_with fail
        refine (HLF.out _ R5.out).mono ?_
        rintro e w6 ⟨rfl, rfl⟩
        go_wp2_with fail
        refine (HLF.out _ R5.out).mono ?_
        rintro e w6 ⟨rfl, rfl⟩
        have hex := HEX.out
        go_wp2
        go_ret
        have e9 : s.extract 0 (max (0 : Int) (min (T.size : Int) (s.size : Int))).toNat = T := by
          rw [HT4.out]; exact HEX.out
        refine ⟨?_, B5.out⟩
        rw [e9]
        exact congrArg (fun x => Ending.returned (Value.bool x)) (by simp)
set_option maxRecDepth 100000 in
set_option maxHeartbeats 4000000 in
theorem again_1 (s : ByteArray) (what : Int) (W : World) (hE : Env W) (htl : s.size ≤ maxLen) (hk : what % 5 = 1) :
    Calls Tryd.prog 6 #[.string s, .int .i64 what] W fun e w' => e = .returned (.bool true) ∧ Below W.heap.size W w' := by
  have HES := head_steps hE
  have HEE := Lib.hid hE
  unfold maxLen at htl
  have HK := Lib.hid (fun w => kind_any what 0 ⟨#[]⟩ none none 0 0 0 0 w)
  rw [hk] at HK
  clear hE hk
  go_enter Tryd.func6, Tryd.ntmps6
  go_wp2_with fail
  refine (small_any W HEE.out).mono ?_
  rintro e w1 ⟨rfl, b1⟩
  have B1 := Lib.hid b1
  clear b1
  by_cases ht : 400 < s.size
  · have hd : decide (400 < s.size) = true := decide_eq_true ht
    go_wp2
    go_ret
    exact ⟨rfl, B1.out⟩
  · have hd : decide (400 < s.size) = false := decide_eq_false ht
    have HSL : Hid (s.data.toList.length = s.size) := Array.length_toList
    go_wp2_with fail
    refine (open_any _ _).mono ?_
    rintro e w2 ⟨rfl, r2, b2⟩
    have B2 := Lib.hid (B1.out.trans (b2.mono B1.out.size))
    have R2 := Lib.hid r2
    have HB2 : Hid (W.heap.size ≤ w1.heap.size) := B1.out.size
    obtain ⟨k, hk⟩ : ∃ k, k = w1.heap.size := ⟨_, rfl⟩
    rw [← hk] at R2 HB2 ⊢
    have HKW := Lib.hid hk
    clear r2 b2 hk
    go_wp2_with fail
    refine (HK.out _).mono ?_
    rintro e w3 ⟨rfl, b3⟩
    have B3 := Lib.hid (B2.out.trans (b3.mono B2.out.size))
    have R3 : Hid (Rd 54 w3 k ⟨s.data.toList, false⟩) := R2.out.below b3 R2.out.lt
    clear b3
    have HM := Lib.hid (rdInt_any k _ w3 R3.out (HES.out _ B3.out) (by have := HSL.out; simp only; omega))
    have HQOK : Hid ((rint ⟨s.data.toList, false⟩).2.Ok) := rint_ok (fun h => by cases h)
    obtain ⟨z, hz⟩ : ∃ z, z = (rint ⟨s.data.toList, false⟩).1 := ⟨_, rfl⟩
    obtain ⟨q, hq⟩ : ∃ q, q = (rint ⟨s.data.toList, false⟩).2 := ⟨_, rfl⟩
    have HI64 : Hid (I64 z) := by show I64 z; rw [hz]; exact rnum_i64 _ _ _
    obtain ⟨T, hT⟩ : ∃ T, T = bs (eint z) := ⟨_, rfl⟩
    have HGOOD : Hid (q.bad = false → s.data.toList = T.data.toList ++ q.rest) := fun hb => by
      have := (rint_good (s := ⟨s.data.toList, false⟩) (by rw [← hq]; exact hb)).2.1
      rw [← hq, ← hz] at this
      rw [hT]; exact this
    go_wp2_with fail
    refine HM.out.mono ?_
    rintro e w4 ⟨he, r4, f4⟩
    have he2 : e = .returned (.int .i64 z) := by rw [hz]; exact he
    rw [← hq] at r4 HQOK
    subst he2
    have B4 := Lib.hid (fr_below B3.out HB2.out f4)
    have R4 := Lib.hid r4
    have HW := Lib.hid (wInt_any z HI64.out w4 (HES.out _ B4.out))
    clear r4 f4 he
    rw [← hT] at HW
    clear hz hq hT
    go_wp2_with fail
    refine HW.out.mono ?_
    rintro e w5 ⟨rfl, b5⟩
    have B5 := Lib.hid (B4.out.trans (b5.mono B4.out.size))
    have R5 : Hid (Rd 54 w5 k q) := R4.out.below b5 R4.out.lt
    clear b5
    -- behind the encoding: world w5, reader q, text T
    have hqok : q.Ok := HQOK.out
    have HDN := Lib.hid (fun w h => done_any k q w h)
    have HLF := Lib.hid (fun w h => left_any k q w h)
    cases hbad : q.bad with
    | true =>
      have hr0 := hqok hbad
      have HD0 : Hid (rdone q = false) := dn_false q hbad
      rw [HD0.out] at HDN
      rw [hr0] at HLF
      clear hr0 hbad hqok
      go_wp2_with fail
      refine (HLF.out _ R5.out).mono ?_
      rintro e w6 ⟨rfl, rfl⟩
      go_wp2_with fail
      refine (HDN.out _ R5.out).mono ?_
      rintro e w7 ⟨rfl, rfl⟩
      go_wp2
      go_ret
      exact ⟨rfl, B5.out⟩
    | false =>
      have hgood : s.data.toList = T.data.toList ++ q.rest := HGOOD.out hbad
      have hsz : s.size = T.size + q.rest.length := by
        have h1 := HSL.out
        have h2 : T.data.toList.length = T.size := Array.length_toList
        rw [← h1, hgood, List.length_append, h2]
      have hex : s.extract 0 T.size = T := by
        have h2 : T.data.toList.length = T.size := Array.length_toList
        have e : s = bs (T.data.toList ++ q.rest) := by rw [← hgood]
        rw [e, upto_eq, ← h2, List.take_left]
      obtain ⟨L, hL⟩ : ∃ L, L = q.rest.length := ⟨_, rfl⟩
      rw [← hL] at hsz HLF
      have hT1 : T.size ≤ s.size := by omega
      have hT2 : (s.size : Int) - (L : Int) = (T.size : Int) := by omega
      have hT3 : decide (T.size ≤ s.size) = true := decide_eq_true hT1
      have hT4 : max (0 : Int) (min (T.size : Int) (s.size : Int)) = (T.size : Int) := by omega
      have HEX := Lib.hid hex
      have HT2 := Lib.hid hT2
      have HT4 := Lib.hid hT4
      by_cases h0 : L = 0
      · have HD0 : Hid (rdone q = true) := dn_true q hbad (List.length_eq_zero_iff.1 (hL.symm.trans h0))
        rw [HD0.out] at HDN
        have HTS : Hid (T.toList == s.toList) := by
          show (T.toList == s.toList) = true
          have e : T = s := by
            have h3 : T.size = s.size := by omega
            rw [h3] at hex
            rw [← hex, ← bs_self s, upto_eq, bs_size, List.take_length]
          rw [e]; simp
        rw [h0] at HLF
        clear hbad hqok hgood hL hsz hex hT2 hT4 h0
        go_wp2_with fail
        refine (HLF.out _ R5.out).mono ?_
        rintro e w6 ⟨rfl, rfl⟩
        go_wp2_with fail
        refine (HDN.out _ R5.out).mono ?_
        rintro e w7 ⟨rfl, rfl⟩
        go_wp2_with fail
        refine (HLF.out _ R5.out).mono ?_
        rintro e w6 ⟨rfl, rfl⟩
        go_wp2
        go_ret
        exact ⟨congrArg (fun x => Ending.returned (Value.bool x)) HTS.out, B5.out⟩
      · have hl0 : ((L : Int) == 0) = false := beq_false_of_ne (by omega)
        have hl1 : (L : Int) ≤ 400 := by omega
        clear hbad hqok hgood hL hsz hex hT4 h0
        go_wp2_with fail
        refine (HLF.out _ R5.out).mono ?_
        rintro e w6 ⟨rfl, rfl⟩
        go_wp2_with fail
        refine (HLF.out _ R5.out).mono ?_
        rintro e w6 ⟨rfl, rfl⟩
        have hex := HEX.out
        go_wp2
        go_ret
        have e9 : s.extract 0 (max (0 : Int) (min (T.size : Int) (s.size : Int))).toNat = T := by
          rw [HT4.out]; exact HEX.out
        refine ⟨?_, B5.out⟩
        rw [e9]
        exact congrArg (fun x => Ending.returned (Value.bool x)) (by simp)
set_option maxRecDepth 100000 in
set_option maxHeartbeats 4000000 in
theorem again_2 (s : ByteArray) (what : Int) (W : World) (hE : Env W) (htl : s.size ≤ maxLen) (hk : what % 5 = 2) :
    Calls Tryd.prog 6 #[.string s, .int .i64 what] W fun e w' => e = .returned (.bool true) ∧ Below W.heap.size W w' := by
  have HES := head_steps hE
  have HEE := Lib.hid hE
  unfold maxLen at htl
  have HK := Lib.hid (fun w => kind_any what 0 ⟨#[]⟩ none none 0 0 0 0 w)
  rw [hk] at HK
  clear hE hk
  go_enter Tryd.func6, Tryd.ntmps6
  go_wp2_with fail
  refine (small_any W HEE.out).mono ?_
  rintro e w1 ⟨rfl, b1⟩
  have B1 := Lib.hid b1
  clear b1
  by_cases ht : 400 < s.size
  · have hd : decide (400 < s.size) = true := decide_eq_true ht
    go_wp2
    go_ret
    exact ⟨rfl, B1.out⟩
  · have hd : decide (400 < s.size) = false := decide_eq_false ht
    have HSL : Hid (s.data.toList.length = s.size) := Array.length_toList
    go_wp2_with fail
    refine (open_any _ _).mono ?_
    rintro e w2 ⟨rfl, r2, b2⟩
    have B2 := Lib.hid (B1.out.trans (b2.mono B1.out.size))
    have R2 := Lib.hid r2
    have HB2 : Hid (W.heap.size ≤ w1.heap.size) := B1.out.size
    obtain ⟨k, hk⟩ : ∃ k, k = w1.heap.size := ⟨_, rfl⟩
    rw [← hk] at R2 HB2 ⊢
    have HKW := Lib.hid hk
    clear r2 b2 hk
    go_wp2_with fail
    refine (HK.out _).mono ?_
    rintro e w3 ⟨rfl, b3⟩
    have B3 := Lib.hid (B2.out.trans (b3.mono B2.out.size))
    have R3 : Hid (Rd 54 w3 k ⟨s.data.toList, false⟩) := R2.out.below b3 R2.out.lt
    clear b3
    have HM := Lib.hid (rdText_any k _ w3 R3.out (HES.out _ B3.out) (by have := HSL.out; simp only; omega))
    have HQOK : Hid ((rtext ⟨s.data.toList, false⟩).2.Ok) := rtext_ok (fun h => by cases h)
    obtain ⟨z, hz⟩ : ∃ z, z = (rtext ⟨s.data.toList, false⟩).1 := ⟨_, rfl⟩
    obtain ⟨q, hq⟩ : ∃ q, q = (rtext ⟨s.data.toList, false⟩).2 := ⟨_, rfl⟩
    have HZL : Hid (z.length ≤ 400) := by
      show _ ≤ _
      rw [hz]
      exact Nat.le_trans (rtext_out ⟨s.data.toList, false⟩) (by have := HSL.out; simp only; omega)
    obtain ⟨T, hT⟩ : ∃ T, T = bs (etext z) := ⟨_, rfl⟩
    have HGOOD : Hid (q.bad = false → s.data.toList = T.data.toList ++ q.rest) := fun hb => by
      have := (rtext_good (s := ⟨s.data.toList, false⟩) (by rw [← hq]; exact hb)).2
      rw [← hq, ← hz] at this
      rw [hT]; exact this
    go_wp2_with fail
    refine HM.out.mono ?_
    rintro e w4 ⟨he, r4, f4⟩
    have he2 : e = .returned (.string (bs z)) := by rw [hz]; exact he
    rw [← hq] at r4 HQOK
    subst he2
    have B4 := Lib.hid (fr_below B3.out HB2.out f4)
    have R4 := Lib.hid r4
    have HW := Lib.hid (wText_any (bs z) (by rw [bs_size]; have := HZL.out; omega) w4 (HES.out _ B4.out))
    clear r4 f4 he
    rw [← hT] at HW
    clear hz hq hT
    go_wp2_with fail
    refine HW.out.mono ?_
    rintro e w5 ⟨rfl, b5⟩
    have B5 := Lib.hid (B4.out.trans (b5.mono B4.out.size))
    have R5 : Hid (Rd 54 w5 k q) := R4.out.below b5 R4.out.lt
    clear b5
    -- behind the encoding: world w5, reader q, text T
    have hqok : q.Ok := HQOK.out
    have HDN := Lib.hid (fun w h => done_any k q w h)
    have HLF := Lib.hid (fun w h => left_any k q w h)
    cases hbad : q.bad with
    | true =>
      have hr0 := hqok hbad
      have HD0 : Hid (rdone q = false) := dn_false q hbad
      rw [HD0.out] at HDN
      rw [hr0] at HLF
      clear hr0 hbad hqok
      go_wp2_with fail
      refine (HLF.out _ R5.out).mono ?_
      rintro e w6 ⟨rfl, rfl⟩
      go_wp2_with fail
      refine (HDN.out _ R5.out).mono ?_
      rintro e w7 ⟨rfl, rfl⟩
      go_wp2
      go_ret
      exact ⟨rfl, B5.out⟩
    | false =>
      have hgood : s.data.toList = T.data.toList ++ q.rest := HGOOD.out hbad
      have hsz : s.size = T.size + q.rest.length := by
        have h1 := HSL.out
        have h2 : T.data.toList.length = T.size := Array.length_toList
        rw [← h1, hgood, List.length_append, h2]
      have hex : s.extract 0 T.size = T := by
        have h2 : T.data.toList.length = T.size := Array.length_toList
        have e : s = bs (T.data.toList ++ q.rest) := by rw [← hgood]
        rw [e, upto_eq, ← h2, List.take_left]
      obtain ⟨L, hL⟩ : ∃ L, L = q.rest.length := ⟨_, rfl⟩
      rw [← hL] at hsz HLF
      have hT1 : T.size ≤ s.size := by omega
      have hT2 : (s.size : Int) - (L : Int) = (T.size : Int) := by omega
      have hT3 : decide (T.size ≤ s.size) = true := decide_eq_true hT1
      have hT4 : max (0 : Int) (min (T.size : Int) (s.size : Int)) = (T.size : Int) := by omega
      have HEX := Lib.hid hex
      have HT2 := Lib.hid hT2
      have HT4 := Lib.hid hT4
      by_cases h0 : L = 0
      · have HD0 : Hid (rdone q = true) := dn_true q hbad (List.length_eq_zero_iff.1 (hL.symm.trans h0))
        rw [HD0.out] at HDN
        have HTS : Hid (T.toList == s.toList) := by
          show (T.toList == s.toList) = true
          have e : T = s := by
            have h3 : T.size = s.size := by omega
            rw [h3] at hex
            rw [← hex, ← bs_self s, upto_eq, bs_size, List.take_length]
          rw [e]; simp
        rw [h0] at HLF
        clear hbad hqok hgood hL hsz hex hT2 hT4 h0
        go_wp2_with fail
        refine (HLF.out _ R5.out).mono ?_
        rintro e w6 ⟨rfl, rfl⟩
        go_wp2_with fail
        refine (HDN.out _ R5.out).mono ?_
        rintro e w7 ⟨rfl, rfl⟩
        go_wp2_with fail
        refine (HLF.out _ R5.out).mono ?_
        rintro e w6 ⟨rfl, rfl⟩
        go_wp2
        go_ret
        exact ⟨congrArg (fun x => Ending.returned (Value.bool x)) HTS.out, B5.out⟩
      · have hl0 : ((L : Int) == 0) = false := beq_false_of_ne (by omega)
        have hl1 : (L : Int) ≤ 400 := by omega
        clear hbad hqok hgood hL hsz hex hT4 h0
        go_wp2_with fail
        refine (HLF.out _ R5.out).mono ?_
        rintro e w6 ⟨rfl, rfl⟩
        go_wp2_with fail
        refine (HLF.out _ R5.out).mono ?_
        rintro e w6 ⟨rfl, rfl⟩
        have hex := HEX.out
        go_wp2
        go_ret
        have e9 : s.extract 0 (max (0 : Int) (min (T.size : Int) (s.size : Int))).toNat = T := by
          rw [HT4.out]; exact HEX.out
        refine ⟨?_, B5.out⟩
        rw [e9]
        exact congrArg (fun x => Ending.returned (Value.bool x)) (by simp)
set_option maxRecDepth 100000 in
set_option maxHeartbeats 4000000 in
theorem again_3 (s : ByteArray) (what : Int) (W : World) (hE : Env W) (htl : s.size ≤ maxLen) (hk : what % 5 = 3) :
    Calls Tryd.prog 6 #[.string s, .int .i64 what] W fun e w' => e = .returned (.bool true) ∧ Below W.heap.size W w' := by
  have HES := head_steps hE
  have HEE := Lib.hid hE
  unfold maxLen at htl
  have HK := Lib.hid (fun w => kind_any what 0 ⟨#[]⟩ none none 0 0 0 0 w)
  rw [hk] at HK
  clear hE hk
  go_enter Tryd.func6, Tryd.ntmps6
  go_wp2_with fail
  refine (small_any W HEE.out).mono ?_
  rintro e w1 ⟨rfl, b1⟩
  have B1 := Lib.hid b1
  clear b1
  by_cases ht : 400 < s.size
  · have hd : decide (400 < s.size) = true := decide_eq_true ht
    go_wp2
    go_ret
    exact ⟨rfl, B1.out⟩
  · have hd : decide (400 < s.size) = false := decide_eq_false ht
    have HSL : Hid (s.data.toList.length = s.size) := Array.length_toList
    go_wp2_with fail
    refine (open_any _ _).mono ?_
    rintro e w2 ⟨rfl, r2, b2⟩
    have B2 := Lib.hid (B1.out.trans (b2.mono B1.out.size))
    have R2 := Lib.hid r2
    have HB2 : Hid (W.heap.size ≤ w1.heap.size) := B1.out.size
    obtain ⟨k, hk⟩ : ∃ k, k = w1.heap.size := ⟨_, rfl⟩
    rw [← hk] at R2 HB2 ⊢
    have HKW := Lib.hid hk
    clear r2 b2 hk
    go_wp2_with fail
    refine (HK.out _).mono ?_
    rintro e w3 ⟨rfl, b3⟩
    have B3 := Lib.hid (B2.out.trans (b3.mono B2.out.size))
    have R3 : Hid (Rd 54 w3 k ⟨s.data.toList, false⟩) := R2.out.below b3 R2.out.lt
    clear b3
    have HM := Lib.hid (rdNums_any k _ w3 R3.out (fun h => by cases h) (HES.out _ B3.out) (Nat.le_trans HEE.out.lt HB2.out) (by have := HSL.out; simp only; omega))
    have HQOK : Hid ((rlist rint ⟨s.data.toList, false⟩).2.Ok) := rlist_ok (fun s hs => rint_ok hs) (fun h => by cases h)
    obtain ⟨z, hz⟩ : ∃ z, z = (rlist rint ⟨s.data.toList, false⟩).1 := ⟨_, rfl⟩
    obtain ⟨q, hq⟩ : ∃ q, q = (rlist rint ⟨s.data.toList, false⟩).2 := ⟨_, rfl⟩
    have HZ : Hid ((elist eint z).length ≤ 1000000 ∧ ∀ y ∈ z, I64 y) := by
      show _ ∧ _
      rw [hz]
      exact rlint_out ⟨s.data.toList, false⟩ (by have := HSL.out; simp only; omega)
    obtain ⟨T, hT⟩ : ∃ T, T = bs (elist eint z) := ⟨_, rfl⟩
    have HGOOD : Hid (q.bad = false → s.data.toList = T.data.toList ++ q.rest) := fun hb => by
      have := (rlist_good (s := ⟨s.data.toList, false⟩) (fun s hs => ⟨(rint_good hs).1, (rint_good hs).2.1⟩) (by rw [← hq]; exact hb)).2
      rw [← hq, ← hz] at this
      rw [hT]; exact this
    go_wp2_with fail
    refine HM.out.mono ?_
    rintro e w4 ⟨v4, rfl, o4, r4, f4⟩
    rw [← hq] at r4 HQOK
    rw [← hz] at o4
    have B4 := Lib.hid (fr_below B3.out HB2.out f4)
    have R4 := Lib.hid r4
    have LV4 := LV.of_own o4
    obtain ⟨b9, o9, cap9, p9, hv9, g1, g2, g3, g4⟩ := LV4.parts
    have HW := Lib.hid (wNums_any v4 z w4 LV4 HZ.out.2 (HES.out _ B4.out) (by have := HZ.out.1; omega))
    subst hv9
    clear r4 f4 o4 LV4 g3 g4
    rw [← hT] at HW
    clear hz hq hT
    go_wp2_with fail
    refine HW.out.mono ?_
    rintro e w5 ⟨rfl, b5⟩
    have B5 := Lib.hid (B4.out.trans (b5.mono B4.out.size))
    have R5 : Hid (Rd 54 w5 k q) := R4.out.below b5 R4.out.lt
    clear b5
    -- behind the encoding: world w5, reader q, text T
    have hqok : q.Ok := HQOK.out
    have HDN := Lib.hid (fun w h => done_any k q w h)
    have HLF := Lib.hid (fun w h => left_any k q w h)
    cases hbad : q.bad with
    | true =>
      have hr0 := hqok hbad
      have HD0 : Hid (rdone q = false) := dn_false q hbad
      rw [HD0.out] at HDN
      rw [hr0] at HLF
      clear hr0 hbad hqok
      go_wp2_with fail
      refine (HLF.out _ R5.out).mono ?_
      rintro e w6 ⟨rfl, rfl⟩
      go_wp2_with fail
      refine (HDN.out _ R5.out).mono ?_
      rintro e w7 ⟨rfl, rfl⟩
      go_wp2
      go_ret
      exact ⟨rfl, B5.out⟩
    | false =>
      have hgood : s.data.toList = T.data.toList ++ q.rest := HGOOD.out hbad
      have hsz : s.size = T.size + q.rest.length := by
        have h1 := HSL.out
        have h2 : T.data.toList.length = T.size := Array.length_toList
        rw [← h1, hgood, List.length_append, h2]
      have hex : s.extract 0 T.size = T := by
        have h2 : T.data.toList.length = T.size := Array.length_toList
        have e : s = bs (T.data.toList ++ q.rest) := by rw [← hgood]
        rw [e, upto_eq, ← h2, List.take_left]
      obtain ⟨L, hL⟩ : ∃ L, L = q.rest.length := ⟨_, rfl⟩
      rw [← hL] at hsz HLF
      have hT1 : T.size ≤ s.size := by omega
      have hT2 : (s.size : Int) - (L : Int) = (T.size : Int) := by omega
      have hT3 : decide (T.size ≤ s.size) = true := decide_eq_true hT1
      have hT4 : max (0 : Int) (min (T.size : Int) (s.size : Int)) = (T.size : Int) := by omega
      have HEX := Lib.hid hex
      have HT2 := Lib.hid hT2
      have HT4 := Lib.hid hT4
      by_cases h0 : L = 0
      · have HD0 : Hid (rdone q = true) := dn_true q hbad (List.length_eq_zero_iff.1 (hL.symm.trans h0))
        rw [HD0.out] at HDN
        have HTS : Hid (T.toList == s.toList) := by
          show (T.toList == s.toList) = true
          have e : T = s := by
            have h3 : T.size = s.size := by omega
            rw [h3] at hex
            rw [← hex, ← bs_self s, upto_eq, bs_size, List.take_length]
          rw [e]; simp
        rw [h0] at HLF
        clear hbad hqok hgood hL hsz hex hT2 hT4 h0
        go_wp2_with fail
        refine (HLF.out _ R5.out).mono ?_
        rintro e w6 ⟨rfl, rfl⟩
        go_wp2_with fail
        refine (HDN.out _ R5.out).mono ?_
        rintro e w7 ⟨rfl, rfl⟩
        go_wp2_with fail
        refine (HLF.out _ R5.out).mono ?_
        rintro e w6 ⟨rfl, rfl⟩
        go_wp2
        go_ret
        exact ⟨congrArg (fun x => Ending.returned (Value.bool x)) HTS.out, B5.out⟩
      · have hl0 : ((L : Int) == 0) = false := beq_false_of_ne (by omega)
        have hl1 : (L : Int) ≤ 400 := by omega
        clear hbad hqok hgood hL hsz hex hT4 h0
        go_wp2_with fail
        refine (HLF.out _ R5.out).mono ?_
        rintro e w6 ⟨rfl, rfl⟩
        go_wp2_with fail
        refine (HLF.out _ R5.out).mono ?_
        rintro e w6 ⟨rfl, rfl⟩
        have hex := HEX.out
        go_wp2
        go_ret
        have e9 : s.extract 0 (max (0 : Int) (min (T.size : Int) (s.size : Int))).toNat = T := by
          rw [HT4.out]; exact HEX.out
        refine ⟨?_, B5.out⟩
        rw [e9]
        exact congrArg (fun x => Ending.returned (Value.bool x)) (by simp)
set_option maxRecDepth 100000 in
set_option maxHeartbeats 4000000 in
theorem again_4 (s : ByteArray) (what : Int) (W : World) (hE : Env W) (htl : s.size ≤ maxLen) (hk : what % 5 = 4) :
    Calls Tryd.prog 6 #[.string s, .int .i64 what] W fun e w' => e = .returned (.bool true) ∧ Below W.heap.size W w' := by
  have HES := head_steps hE
  have HEE := Lib.hid hE
  unfold maxLen at htl
  have HK := Lib.hid (fun w => kind_any what 0 ⟨#[]⟩ none none 0 0 0 0 w)
  rw [hk] at HK
  clear hE hk
  go_enter Tryd.func6, Tryd.ntmps6
  go_wp2_with fail
  refine (small_any W HEE.out).mono ?_
  rintro e w1 ⟨rfl, b1⟩
  have B1 := Lib.hid b1
  clear b1
  by_cases ht : 400 < s.size
  · have hd : decide (400 < s.size) = true := decide_eq_true ht
    go_wp2
    go_ret
    exact ⟨rfl, B1.out⟩
  · have hd : decide (400 < s.size) = false := decide_eq_false ht
    have HSL : Hid (s.data.toList.length = s.size) := Array.length_toList
    go_wp2_with fail
    refine (open_any _ _).mono ?_
    rintro e w2 ⟨rfl, r2, b2⟩
    have B2 := Lib.hid (B1.out.trans (b2.mono B1.out.size))
    have R2 := Lib.hid r2
    have HB2 : Hid (W.heap.size ≤ w1.heap.size) := B1.out.size
    obtain ⟨k, hk⟩ : ∃ k, k = w1.heap.size := ⟨_, rfl⟩
    rw [← hk] at R2 HB2 ⊢
    have HKW := Lib.hid hk
    clear r2 b2 hk
    go_wp2_with fail
    refine (HK.out _).mono ?_
    rintro e w3 ⟨rfl, b3⟩
    have B3 := Lib.hid (B2.out.trans (b3.mono B2.out.size))
    have R3 : Hid (Rd 54 w3 k ⟨s.data.toList, false⟩) := R2.out.below b3 R2.out.lt
    clear b3
    have HM := Lib.hid (rdTexts_any k _ w3 R3.out (fun h => by cases h) (HES.out _ B3.out) (Nat.le_trans HEE.out.lt HB2.out) (by have := HSL.out; simp only; omega))
    have HQOK : Hid ((rlist rtext ⟨s.data.toList, false⟩).2.Ok) := rlist_ok (fun s hs => rtext_ok hs) (fun h => by cases h)
    obtain ⟨z, hz⟩ : ∃ z, z = (rlist rtext ⟨s.data.toList, false⟩).1 := ⟨_, rfl⟩
    obtain ⟨q, hq⟩ : ∃ q, q = (rlist rtext ⟨s.data.toList, false⟩).2 := ⟨_, rfl⟩
    have HZ : Hid ((elist etext z).length ≤ 1000000 ∧ ∀ t ∈ z, t.length ≤ 5000000000) := by
      show _ ∧ _
      rw [hz]
      exact rltext_out ⟨s.data.toList, false⟩ (by have := HSL.out; simp only; omega)
    obtain ⟨T, hT⟩ : ∃ T, T = bs (elist etext z) := ⟨_, rfl⟩
    have HGOOD : Hid (q.bad = false → s.data.toList = T.data.toList ++ q.rest) := fun hb => by
      have := (rlist_good (s := ⟨s.data.toList, false⟩) (fun s hs => rtext_good hs) (by rw [← hq]; exact hb)).2
      rw [← hq, ← hz] at this
      rw [hT]; exact this
    go_wp2_with fail
    refine HM.out.mono ?_
    rintro e w4 ⟨v4, rfl, o4, r4, f4⟩
    rw [← hq] at r4 HQOK
    rw [← hz] at o4
    have B4 := Lib.hid (fr_below B3.out HB2.out f4)
    have R4 := Lib.hid r4
    have LV4 := LV.of_own o4
    obtain ⟨b9, o9, cap9, p9, hv9, g1, g2, g3, g4⟩ := LV4.parts
    have HW := Lib.hid (wTexts_any v4 z w4 LV4 HZ.out.2 (HES.out _ B4.out) (by have := HZ.out.1; omega))
    subst hv9
    clear r4 f4 o4 LV4 g3 g4
    rw [← hT] at HW
    clear hz hq hT
    go_wp2_with fail
    refine HW.out.mono ?_
    rintro e w5 ⟨rfl, b5⟩
    have B5 := Lib.hid (B4.out.trans (b5.mono B4.out.size))
    have R5 : Hid (Rd 54 w5 k q) := R4.out.below b5 R4.out.lt
    clear b5
    -- behind the encoding: world w5, reader q, text T
    have hqok : q.Ok := HQOK.out
    have HDN := Lib.hid (fun w h => done_any k q w h)
    have HLF := Lib.hid (fun w h => left_any k q w h)
    cases hbad : q.bad with
    | true =>
      have hr0 := hqok hbad
      have HD0 : Hid (rdone q = false) := dn_false q hbad
      rw [HD0.out] at HDN
      rw [hr0] at HLF
      clear hr0 hbad hqok
      go_wp2_with fail
      refine (HLF.out _ R5.out).mono ?_
      rintro e w6 ⟨rfl, rfl⟩
      go_wp2_with fail
      refine (HDN.out _ R5.out).mono ?_
      rintro e w7 ⟨rfl, rfl⟩
      go_wp2
      go_ret
      exact ⟨rfl, B5.out⟩
    | false =>
      have hgood : s.data.toList = T.data.toList ++ q.rest := HGOOD.out hbad
      have hsz : s.size = T.size + q.rest.length := by
        have h1 := HSL.out
        have h2 : T.data.toList.length = T.size := Array.length_toList
        rw [← h1, hgood, List.length_append, h2]
      have hex : s.extract 0 T.size = T := by
        have h2 : T.data.toList.length = T.size := Array.length_toList
        have e : s = bs (T.data.toList ++ q.rest) := by rw [← hgood]
        rw [e, upto_eq, ← h2, List.take_left]
      obtain ⟨L, hL⟩ : ∃ L, L = q.rest.length := ⟨_, rfl⟩
      rw [← hL] at hsz HLF
      have hT1 : T.size ≤ s.size := by omega
      have hT2 : (s.size : Int) - (L : Int) = (T.size : Int) := by omega
      have hT3 : decide (T.size ≤ s.size) = true := decide_eq_true hT1
      have hT4 : max (0 : Int) (min (T.size : Int) (s.size : Int)) = (T.size : Int) := by omega
      have HEX := Lib.hid hex
      have HT2 := Lib.hid hT2
      have HT4 := Lib.hid hT4
      by_cases h0 : L = 0
      · have HD0 : Hid (rdone q = true) := dn_true q hbad (List.length_eq_zero_iff.1 (hL.symm.trans h0))
        rw [HD0.out] at HDN
        have HTS : Hid (T.toList == s.toList) := by
          show (T.toList == s.toList) = true
          have e : T = s := by
            have h3 : T.size = s.size := by omega
            rw [h3] at hex
            rw [← hex, ← bs_self s, upto_eq, bs_size, List.take_length]
          rw [e]; simp
        rw [h0] at HLF
        clear hbad hqok hgood hL hsz hex hT2 hT4 h0
        go_wp2_with fail
        refine (HLF.out _ R5.out).mono ?_
        rintro e w6 ⟨rfl, rfl⟩
        go_wp2_with fail
        refine (HDN.out _ R5.out).mono ?_
        rintro e w7 ⟨rfl, rfl⟩
        go_wp2_with fail
        refine (HLF.out _ R5.out).mono ?_
        rintro e w6 ⟨rfl, rfl⟩
        go_wp2
        go_ret
        exact ⟨congrArg (fun x => Ending.returned (Value.bool x)) HTS.out, B5.out⟩
      · have hl0 : ((L : Int) == 0) = false := beq_false_of_ne (by omega)
        have hl1 : (L : Int) ≤ 400 := by omega
        clear hbad hqok hgood hL hsz hex hT4 h0
        go_wp2_with fail
        refine (HLF.out _ R5.out).mono ?_
        rintro e w6 ⟨rfl, rfl⟩
        go_wp2_with fail
        refine (HLF.out _ R5.out).mono ?_
        rintro e w6 ⟨rfl, rfl⟩
        have hex := HEX.out
        go_wp2
        go_ret
        have e9 : s.extract 0 (max (0 : Int) (min (T.size : Int) (s.size : Int))).toNat = T := by
          rw [HT4.out]; exact HEX.out
        refine ⟨?_, B5.out⟩
        rw [e9]
        exact congrArg (fun x => Ending.returned (Value.bool x)) (by simp)
theorem again_walk (s : ByteArray) (what : Int) (W : World) (hE : Env W) (htl : s.size ≤ maxLen) :
    Calls Tryd.prog 6 #[.string s, .int .i64 what] W fun e w' => e = .returned (.bool true) ∧ Below W.heap.size W w' := by
  have h : what % 5 = 0 ∨ what % 5 = 1 ∨ what % 5 = 2 ∨ what % 5 = 3 ∨ what % 5 = 4 := by omega
  rcases h with h | h | h | h | h
  · exact again_0 s what W hE htl h
  · exact again_1 s what W hE htl h
  · exact again_2 s what W hE htl h
  · exact again_3 s what W hE htl h
  · exact again_4 s what W hE htl h
end Wr
end Go.Proofs.YtfdacinedbdncaaDoor
