/- missiveref02.Back. -/
import Derived.Test.YtfdacinedbdncaaDoorWrRef3
import Derived.Test.YtfdacinedbdncaaDoorWrHelp2
import Derived.BigQuiet
import Derived.Deep.QuietTactic
namespace Go.Proofs.YtfdacinedbdncaaDoor
open Go.RowKit
namespace Wr
theorem wrap64_i64 (x : Int) : I64 (wrap64 x) := by unfold I64 wrap64; omega
theorem wrap_i64 (x : Int) : I64 (IntKind.i64.wrap x) := by rw [IntKind.wrap_i64]; unfold I64; omega
/-- what a row of digits spells -/
def pv (l : List UInt8) : Nat := l.foldl (fun n c => n * 10 + (c.toNat - 48)) 0
theorem pv_snoc (l : List UInt8) (c : UInt8) : pv (l ++ [c]) = pv l * 10 + (c.toNat - 48) := by simp [pv]
theorem pv_dec (u : Nat) : pv (Lib.decDigits u) = u := by
  induction u using Nat.strongRecOn with
  | _ u ih =>
    by_cases h : u < 10
    · rw [Lib.decDigits_one h]
      simp only [pv, List.foldl_cons, List.foldl_nil, dig_nat u h]; omega
    · rw [Lib.decDigits, dif_neg h, pv_snoc, ih (u / 10) (by omega), dig_nat (u % 10) (by omega)]; omega
theorem pv_take (l : List UInt8) : ∀ k, pv (l.take k) ≤ pv l := by
  have step : ∀ k, pv (l.take k) ≤ pv (l.take (k + 1)) := by
    intro k
    rw [List.take_add_one]
    cases h : l[k]? with
    | none => simp
    | some c => simp only [Option.toList_some]; rw [pv_snoc]; omega
  have up : ∀ d k, pv (l.take k) ≤ pv (l.take (k + d)) := by
    intro d
    induction d with
    | zero => intro k; exact Nat.le_refl _
    | succ d ih => intro k; exact Nat.le_trans (ih k) (step (k + d))
  intro k
  have := up l.length k
  have e : l.take (k + l.length) = l := List.take_of_length_le (by omega)
  rw [e] at this
  exact this
theorem pv_next {l : List UInt8} {k : Nat} {c : UInt8} (h : l[k]? = some c) : pv (l.take (k + 1)) = pv (l.take k) * 10 + (c.toNat - 48) := by
  rw [List.take_add_one, h]; exact pv_snoc _ _
theorem get_eq {s : ByteArray} {i : Nat} (hi : i < s.size) : s.data.toList[i]? = some s[i] := by
  have hl : s.data.toList.length = s.size := Array.length_toList
  rw [List.getElem?_eq_getElem (by omega)]; rfl
/-- what Back answers where the string is no numeral as Int writes it -/
def BackNo (w : World) (e : Ending) (w' : World) : Prop := ∃ m : Int, e = .returned (.tuple #[.int .i64 m, .bool false]) ∧ Below w.heap.size w w'
set_option maxRecDepth 100000 in
set_option maxHeartbeats 1000000 in
theorem back_yes0 (s : ByteArray) (u : Nat) (hu : u ≤ 9223372036854775807) (hs : s.data.toList = Lib.decDigits u) (w : World) :
    Calls Tryd.prog 61 #[.string s] w fun e w' => e = .returned (.tuple #[.int .i64 (u : Int), .bool true]) ∧ Below w.heap.size w w' := by
  have hn : I64 ((u : Int)) := by unfold I64; omega
  have hit : Lib.itoa ((u : Int)) = s.data.toList := by rw [hs]; exact Lib.itoa_nonneg u
  have hlen : s.data.toList.length = s.size := Array.length_toList
  have hdl : (Lib.decDigits u).length ≤ 19 + 1 := by
    rw [Lib.decDigits_length]
    exact Nat.le_trans (nDigits_le 19 u (by omega) (by omega)) (by omega)
  have hdp : 1 ≤ (Lib.decDigits u).length := by rw [Lib.decDigits_length]; exact Lib.nDigits_pos u
  have hsz : s.size = (Lib.decDigits u).length + 0 := by rw [← hlen, hs]; simp
  have hs20 : s.size ≤ 20 := by omega
  have hs1 : 0 < s.size := by omega
  have hs0 : 0 < s.size := by omega
  have HG : Hid (∀ j, (hj : j < s.size) → 0 ≤ j → (Lib.decDigits u)[j - 0]? = some s[j]) := fun j hj hF => by
    have h := get_eq hj
    rw [hs] at h
    exact h
  have h0 : s[0].toNat ≠ 45 := by
    have h := get_eq hs0
    rw [hs] at h
    have := dec_bytes u _ (List.mem_of_getElem? h)
    omega
  have HC := Lib.hid (rInt_any ((u : Int)) hn w)
  have HEQ : Hid (bs (eint ((u : Int))) = s ++ bs [59]) := by
    show _ = _
    unfold eint
    rw [← bs_add, hit, bs_self]
  have hez : (bs (eint ((u : Int)))).size ≤ 21 := by rw [bs_size]; exact eint_len hn
  obtain ⟨E, hE⟩ : ∃ E, E = bs (eint ((u : Int))) := ⟨_, rfl⟩
  rw [← hE] at HC HEQ hez
  have HPV : Hid (pv (Lib.decDigits u) = u) := pv_dec u
  have HPT := Lib.hid (pv_take (Lib.decDigits u))
  have HB := Lib.hid (dec_bytes u)
  have HSZ := Lib.hid hsz
  obtain ⟨z, hz⟩ : ∃ z, s[0].toNat = z := ⟨_, rfl⟩
  rw [hz] at h0
  have h45 : ((z : Int) == 45) = false := beq_false_of_ne (by omega)
  clear hs hn hit hlen hE hdl hdp hsz h0
  go_enter Tryd.func61, Tryd.ntmps61
  go_wp2_with fail
  go_loop [5, 6] (fun n i => ∃ (j m : Nat), 0 ≤ j ∧ j ≤ s.size ∧ i = .int .i64 j ∧ n = .int .i64 (-(m : Int)) ∧ m = pv ((Lib.decDigits u).take (j - 0))) (fun _ i => s.size - (intOf i).toNat)
  case atStart => exact ⟨0, 0, by omega, by omega, rfl, rfl, by simp [pv]⟩
  case round =>
    obtain ⟨j, m, hF, hj, rfl, rfl, hm⟩ := hrel
    have hmu : m ≤ u := by
      have h1 := HPT.out (j - 0)
      rw [HPV.out] at h1
      omega
    have HM := Lib.hid hm
    clear hm
    by_cases hlt : j < s.size
    · have hd := HG.out j hlt hF
      have hb := HB.out _ (List.mem_of_getElem? hd)
      have hnx := pv_next hd
      have hmx := HPT.out (j - 0 + 1)
      rw [HPV.out] at hmx
      obtain ⟨c, hc⟩ : ∃ c, s[j].toNat = c := ⟨_, rfl⟩
      rw [hc] at hb hnx
      rw [hnx, ← HM.out] at hmx
      have h48 : decide ((c : Int) < 48) = false := decide_eq_false (by omega)
      have h57 : decide ((57 : Int) < c) = false := decide_eq_false (by omega)
      have h20 : decide ((20 : Int) < j) = false := decide_eq_false (by omega)
      have r1 : IntKind.i64.wrap (10 * (-(m : Int))) = -((10 * m : Nat) : Int) := by rw [IntWalk.i64_in _ (by omega)]; omega
      have r2 : IntKind.u8.wrap ((c : Int) - 48) = ((c - 48 : Nat) : Int) := by rw [IntWalk.u8_in _ (by omega)]; omega
      obtain ⟨m10, hm10⟩ : ∃ k, k = 10 * m := ⟨_, rfl⟩
      obtain ⟨c48, hc48⟩ : ∃ k, k = c - 48 := ⟨_, rfl⟩
      obtain ⟨m2, hm2⟩ : ∃ k, k = m10 + c48 := ⟨_, rfl⟩
      have r3 : IntKind.i64.wrap (-(m10 : Int) - (c48 : Int)) = -(m2 : Int) := by rw [IntWalk.i64_in _ (by omega)]; omega
      have hm2p : Hid (m2 = pv ((Lib.decDigits u).take (j + 1 - 0))) := by
        show _ = _
        rw [show j + 1 - 0 = j - 0 + 1 by omega, hnx, ← HM.out]; omega
      rw [← hm10] at r1
      rw [← hc48] at r2
      have hc255 : c ≤ 57 := hb.2
      have hc0 : 48 ≤ c := hb.1
      have hc48b : c48 ≤ 9 := by omega
      have hm10b : m10 ≤ 9223372036854775808 := by omega
      clear hd hb hnx hmx hm10 hc48 hm2
      have hfin : Hid (wrap64 (-(m10 : Int) - (c48 : Int)) = -(m2 : Int)) := by
        show _ = _
        rw [← r3, IntKind.wrap_i64]; unfold wrap64; rfl
      clear r3
      go_wp2
      go_round
      case rel => exact ⟨j + 1, m2, by omega, by omega, by go_num, congrArg (Value.int .i64) hfin.out, hm2p.out⟩
      case measure => simp [intOf]; omega
    · have hmfin : m = u := by
        have h1 := HM.out
        rw [List.take_of_length_le (by have := HSZ.out; omega), HPV.out] at h1
        exact h1
      subst hmfin
      have hEs := HEQ.out
      have hteq : (E.toList == (s ++ bs [59]).toList) = true := by rw [hEs]; simp
      have hss : s.size ≤ 1000 := by omega
      clear hEs
      go_wp2_with fail
      refine HC.out.mono ?_
      rintro e w1 ⟨rfl, b1⟩
      have B1 := Lib.hid b1
      clear b1
      go_wp2
      go_ret2
      exact ⟨rfl, B1.out⟩
set_option maxRecDepth 100000 in
set_option maxHeartbeats 1000000 in
theorem back_yes1 (s : ByteArray) (u : Nat) (hu : u ≤ 9223372036854775808) (hu1 : 1 ≤ u) (hs : s.data.toList = 45 :: Lib.decDigits u) (w : World) :
    Calls Tryd.prog 61 #[.string s] w fun e w' => e = .returned (.tuple #[.int .i64 (-(u : Int)), .bool true]) ∧ Below w.heap.size w w' := by
  have hn : I64 ((-(u : Int))) := by unfold I64; omega
  have hit : Lib.itoa ((-(u : Int))) = s.data.toList := by rw [hs]; exact Lib.itoa_neg u hu1
  have hlen : s.data.toList.length = s.size := Array.length_toList
  have hdl : (Lib.decDigits u).length ≤ 19 + 0 := by
    rw [Lib.decDigits_length]
    exact nDigits_le 19 u (by omega) (by omega)
  have hdp : 1 ≤ (Lib.decDigits u).length := by rw [Lib.decDigits_length]; exact Lib.nDigits_pos u
  have hsz : s.size = (Lib.decDigits u).length + 1 := by rw [← hlen, hs]; simp
  have hs20 : s.size ≤ 20 := by omega
  have hs1 : 1 < s.size := by omega
  have hs0 : 0 < s.size := by omega
  have HG : Hid (∀ j, (hj : j < s.size) → 1 ≤ j → (Lib.decDigits u)[j - 1]? = some s[j]) := fun j hj hF => by
    have h := get_eq hj
    rw [hs] at h
    obtain ⟨i, rfl⟩ : ∃ i, j = i + 1 := ⟨j - 1, by omega⟩
    rw [List.getElem?_cons_succ] at h
    exact h
  have h0 : s[0].toNat = 45 := by
    have h := get_eq hs0
    rw [hs] at h
    rw [List.getElem?_cons_zero] at h
    have := Option.some.inj h
    rw [← this]; rfl
  have HC := Lib.hid (rInt_any ((-(u : Int))) hn w)
  have HEQ : Hid (bs (eint ((-(u : Int)))) = s ++ bs [59]) := by
    show _ = _
    unfold eint
    rw [← bs_add, hit, bs_self]
  have hez : (bs (eint ((-(u : Int))))).size ≤ 21 := by rw [bs_size]; exact eint_len hn
  obtain ⟨E, hE⟩ : ∃ E, E = bs (eint ((-(u : Int)))) := ⟨_, rfl⟩
  rw [← hE] at HC HEQ hez
  have HPV : Hid (pv (Lib.decDigits u) = u) := pv_dec u
  have HPT := Lib.hid (pv_take (Lib.decDigits u))
  have HB := Lib.hid (dec_bytes u)
  have HSZ := Lib.hid hsz
  obtain ⟨z, hz⟩ : ∃ z, s[0].toNat = z := ⟨_, rfl⟩
  rw [hz] at h0
  have h45 : ((z : Int) == 45) = true := by rw [h0]; rfl
  clear hs hn hit hlen hE hdl hdp hsz h0
  go_enter Tryd.func61, Tryd.ntmps61
  go_wp2_with fail
  go_loop [5, 6] (fun n i => ∃ (j m : Nat), 1 ≤ j ∧ j ≤ s.size ∧ i = .int .i64 j ∧ n = .int .i64 (-(m : Int)) ∧ m = pv ((Lib.decDigits u).take (j - 1))) (fun _ i => s.size - (intOf i).toNat)
  case atStart => exact ⟨1, 0, by omega, by omega, rfl, rfl, by simp [pv]⟩
  case round =>
    obtain ⟨j, m, hF, hj, rfl, rfl, hm⟩ := hrel
    have hmu : m ≤ u := by
      have h1 := HPT.out (j - 1)
      rw [HPV.out] at h1
      omega
    have HM := Lib.hid hm
    clear hm
    by_cases hlt : j < s.size
    · have hd := HG.out j hlt hF
      have hb := HB.out _ (List.mem_of_getElem? hd)
      have hnx := pv_next hd
      have hmx := HPT.out (j - 1 + 1)
      rw [HPV.out] at hmx
      obtain ⟨c, hc⟩ : ∃ c, s[j].toNat = c := ⟨_, rfl⟩
      rw [hc] at hb hnx
      rw [hnx, ← HM.out] at hmx
      have h48 : decide ((c : Int) < 48) = false := decide_eq_false (by omega)
      have h57 : decide ((57 : Int) < c) = false := decide_eq_false (by omega)
      have h20 : decide ((20 : Int) < j) = false := decide_eq_false (by omega)
      have r1 : IntKind.i64.wrap (10 * (-(m : Int))) = -((10 * m : Nat) : Int) := by rw [IntWalk.i64_in _ (by omega)]; omega
      have r2 : IntKind.u8.wrap ((c : Int) - 48) = ((c - 48 : Nat) : Int) := by rw [IntWalk.u8_in _ (by omega)]; omega
      obtain ⟨m10, hm10⟩ : ∃ k, k = 10 * m := ⟨_, rfl⟩
      obtain ⟨c48, hc48⟩ : ∃ k, k = c - 48 := ⟨_, rfl⟩
      obtain ⟨m2, hm2⟩ : ∃ k, k = m10 + c48 := ⟨_, rfl⟩
      have r3 : IntKind.i64.wrap (-(m10 : Int) - (c48 : Int)) = -(m2 : Int) := by rw [IntWalk.i64_in _ (by omega)]; omega
      have hm2p : Hid (m2 = pv ((Lib.decDigits u).take (j + 1 - 1))) := by
        show _ = _
        rw [show j + 1 - 1 = j - 1 + 1 by omega, hnx, ← HM.out]; omega
      rw [← hm10] at r1
      rw [← hc48] at r2
      have hc255 : c ≤ 57 := hb.2
      have hc0 : 48 ≤ c := hb.1
      have hc48b : c48 ≤ 9 := by omega
      have hm10b : m10 ≤ 9223372036854775808 := by omega
      clear hd hb hnx hmx hm10 hc48 hm2
      have hfin : Hid (wrap64 (-(m10 : Int) - (c48 : Int)) = -(m2 : Int)) := by
        show _ = _
        rw [← r3, IntKind.wrap_i64]; unfold wrap64; rfl
      clear r3
      go_wp2
      go_round
      case rel => exact ⟨j + 1, m2, by omega, by omega, by go_num, congrArg (Value.int .i64) hfin.out, hm2p.out⟩
      case measure => simp [intOf]; omega
    · have hmfin : m = u := by
        have h1 := HM.out
        rw [List.take_of_length_le (by have := HSZ.out; omega), HPV.out] at h1
        exact h1
      subst hmfin
      have hEs := HEQ.out
      have hteq : (E.toList == (s ++ bs [59]).toList) = true := by rw [hEs]; simp
      have hss : s.size ≤ 1000 := by omega
      clear hEs
      go_wp2_with fail
      refine HC.out.mono ?_
      rintro e w1 ⟨rfl, b1⟩
      have B1 := Lib.hid b1
      clear b1
      go_wp2
      go_ret2
      exact ⟨rfl, B1.out⟩
set_option maxRecDepth 100000 in
set_option maxHeartbeats 2000000 in
theorem back_no0 (s : ByteArray) (hs : s.size ≤ 21) (h : dec s.data.toList = none) (h0 : ∀ h : 0 < s.size, s[0].toNat ≠ 45) (w : World) :
    Calls Tryd.prog 61 #[.string s] w (BackNo w) := by
  have HD : Hid (∀ n, I64 n → Lib.itoa n ≠ s.data.toList) := dec_none h
  rcases Nat.eq_zero_or_pos s.size with hz0 | hz0
  · have hse : s = ⟨#[]⟩ := by
      apply ByteArray.ext
      exact Array.eq_empty_of_size_eq_zero hz0
    subst hse
    clear h h0 hs
    have hI : I64 (0 : Int) := by unfold I64; omega
    go_enter Tryd.func61, Tryd.ntmps61
    go_wp2_with fail
    go_loop [5, 6] (fun n i => n = .int .i64 0 ∧ i = .int .i64 0) (fun _ i => 0)
    case atStart => exact ⟨rfl, rfl⟩
    case round =>
      obtain ⟨rfl, rfl⟩ := hrel
      go_wp2_with fail
      refine (rInt_any 0 hI _).mono ?_
      rintro e w1 ⟨rfl, b1⟩
      have hne : (bs (eint 0)).data.toList ≠ ((⟨#[]⟩ : ByteArray) ++ bs [59]).data.toList := by
        intro e
        rw [ByteArray.data_append, Array.toList_append] at e
        have e2 : Lib.itoa 0 ++ [59] = [] ++ [59] := e
        exact HD.out _ hI (List.append_cancel_right e2)
      have q1 := eq_str_no hne
      have hz : (bs (eint 0)).size ≤ 21 := by rw [bs_size]; exact eint_len hI
      obtain ⟨E, hE⟩ : ∃ E, E = bs (eint 0) := ⟨_, rfl⟩
      rw [← hE] at q1 hz ⊢
      have B1 := Lib.hid b1
      clear b1 hne hE
      go_wp2
      go_ret2
      exact ⟨_, rfl, B1.out⟩
  have h0' := h0 hz0
  have h45b : ((s[0].toNat : Int) == 45) = false := beq_false_of_ne (by omega)
  clear h
  go_enter Tryd.func61, Tryd.ntmps61
  go_wp2_with fail
  go_loop [5, 6] (fun n i => ∃ (j : Nat) (m : Int), j ≤ s.size ∧ i = .int .i64 j ∧ n = .int .i64 m ∧ I64 m) (fun _ i => s.size - (intOf i).toNat)
  case atStart => exact ⟨0, 0, by omega, rfl, rfl, by unfold I64; omega⟩
  case round =>
    obtain ⟨j, m, hj, rfl, rfl, hm⟩ := hrel
    have HM := Lib.hid hm
    clear hm
    by_cases hlt : j < s.size
    · obtain ⟨c, hc⟩ : ∃ c, s[j].toNat = c := ⟨_, rfl⟩
      have hc0 : c < 256 := by rw [← hc]; exact UInt8.toNat_lt _
      by_cases h1 : c < 48
      · have h48 : decide ((c : Int) < 48) = true := decide_eq_true (by omega)
        go_wp2
        go_ret2
        exact ⟨0, rfl, Below.refl _ _⟩
      · have h48 : decide ((c : Int) < 48) = false := decide_eq_false (by omega)
        by_cases h2 : 57 < c
        · have h57 : decide ((57 : Int) < c) = true := decide_eq_true (by omega)
          go_wp2
          go_ret2
          exact ⟨0, rfl, Below.refl _ _⟩
        · have h57 : decide ((57 : Int) < c) = false := decide_eq_false (by omega)
          have h20 : decide ((20 : Int) < j) = false := decide_eq_false (by omega)
          go_wp2
          go_round
          case rel => exact ⟨j + 1, _, by omega, by go_num, rfl, by first | exact wrap64_i64 _ | exact wrap_i64 _⟩
          case measure => simp [intOf]; omega
    · have hI : I64 (wrap64 (-m)) := wrap64_i64 _
      go_wp2_with fail
      refine (rInt_any (wrap64 (-m)) hI _).mono ?_
      rintro e w1 ⟨rfl, b1⟩
      have hne : (bs (eint (wrap64 (-m)))).data.toList ≠ (s ++ bs [59]).data.toList := by
        intro e
        rw [ByteArray.data_append, Array.toList_append] at e
        have e2 : Lib.itoa (wrap64 (-m)) ++ [59] = s.data.toList ++ [59] := e
        exact HD.out _ hI (List.append_cancel_right e2)
      have q1 := eq_str_no hne
      have hz : (bs (eint (wrap64 (-m)))).size ≤ 21 := by rw [bs_size]; exact eint_len hI
      obtain ⟨E, hE⟩ : ∃ E, E = bs (eint (wrap64 (-m))) := ⟨_, rfl⟩
      rw [← hE] at q1 hz ⊢
      have B1 := Lib.hid b1
      clear b1 hne hE
      go_wp2
      go_ret2
      exact ⟨_, rfl, B1.out⟩
set_option maxRecDepth 100000 in
set_option maxHeartbeats 2000000 in
theorem back_no1 (s : ByteArray) (hs : s.size ≤ 21) (h : dec s.data.toList = none) (h0 : 0 < s.size) (h45 : s[0].toNat = 45) (w : World) :
    Calls Tryd.prog 61 #[.string s] w (BackNo w) := by
  have HD : Hid (∀ n, I64 n → Lib.itoa n ≠ s.data.toList) := dec_none h
  have h45b : ((s[0].toNat : Int) == 45) = true := by rw [h45]; rfl
  clear h
  go_enter Tryd.func61, Tryd.ntmps61
  go_wp2_with fail
  go_loop [5, 6] (fun n i => ∃ (j : Nat) (m : Int), j ≤ s.size ∧ i = .int .i64 j ∧ n = .int .i64 m ∧ I64 m) (fun _ i => s.size - (intOf i).toNat)
  case atStart => exact ⟨1, 0, by omega, rfl, rfl, by unfold I64; omega⟩
  case round =>
    obtain ⟨j, m, hj, rfl, rfl, hm⟩ := hrel
    have HM := Lib.hid hm
    clear hm
    by_cases hlt : j < s.size
    · obtain ⟨c, hc⟩ : ∃ c, s[j].toNat = c := ⟨_, rfl⟩
      have hc0 : c < 256 := by rw [← hc]; exact UInt8.toNat_lt _
      by_cases h1 : c < 48
      · have h48 : decide ((c : Int) < 48) = true := decide_eq_true (by omega)
        go_wp2
        go_ret2
        exact ⟨0, rfl, Below.refl _ _⟩
      · have h48 : decide ((c : Int) < 48) = false := decide_eq_false (by omega)
        by_cases h2 : 57 < c
        · have h57 : decide ((57 : Int) < c) = true := decide_eq_true (by omega)
          go_wp2
          go_ret2
          exact ⟨0, rfl, Below.refl _ _⟩
        · have h57 : decide ((57 : Int) < c) = false := decide_eq_false (by omega)
          have h20 : decide ((20 : Int) < j) = false := decide_eq_false (by omega)
          go_wp2
          go_round
          case rel => exact ⟨j + 1, _, by omega, by go_num, rfl, by first | exact wrap64_i64 _ | exact wrap_i64 _⟩
          case measure => simp [intOf]; omega
    · have hI : I64 (m) := HM.out
      go_wp2_with fail
      refine (rInt_any (m) hI _).mono ?_
      rintro e w1 ⟨rfl, b1⟩
      have hne : (bs (eint (m))).data.toList ≠ (s ++ bs [59]).data.toList := by
        intro e
        rw [ByteArray.data_append, Array.toList_append] at e
        have e2 : Lib.itoa (m) ++ [59] = s.data.toList ++ [59] := e
        exact HD.out _ hI (List.append_cancel_right e2)
      have q1 := eq_str_no hne
      have hz : (bs (eint (m))).size ≤ 21 := by rw [bs_size]; exact eint_len hI
      obtain ⟨E, hE⟩ : ∃ E, E = bs (eint (m)) := ⟨_, rfl⟩
      rw [← hE] at q1 hz ⊢
      have B1 := Lib.hid b1
      clear b1 hne hE
      go_wp2
      go_ret2
      exact ⟨_, rfl, B1.out⟩
theorem back_some (s : ByteArray) (n : Int) (h : dec s.data.toList = some n) (w : World) :
    Calls Tryd.prog 61 #[.string s] w fun e w' => e = .returned (.tuple #[.int .i64 n, .bool true]) ∧ Below w.heap.size w w' := by
  obtain ⟨h1, h2⟩ := dec_some h
  obtain ⟨h3, h4⟩ := h2
  by_cases hn : n < 0
  · obtain ⟨u, rfl⟩ : ∃ u : Nat, n = -(u : Int) := ⟨n.natAbs, by omega⟩
    rw [Lib.itoa_neg u (by omega)] at h1
    exact back_yes1 s u (by omega) (by omega) h1.symm w
  · obtain ⟨u, rfl⟩ : ∃ u : Nat, n = (u : Int) := ⟨n.toNat, by omega⟩
    rw [Lib.itoa_nonneg] at h1
    exact back_yes0 s u (by omega) h1.symm w
theorem back_none (s : ByteArray) (hs : s.size ≤ 21) (h : dec s.data.toList = none) (w : World) : Calls Tryd.prog 61 #[.string s] w (BackNo w) := by
  by_cases h0 : 0 < s.size
  · by_cases h45 : s[0].toNat = 45
    · exact back_no1 s hs h h0 h45 w
    · exact back_no0 s hs h (fun _ => h45) w
  · exact back_no0 s hs h (fun h => absurd h h0) w
end Wr
end Go.Proofs.YtfdacinedbdncaaDoor
