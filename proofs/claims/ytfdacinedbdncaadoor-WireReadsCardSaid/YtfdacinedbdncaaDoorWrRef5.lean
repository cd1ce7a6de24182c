/- (*missiveref02.Reader).ahead, number, Num, Int. -/
import Derived.Test.YtfdacinedbdncaaDoorWrRef4
import Derived.Test.YtfdacinedbdncaaDoorWrWalk2
namespace Go.Proofs.YtfdacinedbdncaaDoor
open Go.RowKit
namespace Wr
/-- where the loop of ahead stops: at K -/
structure Stops (c : UInt8) (r : ByteArray) (K : Nat) : Prop where
  le : K ≤ r.size
  le21 : K ≤ 21
  ne : ∀ j (h : j < r.size), j < K → r[j] ≠ c
theorem get_bs (l : List UInt8) (j : Nat) (h : j < (bs l).size) : l[j]? = some ((bs l)[j]) := get_eq (s := bs l) h
theorem stops_none {c : UInt8} {l : List UInt8} (h : cutAt c (l.take 21) = none) : Stops c (bs l) (min l.length 21) := by
  rw [cutAt_none] at h
  refine ⟨by rw [bs_size]; omega, by omega, fun j hj hk e => h ?_⟩
  have h1 := get_bs l j hj
  rw [e] at h1
  have hj21 : j < 21 := by omega
  exact List.mem_of_getElem? (i := j) (by rw [List.getElem?_take, if_pos hj21]; exact h1)
theorem stops_some {c : UInt8} {l h t : List UInt8} (hc : cutAt c (l.take 21) = some (h, t)) : Stops c (bs l) h.length ∧ ∃ hh : h.length < (bs l).size, (bs l)[h.length] = c := by
  obtain ⟨e, hn⟩ := cutAt_some hc
  have hl : h.length + 1 + t.length = (l.take 21).length := by rw [e]; simp; omega
  have hl2 : (l.take 21).length ≤ 21 := by rw [List.length_take]; omega
  have hl3 : (l.take 21).length ≤ l.length := by rw [List.length_take]; omega
  have hlt : h.length < (bs l).size := by rw [bs_size]; omega
  have hg : ∀ j, j < 21 → l[j]? = (h ++ c :: t)[j]? := fun j hj => by rw [← e, List.getElem?_take, if_pos hj]
  refine ⟨⟨by omega, by omega, fun j hj hk ec => hn ?_⟩, hlt, ?_⟩
  · have h1 := get_bs l j hj
    rw [hg j (by omega), List.getElem?_append_left hk, ec] at h1
    exact List.mem_of_getElem? h1
  · have h1 := get_bs l h.length hlt
    rw [hg _ (by omega), List.getElem?_append_right (Nat.le_refl _)] at h1
    simp at h1
    exact h1.symm
set_option maxRecDepth 100000 in
set_option maxHeartbeats 2000000 in
theorem ahead_end (c : UInt8) (b K : Nat) (s : St) (w : World) (h : RR w b s) (hl : s.rest.length ≤ 140737488355328) (hst : Stops c (bs s.rest) K) (hK : K = (bs s.rest).size) :
    Calls Tryd.prog 48 #[.pointer (some ⟨b, 0, none⟩), .int .u8 c.toNat] w fun e w' => e = .returned (.int .i64 0) ∧ RR w' b .fail ∧ Fr (· = b) w w' := by
  have c0 := h.c0
  have f0 := h.f0
  have hsz : (bs s.rest).size ≤ 140737488355328 := by rw [bs_size]; exact hl
  obtain ⟨r, hr⟩ : ∃ r, r = bs s.rest := ⟨_, rfl⟩
  rw [← hr] at c0 hsz hst hK
  have HR := Lib.hid hr
  have H := Lib.hid h
  have HNE := Lib.hid hst.ne
  have hle := hst.le
  have hle21 := hst.le21

  clear h hl hr hst
  go_enter Tryd.func48, Tryd.ntmps48
  go_wp2_with fail
  go_loop [5] (fun n => ∃ j : Nat, j ≤ K ∧ n = .int .i64 j) (fun n => K - (intOf n).toNat)
  case atStart => exact ⟨0, Nat.zero_le _, rfl⟩
  case round =>
    obtain ⟨j, hj, rfl⟩ := hrel
    by_cases hlt : j < K
    · have hjs : j < r.size := by omega
      have hne := HNE.out j hjs hlt
      obtain ⟨x, hx⟩ : ∃ x, r[j] = x := ⟨_, rfl⟩
      rw [hx] at hne
      have h21 : decide ((j : Int) < 21) = true := decide_eq_true (by omega)
      have hn1 : ((x.toNat : Int) == (c.toNat : Int)) = false := beq_false_of_ne (fun e => hne (UInt8.toNat_inj.1 (by omega)))
      have hn2 : ((x.toNat : Int) != (c.toNat : Int)) = true := by simp [bne, hn1]
      go_wp2
      go_round
      case rel => exact ⟨j + 1, by omega, by go_num⟩
      case measure => simp [intOf]; omega
    · have hjK : j = K := by omega
      clear hlt
      subst hjK
      have hjs : ¬ j < r.size := by omega
      go_wp2_with fail
      refine (rfail_any b s w H.out).mono ?_
      rintro e w1 ⟨rfl, h1, f1⟩
      go_wp2
      go_ret
      exact ⟨rfl, h1, f1⟩
set_option maxRecDepth 100000 in
set_option maxHeartbeats 2000000 in
theorem ahead_far (c : UInt8) (b K : Nat) (s : St) (w : World) (h : RR w b s) (hl : s.rest.length ≤ 140737488355328) (hst : Stops c (bs s.rest) K) (hK : K = 21) (hk : K < (bs s.rest).size) (hc : ∀ h : 21 < (bs s.rest).size, (bs s.rest)[21] ≠ c) :
    Calls Tryd.prog 48 #[.pointer (some ⟨b, 0, none⟩), .int .u8 c.toNat] w fun e w' => e = .returned (.int .i64 0) ∧ RR w' b .fail ∧ Fr (· = b) w w' := by
  have c0 := h.c0
  have f0 := h.f0
  have hsz : (bs s.rest).size ≤ 140737488355328 := by rw [bs_size]; exact hl
  obtain ⟨r, hr⟩ : ∃ r, r = bs s.rest := ⟨_, rfl⟩
  rw [← hr] at c0 hsz hst hk hc
  have HR := Lib.hid hr
  have H := Lib.hid h
  have HNE := Lib.hid hst.ne
  have hle := hst.le
  have hle21 := hst.le21

  clear h hl hr hst
  go_enter Tryd.func48, Tryd.ntmps48
  go_wp2_with fail
  go_loop [5] (fun n => ∃ j : Nat, j ≤ K ∧ n = .int .i64 j) (fun n => K - (intOf n).toNat)
  case atStart => exact ⟨0, Nat.zero_le _, rfl⟩
  case round =>
    obtain ⟨j, hj, rfl⟩ := hrel
    by_cases hlt : j < K
    · have hjs : j < r.size := by omega
      have hne := HNE.out j hjs hlt
      obtain ⟨x, hx⟩ : ∃ x, r[j] = x := ⟨_, rfl⟩
      rw [hx] at hne
      have h21 : decide ((j : Int) < 21) = true := decide_eq_true (by omega)
      have hn1 : ((x.toNat : Int) == (c.toNat : Int)) = false := beq_false_of_ne (fun e => hne (UInt8.toNat_inj.1 (by omega)))
      have hn2 : ((x.toNat : Int) != (c.toNat : Int)) = true := by simp [bne, hn1]
      go_wp2
      go_round
      case rel => exact ⟨j + 1, by omega, by go_num⟩
      case measure => simp [intOf]; omega
    · have hjK : j = K := by omega
      clear hlt
      subst hjK
      have hne := hc (by omega)
      obtain ⟨x, hx⟩ : ∃ x, r[21] = x := ⟨_, rfl⟩
      rw [hx] at hne
      have hn1 : ((x.toNat : Int) == (c.toNat : Int)) = false := beq_false_of_ne (fun e => hne (UInt8.toNat_inj.1 (by omega)))
      have hn2 : ((x.toNat : Int) != (c.toNat : Int)) = true := by simp [bne, hn1]
      subst hK
      clear hc hne
      go_wp2_with fail
      refine (rfail_any b s w H.out).mono ?_
      rintro e w1 ⟨rfl, h1, f1⟩
      go_wp2
      go_ret
      exact ⟨rfl, h1, f1⟩
set_option maxRecDepth 100000 in
set_option maxHeartbeats 2000000 in
theorem ahead_bad (c : UInt8) (b K : Nat) (s : St) (w : World) (h : RR w b s) (hl : s.rest.length ≤ 140737488355328) (hst : Stops c (bs s.rest) K) (hk : K < (bs s.rest).size) (hc : ∀ h : K < (bs s.rest).size, (bs s.rest)[K] = c) (hd0 : dec (s.rest.take K) = none) :
    Calls Tryd.prog 48 #[.pointer (some ⟨b, 0, none⟩), .int .u8 c.toNat] w fun e w' => e = .returned (.int .i64 0) ∧ RR w' b .fail ∧ Fr (· = b) w w' := by
  have c0 := h.c0
  have f0 := h.f0
  have hsz : (bs s.rest).size ≤ 140737488355328 := by rw [bs_size]; exact hl
  obtain ⟨r, hr⟩ : ∃ r, r = bs s.rest := ⟨_, rfl⟩
  rw [← hr] at c0 hsz hst hk hc
  have HR := Lib.hid hr
  have H := Lib.hid h
  have HNE := Lib.hid hst.ne
  have hle := hst.le
  have hle21 := hst.le21
  have e1 : r.extract 0 K = bs (s.rest.take K) := by rw [HR.out]; exact upto_eq _ _
  obtain ⟨hd, hhd⟩ : ∃ hd, hd = bs (s.rest.take K) := ⟨_, rfl⟩
  rw [← hhd] at e1
  have HBK := Lib.hid (back_none hd (by rw [hhd, bs_size, List.length_take]; omega) (by rw [hhd]; exact hd0) w)
  clear hd0 hhd
  clear h hl hr hst
  go_enter Tryd.func48, Tryd.ntmps48
  go_wp2_with fail
  go_loop [5] (fun n => ∃ j : Nat, j ≤ K ∧ n = .int .i64 j) (fun n => K - (intOf n).toNat)
  case atStart => exact ⟨0, Nat.zero_le _, rfl⟩
  case round =>
    obtain ⟨j, hj, rfl⟩ := hrel
    by_cases hlt : j < K
    · have hjs : j < r.size := by omega
      have hne := HNE.out j hjs hlt
      obtain ⟨x, hx⟩ : ∃ x, r[j] = x := ⟨_, rfl⟩
      rw [hx] at hne
      have h21 : decide ((j : Int) < 21) = true := decide_eq_true (by omega)
      have hn1 : ((x.toNat : Int) == (c.toNat : Int)) = false := beq_false_of_ne (fun e => hne (UInt8.toNat_inj.1 (by omega)))
      have hn2 : ((x.toNat : Int) != (c.toNat : Int)) = true := by simp [bne, hn1]
      go_wp2
      go_round
      case rel => exact ⟨j + 1, by omega, by go_num⟩
      case measure => simp [intOf]; omega
    · have hjK : j = K := by omega
      clear hlt
      subst hjK
      have hjs : j < r.size := by omega
      have hxc := hc hjs
      have hn1 : ((c.toNat : Int) == (c.toNat : Int)) = true := by simp
      by_cases h21 : j < 21
      all_goals
        go_wp2_with fail
        refine HBK.out.mono ?_
        rintro e w1 ⟨m, rfl, b1⟩
        have B1 := Lib.hid b1
        clear b1
        go_wp2_with fail
        refine (rfail_any b s w1 (H.out.below B1.out H.out.lt)).mono ?_
        rintro e w2 ⟨rfl, h2, f2⟩
        go_wp2
        go_ret
        exact ⟨rfl, h2, (Fr.of_below B1.out).trans f2 (fun _ _ e => e)⟩
set_option maxRecDepth 100000 in
set_option maxHeartbeats 2000000 in
theorem ahead_good (c : UInt8) (b K : Nat) (s : St) (w : World) (h : RR w b s) (hl : s.rest.length ≤ 140737488355328) (hst : Stops c (bs s.rest) K) (hk : K < (bs s.rest).size) (hc : ∀ h : K < (bs s.rest).size, (bs s.rest)[K] = c) {n : Int} (hd0 : dec (s.rest.take K) = some n) :
    Calls Tryd.prog 48 #[.pointer (some ⟨b, 0, none⟩), .int .u8 c.toNat] w fun e w' => e = .returned (.int .i64 n) ∧ RR w' b ⟨s.rest.drop (K + 1), s.bad⟩ ∧ Fr (· = b) w w' := by
  have c0 := h.c0
  have f0 := h.f0
  have hsz : (bs s.rest).size ≤ 140737488355328 := by rw [bs_size]; exact hl
  obtain ⟨r, hr⟩ : ∃ r, r = bs s.rest := ⟨_, rfl⟩
  rw [← hr] at c0 hsz hst hk hc
  have HR := Lib.hid hr
  have H := Lib.hid h
  have HNE := Lib.hid hst.ne
  have hle := hst.le
  have hle21 := hst.le21
  have e1 : r.extract 0 K = bs (s.rest.take K) := by rw [HR.out]; exact upto_eq _ _
  obtain ⟨hd, hhd⟩ : ∃ hd, hd = bs (s.rest.take K) := ⟨_, rfl⟩
  rw [← hhd] at e1
  have HBK := Lib.hid (back_some hd n (by rw [hhd]; exact hd0) w)
  clear hd0 hhd
  clear h hl hr hst
  go_enter Tryd.func48, Tryd.ntmps48
  go_wp2_with fail
  go_loop [5] (fun n => ∃ j : Nat, j ≤ K ∧ n = .int .i64 j) (fun n => K - (intOf n).toNat)
  case atStart => exact ⟨0, Nat.zero_le _, rfl⟩
  case round =>
    obtain ⟨j, hj, rfl⟩ := hrel
    by_cases hlt : j < K
    · have hjs : j < r.size := by omega
      have hne := HNE.out j hjs hlt
      obtain ⟨x, hx⟩ : ∃ x, r[j] = x := ⟨_, rfl⟩
      rw [hx] at hne
      have h21 : decide ((j : Int) < 21) = true := decide_eq_true (by omega)
      have hn1 : ((x.toNat : Int) == (c.toNat : Int)) = false := beq_false_of_ne (fun e => hne (UInt8.toNat_inj.1 (by omega)))
      have hn2 : ((x.toNat : Int) != (c.toNat : Int)) = true := by simp [bne, hn1]
      go_wp2
      go_round
      case rel => exact ⟨j + 1, by omega, by go_num⟩
      case measure => simp [intOf]; omega
    · have hjK : j = K := by omega
      clear hlt
      subst hjK
      have hjs : j < r.size := by omega
      have hxc := hc hjs
      have hn1 : ((c.toNat : Int) == (c.toNat : Int)) = true := by simp
      by_cases h21 : j < 21
      all_goals
        go_wp2_with fail
        refine HBK.out.mono ?_
        rintro e w1 ⟨rfl, b1⟩
        have B1 := Lib.hid b1
        clear b1
        have RB : Hid (RR w1 b s) := H.out.below B1.out H.out.lt
        have d0 := RB.out.c0
        have g0 := RB.out.f0
        rw [← HR.out] at d0
        go_wp2
        go_ret
        have e9 : r.extract (j + 1) r.size = bs (s.rest.drop (j + 1)) := by rw [HR.out]; exact from_eq _ _
        refine ⟨rfl, ?_, (Fr.of_below (S := (· = b)) B1.out).setCell (p := ⟨b, 0, none⟩) (fun _ => rfl) _⟩
        rw [e9]
        exact RB.out.set0 _
theorem dec_long {l : List UInt8} (h : 20 < l.length) : dec l = none := by
  cases hd : dec l with
  | none => rfl
  | some n =>
    obtain ⟨h1, h2⟩ := dec_some hd
    have := itoa_len n h2
    rw [h1] at this
    omega
theorem ahead_any (c : UInt8) (b : Nat) (s : St) (w : World) (h : RR w b s) (hl : s.rest.length ≤ 140737488355328) :
    Calls Tryd.prog 48 #[.pointer (some ⟨b, 0, none⟩), .int .u8 c.toNat] w fun e w' => e = .returned (.int .i64 (rnum c (-9223372036854775808) s).1) ∧ RR w' b (rnum c (-9223372036854775808) s).2 ∧ Fr (· = b) w w' := by
  cases hc : cutAt c (s.rest.take 21) with
  | none =>
    rw [rnum_none hc]
    have hst := stops_none hc
    by_cases h21 : s.rest.length ≤ 21
    · exact ahead_end c b _ s w h hl hst (by rw [bs_size]; omega)
    · have hm : min s.rest.length 21 = 21 := by omega
      rw [hm] at hst
      have hk : 21 < (bs s.rest).size := by rw [bs_size]; omega
      by_cases hx : (bs s.rest)[21] = c
      · exact ahead_bad c b 21 s w h hl hst hk (fun _ => hx) (dec_long (by rw [List.length_take]; omega))
      · exact ahead_far c b 21 s w h hl hst rfl hk (fun _ => hx)
  | some p =>
    obtain ⟨h0, t⟩ := p
    obtain ⟨_, k2, _, k4⟩ := rnum_some (least := -9223372036854775808) hc
    obtain ⟨hst, hk, hx⟩ := stops_some hc
    rw [k4]
    cases hd0 : dec h0 with
    | none => exact ahead_bad c b _ s w h hl hst hk (fun _ => hx) (by rw [k2]; exact hd0)
    | some n =>
      have hn := (dec_some hd0).2.1
      simp only
      rw [if_neg (by omega)]
      exact ahead_good c b _ s w h hl hst hk (fun _ => hx) (by rw [k2]; exact hd0)
theorem rnum_least (c : UInt8) (s : St) : rnum c 0 s = if (rnum c (-9223372036854775808) s).1 < 0 then (0, .fail) else rnum c (-9223372036854775808) s := by
  unfold rnum
  cases cutAt c s.rest with
  | none => simp
  | some p =>
    obtain ⟨a, t⟩ := p
    simp only
    split
    · simp
    · rename_i n hn
      have h1 : -9223372036854775808 ≤ n := by
        split at hn
        · exact (dec_some hn).2.1
        · cases hn
      rw [if_neg (show ¬ n < -9223372036854775808 by omega)]
set_option maxRecDepth 100000 in
theorem rnumber_any (c : UInt8) (b : Nat) (s : St) (w : World) (h : RR w b s) (hl : s.rest.length ≤ 140737488355328) :
    Calls Tryd.prog 47 #[.pointer (some ⟨b, 0, none⟩), .int .u8 c.toNat] w fun e w' => e = .returned (.int .i64 (rnum c 0 s).1) ∧ RR w' b (rnum c 0 s).2 ∧ Fr (· = b) w w' := by
  have HC := Lib.hid (ahead_any c b s w h hl)
  have hle := rnum_least c s
  rw [hle]
  obtain ⟨p, hp⟩ : ∃ p, p = rnum c (-9223372036854775808) s := ⟨_, rfl⟩
  obtain ⟨n, q⟩ := p
  rw [← hp] at HC ⊢
  simp only at HC ⊢
  clear hp hle h hl
  by_cases hn : n < 0
  · rw [if_pos hn]
    have hd : decide (n < 0) = true := decide_eq_true hn
    go_enter Tryd.func47, Tryd.ntmps47
    go_wp2_with fail
    refine HC.out.mono ?_
    rintro e w1 ⟨rfl, h1, f1⟩
    have H1 := Lib.hid h1
    have F1 := Lib.hid f1
    clear h1 f1
    go_wp2_with fail
    refine (rfail_any b q w1 H1.out).mono ?_
    rintro e w2 ⟨rfl, h2, f2⟩
    go_wp2
    go_ret
    exact ⟨rfl, h2, F1.out.trans f2 (fun _ _ e => e)⟩
  · rw [if_neg hn]
    have hd : decide (n < 0) = false := decide_eq_false hn
    go_enter Tryd.func47, Tryd.ntmps47
    go_wp2_with fail
    refine HC.out.mono ?_
    rintro e w1 ⟨rfl, h1, f1⟩
    have H1 := Lib.hid h1
    have F1 := Lib.hid f1
    clear h1 f1
    go_wp2
    go_ret
    exact ⟨rfl, H1.out, F1.out⟩
/-- what a method of the reference's reader does -/
def RDoes {α : Type} (enc : α → Value) (f : St → α × St) (b : Nat) (s : St) (w : World) (e : Ending) (w' : World) : Prop :=
  e = .returned (enc (f s).1) ∧ RR w' b (f s).2 ∧ Fr (· = b) w w'
theorem rrNum_any (b : Nat) (s : St) (w : World) (h : RR w b s) (hl : s.rest.length ≤ 140737488355328) :
    Calls Tryd.prog 25 #[.pointer (some ⟨b, 0, none⟩)] w (RDoes vi (rnum 59 0) b s w) := by
  have HC := Lib.hid (rnumber_any 59 b s w h hl)
  clear h hl
  go_enter Tryd.func25, Tryd.ntmps25
  go_wp2_with fail
  refine HC.out.mono ?_
  rintro e w1 ⟨rfl, h1, hf1⟩
  go_wp2
  go_ret
  exact ⟨rfl, h1, hf1⟩
theorem rrInt_any (b : Nat) (s : St) (w : World) (h : RR w b s) (hl : s.rest.length ≤ 140737488355328) :
    Calls Tryd.prog 27 #[.pointer (some ⟨b, 0, none⟩)] w (RDoes vi rint b s w) := by
  have HC := Lib.hid (ahead_any 59 b s w h hl)
  clear h hl
  go_enter Tryd.func27, Tryd.ntmps27
  go_wp2_with fail
  refine HC.out.mono ?_
  rintro e w1 ⟨rfl, h1, hf1⟩
  go_wp2
  go_ret
  exact ⟨rfl, h1, hf1⟩
end Wr
end Go.Proofs.YtfdacinedbdncaaDoor
