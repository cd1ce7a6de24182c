/- (*wire.Reader).number. -/
import Derived.Test.YtlegmhmmoadggaaDoorWrWalk1
namespace Go.Proofs.YtlegmhmmoadggaaDoor
open Go.RowKit
namespace Wr
theorem head_eq (l : List UInt8) : (bs l).extract 0 (min ((bs l).size : Int) 21).toNat = bs (l.take 21) := by
  apply ByteArray.ext
  have e : (min ((bs l).size : Int) 21).toNat = min l.length 21 := by rw [bs_size]; omega
  rw [e]
  apply Array.ext'
  simp only [ByteArray.data_extract, Array.toList_extract, List.extract_eq_take_drop, List.drop_zero, Nat.sub_zero]
  rw [List.take_eq_take_iff]
  omega
theorem upto_eq (l : List UInt8) (k : Nat) : (bs l).extract 0 k = bs (l.take k) := by
  apply ByteArray.ext
  apply Array.ext'
  simp only [ByteArray.data_extract, Array.toList_extract, List.extract_eq_take_drop, List.drop_zero, Nat.sub_zero]
theorem from_eq (l : List UInt8) (k : Nat) : (bs l).extract k (bs l).size = bs (l.drop k) := by
  apply ByteArray.ext
  apply Array.ext'
  simp only [ByteArray.data_extract, Array.toList_extract, List.extract_eq_take_drop, bs_size]
  rw [List.take_of_length_le (by simp)]
theorem rnum_none {c : UInt8} {least : Int} {s : St} (h : cutAt c (s.rest.take 21) = none) : rnum c least s = (0, .fail) := by
  rw [cut_take] at h
  unfold rnum
  cases hc : cutAt c s.rest with
  | none => rfl
  | some p =>
    obtain ⟨a, b⟩ := p
    rw [hc] at h
    simp only at h ⊢
    split at h
    · cases h
    · rw [if_neg (by omega)]
theorem rnum_some {c : UInt8} {least : Int} {s : St} {h t : List UInt8} (hc : cutAt c (s.rest.take 21) = some (h, t)) :
    h.length ≤ 20 ∧ s.rest.take h.length = h ∧ h.length < s.rest.length ∧ rnum c least s = match dec h with | none => (0, .fail) | some n => if n < least then (0, .fail) else (n, ⟨s.rest.drop (h.length + 1), s.bad⟩) := by
  rw [cut_take] at hc
  cases hq : cutAt c s.rest with
  | none => rw [hq] at hc; cases hc
  | some p =>
    obtain ⟨a, b⟩ := p
    rw [hq] at hc
    simp only at hc
    split at hc
    · rename_i hlt
      simp only [Option.some.injEq, Prod.mk.injEq] at hc
      obtain ⟨rfl, _⟩ := hc
      obtain ⟨e, _⟩ := cutAt_some hq
      refine ⟨by omega, by rw [e]; simp, by rw [e]; simp, ?_⟩
      unfold rnum
      rw [hq]
      simp only [if_pos (show a.length ≤ 20 by omega)]
      have e2 : s.rest.drop (a.length + 1) = b := by rw [e, List.drop_append]; simp
      rw [e2]
      rfl
    · cases hc
theorem number_pre {b : Nat} {s : St} {w : World} (h : Rd 54 w b s) (hE : Env w) (w1 : World) (hb1 : Below w.drew.heap.size w.drew w1) :
    Env w1.drew ∧ Rd 54 w1 b s ∧ Fr (· = b) w w1 :=
  ⟨(hE.drew.below hb1 hE.lt).drew, h.drew.below hb1 h.lt, ((Fr.refl (· = b) w).drew).trans (Fr.of_below (S := (· = b)) hb1) (fun _ _ e => e)⟩
/-- the strings of the walk of number, as letters -/
structure NumW (c : UInt8) (s : St) (hd r hs : ByteArray) (h : List UInt8) (k : Nat) : Prop where
  hr : r = bs s.rest
  hhs : hs = bs h
  hk : k = h.length
  e1 : r.extract 0 (min (r.size : Int) 21).toNat = hd
  e2 : hd.extract 0 k = hs
  k1 : k ≤ 20
  z1 : k ≤ hd.size
  z2 : k < r.size
  z4 : hs.size ≤ 1000
  idx : ∀ W, Calls Tryd.prog 25 #[.string hd, .int .u8 c.toNat] W fun e w' => e = .returned (.int .i64 k) ∧ w' = W
theorem numW {c : UInt8} {s : St} {h t : List UInt8} (hc : cutAt c (s.rest.take 21) = some (h, t)) : NumW c s (bs (s.rest.take 21)) (bs s.rest) (bs h) h h.length := by
  obtain ⟨k1, k2, k3, _⟩ := rnum_some (least := 0) hc
  refine ⟨rfl, rfl, rfl, head_eq _, ?_, k1, by rw [bs_size, List.length_take]; omega, by rw [bs_size]; exact k3, by rw [bs_size]; omega, fun W => ?_⟩
  · rw [upto_eq, List.take_take, Nat.min_eq_left (by omega), k2]
  · have hI := Tryd.strings_IndexByte (bs (s.rest.take 21)) c.toNat W
    simp only [Int.toNat_natCast, Nat.toUInt8_eq, UInt8.ofNat_toNat, index_cut] at hI
    rw [hc] at hI
    exact hI
set_option maxRecDepth 100000 in
set_option maxHeartbeats 1000000 in
theorem number_none (c : UInt8) (least : Int) (b : Nat) (s : St) (w : World) (h : Rd 54 w b s) (hE : Env w) (hl : s.rest.length ≤ 140737488355328) (hc : cutAt c (s.rest.take 21) = none) :
    Calls Tryd.prog 28 #[.pointer (some ⟨b, 0, none⟩), .int .u8 c.toNat, .int .i64 least] w fun e w' => e = .returned (.int .i64 0) ∧ Rd 54 w' b .fail ∧ Fr (· = b) w w' := by
  have c0 := h.c0
  have f0 := h.f0
  have hsz : (bs s.rest).size ≤ 140737488355328 := by rw [bs_size]; exact hl
  have hh := head_eq s.rest
  have hI := fun W => Tryd.strings_IndexByte (bs (s.rest.take 21)) c.toNat W
  simp only [Int.toNat_natCast, Nat.toUInt8_eq, UInt8.ofNat_toNat, index_cut] at hI
  obtain ⟨hd, hhd⟩ : ∃ hd, hd = bs (s.rest.take 21) := ⟨_, rfl⟩
  rw [← hhd] at hh hI
  obtain ⟨r, hr⟩ : ∃ r, r = bs s.rest := ⟨_, rfl⟩
  rw [← hr] at c0 hsz hh
  have H := Lib.hid h
  have hE2 := hE
  clear h hE hE2
  rw [hc] at hI
  have HI := Lib.hid hI
  clear hI hr hl hc hhd
  go_enter Tryd.func28, Tryd.ntmps28
  go_wp2
  go_region
  go_wp2_with fail
  refine (HI.out _).mono ?_
  rintro e w' ⟨rfl, rfl⟩
  go_wp2_with fail
  refine (fail_any b s w.drew H.out).mono ?_
  rintro e w1 ⟨rfl, h1, hf1⟩
  go_wp2
  go_ret
  exact ⟨rfl, h1, ((Fr.refl (· = b) w).drew).trans hf1 (fun _ _ e => e)⟩
set_option maxRecDepth 100000 in
set_option maxHeartbeats 1000000 in
theorem number_err (c : UInt8) (least : Int) (b : Nat) (s : St) (w : World) (h : Rd 54 w b s) (hE : Env w) (hl : s.rest.length ≤ 140737488355328) {hd r hs : ByteArray} {h0 : List UInt8} {k : Nat} (N : NumW c s hd r hs h0 k) (hd0 : dec h0 = none) :
    Calls Tryd.prog 28 #[.pointer (some ⟨b, 0, none⟩), .int .u8 c.toNat, .int .i64 least] w fun e w' => e = .returned (.int .i64 0) ∧ Rd 54 w' b .fail ∧ Fr (· = b) w w' := by
  have c0 := h.c0
  have f0 := h.f0
  have hsz : (bs s.rest).size ≤ 140737488355328 := by rw [bs_size]; exact hl
  rw [← N.hr] at c0 hsz
  have HW := Lib.hid (number_pre h hE)
  have e1 := N.e1
  have e2 := N.e2
  have k1 := N.k1
  have z1 := N.z1
  have z2 := N.z2
  have HN := Lib.hid N
  have H := Lib.hid h
  have HE := Lib.hid hE
  have HA := Lib.hid (atoi_no hs N.z4 (by rw [N.hhs]; exact hd0) w.drew hE.drew)
  clear hd0
  clear h hE hl N
  go_enter Tryd.func28, Tryd.ntmps28
  go_wp2
  go_region
  go_wp2_with fail
  refine (HN.out.idx _).mono ?_
  rintro e w' ⟨rfl, rfl⟩
  go_wp2_with fail
  refine HA.out.mono ?_
  rintro e w1 ⟨he, hb1⟩
  obtain ⟨E1, R1, F1⟩ := HW.out w1 hb1
  have HR1 := Lib.hid R1
  have HF1 := Lib.hid F1
  clear R1 F1 hb1
  rcases he with ⟨m, rfl, hm, hne⟩ | ⟨m, N, rfl⟩
  · have HIt : Hid (∀ W, Env W → Calls Tryd.prog 34 #[.int .i64 m] W fun e w' => e = .returned (.string (bs (Lib.itoa m))) ∧ Below W.heap.size W w') := fun W hW => itoa_any m hm W hW
    have hns : (!(bs (Lib.itoa m)).toList == hs.toList) = true := neq_str hne
    have hns2 : ((bs (Lib.itoa m)).toList == hs.toList) = false := eq_str_no hne
    obtain ⟨y, hy⟩ : ∃ y, y = bs (Lib.itoa m) := ⟨_, rfl⟩
    rw [← hy] at HIt hns hns2
    clear hy hm hne
    go_wp2_with fail
    first
    | go_region_with (go_at_call 34; refine (HIt.out _ E1).mono ?_; rintro e w2 ⟨rfl, hb2⟩; have Hb2 := Lib.hid hb2; clear hb2)
    | fail
    all_goals
      go_wp2_with fail
      refine (fail_any b s w2 (HR1.out.drew.below Hb2.out HR1.out.lt)).mono ?_
      rintro e w3 ⟨rfl, h3, hf3⟩
      go_wp2
      go_ret
      exact ⟨rfl, h3, (HF1.out.drew.trans (Fr.of_below (S := (· = b)) Hb2.out) (fun _ _ e => e)).trans hf3 (fun _ _ e => e)⟩
  · go_wp2_with fail
    go_quiet (fail)
    go_wp2_with fail
    refine (fail_any b s (w1.drewN nq) (HR1.out.drewN nq)).mono ?_
    rintro e w3 ⟨rfl, h3, hf3⟩
    go_wp2
    go_ret
    exact ⟨rfl, h3, (HF1.out.drewN nq).trans hf3 (fun _ _ e => e)⟩
set_option maxRecDepth 100000 in
set_option maxHeartbeats 1000000 in
theorem number_few (c : UInt8) (least : Int) (b : Nat) (s : St) (w : World) (h : Rd 54 w b s) (hE : Env w) (hl : s.rest.length ≤ 140737488355328) {hd r hs : ByteArray} {h0 : List UInt8} {k : Nat} (N : NumW c s hd r hs h0 k) {n : Int} (hd0 : dec h0 = some n) (hlt : decide (n < least) = true) :
    Calls Tryd.prog 28 #[.pointer (some ⟨b, 0, none⟩), .int .u8 c.toNat, .int .i64 least] w fun e w' => e = .returned (.int .i64 0) ∧ Rd 54 w' b .fail ∧ Fr (· = b) w w' := by
  have c0 := h.c0
  have f0 := h.f0
  have hsz : (bs s.rest).size ≤ 140737488355328 := by rw [bs_size]; exact hl
  rw [← N.hr] at c0 hsz
  have HW := Lib.hid (number_pre h hE)
  have e1 := N.e1
  have e2 := N.e2
  have k1 := N.k1
  have z1 := N.z1
  have z2 := N.z2
  have HN := Lib.hid N
  have H := Lib.hid h
  have HA := Lib.hid (atoi_yes hs N.z4 n (by rw [N.hhs]; exact hd0) w.drew)
  obtain ⟨hn1, hn2⟩ := dec_some hd0
  have HIt : Hid (∀ W, Env W → Calls Tryd.prog 34 #[.int .i64 n] W fun e w' => e = .returned (.string hs) ∧ Below W.heap.size W w') := fun W hW => by
    have := itoa_any n hn2 W hW
    rw [hn1, ← HN.out.hhs] at this
    exact this
  clear hd0 hn1 hn2
  clear h hE hl N
  go_enter Tryd.func28, Tryd.ntmps28
  go_wp2
  go_region
  go_wp2_with fail
  refine (HN.out.idx _).mono ?_
  rintro e w' ⟨rfl, rfl⟩
  go_wp2_with fail
  refine HA.out.mono ?_
  rintro e w1 ⟨rfl, hb1⟩
  obtain ⟨E1, R1, F1⟩ := HW.out w1 hb1
  have HR1 := Lib.hid R1
  have HF1 := Lib.hid F1
  clear R1 F1 hb1
  go_wp2_with fail
  go_region_held3 (fun _ => True) (trivial)
    ((go_at_call 34; refine (HIt.out _ E1).mono ?_; rintro e w2 ⟨rfl, hb2⟩; have Hb2 := Lib.hid hb2; clear hb2))
  go_wp2_with fail
  refine (fail_any b s w2 (HR1.out.drew.below Hb2.out HR1.out.lt)).mono ?_
  rintro e w3 ⟨rfl, h3, hf3⟩
  go_wp2
  go_ret
  exact ⟨rfl, h3, (HF1.out.drew.trans (Fr.of_below (S := (· = b)) Hb2.out) (fun _ _ e => e)).trans hf3 (fun _ _ e => e)⟩
set_option maxRecDepth 100000 in
set_option maxHeartbeats 1000000 in
theorem number_good (c : UInt8) (least : Int) (b : Nat) (s : St) (w : World) (h : Rd 54 w b s) (hE : Env w) (hl : s.rest.length ≤ 140737488355328) {hd r hs : ByteArray} {h0 : List UInt8} {k : Nat} (N : NumW c s hd r hs h0 k) {n : Int} (hd0 : dec h0 = some n) (hlt : decide (n < least) = false) :
    Calls Tryd.prog 28 #[.pointer (some ⟨b, 0, none⟩), .int .u8 c.toNat, .int .i64 least] w fun e w' => e = .returned (.int .i64 n) ∧ Rd 54 w' b ⟨s.rest.drop (h0.length + 1), s.bad⟩ ∧ Fr (· = b) w w' := by
  have c0 := h.c0
  have f0 := h.f0
  have hsz : (bs s.rest).size ≤ 140737488355328 := by rw [bs_size]; exact hl
  rw [← N.hr] at c0 hsz
  have HW := Lib.hid (number_pre h hE)
  have e1 := N.e1
  have e2 := N.e2
  have k1 := N.k1
  have z1 := N.z1
  have z2 := N.z2
  have HN := Lib.hid N
  have H := Lib.hid h
  have HA := Lib.hid (atoi_yes hs N.z4 n (by rw [N.hhs]; exact hd0) w.drew)
  obtain ⟨hn1, hn2⟩ := dec_some hd0
  have HIt : Hid (∀ W, Env W → Calls Tryd.prog 34 #[.int .i64 n] W fun e w' => e = .returned (.string hs) ∧ Below W.heap.size W w') := fun W hW => by
    have := itoa_any n hn2 W hW
    rw [hn1, ← HN.out.hhs] at this
    exact this
  clear hd0 hn1 hn2
  clear h hE hl N
  go_enter Tryd.func28, Tryd.ntmps28
  go_wp2
  go_region
  go_wp2_with fail
  refine (HN.out.idx _).mono ?_
  rintro e w' ⟨rfl, rfl⟩
  go_wp2_with fail
  refine HA.out.mono ?_
  rintro e w1 ⟨rfl, hb1⟩
  obtain ⟨E1, R1, F1⟩ := HW.out w1 hb1
  have HR1 := Lib.hid R1
  have HF1 := Lib.hid F1
  clear R1 F1 hb1
  go_wp2_with fail
  go_region_held3 (fun _ => True) (trivial)
    ((go_at_call 34; refine (HIt.out _ E1).mono ?_; rintro e w2 ⟨rfl, hb2⟩; have Hb2 := Lib.hid hb2; clear hb2))
  have HR2 := Lib.hid (HR1.out.drew.below Hb2.out HR1.out.lt)
  have d0 := HR2.out.c0
  have g0 := HR2.out.f0
  rw [← HN.out.hr] at d0
  go_wp2
  go_ret
  have e9 : r.extract (k + 1) r.size = bs (s.rest.drop (h0.length + 1)) := by rw [HN.out.hr, HN.out.hk]; exact from_eq _ _
  refine ⟨rfl, ?_, ((HF1.out.drew.trans (Fr.of_below (S := (· = b)) Hb2.out) (fun _ _ e => e)).setCell (p := ⟨b, 0, none⟩) (fun _ => rfl) _)⟩
  rw [e9]
  exact HR2.out.set0 _
theorem number_any (c : UInt8) (least : Int) (b : Nat) (s : St) (w : World) (h : Rd 54 w b s) (hE : Env w) (hl : s.rest.length ≤ 140737488355328) :
    Calls Tryd.prog 28 #[.pointer (some ⟨b, 0, none⟩), .int .u8 c.toNat, .int .i64 least] w fun e w' => e = .returned (.int .i64 (rnum c least s).1) ∧ Rd 54 w' b (rnum c least s).2 ∧ Fr (· = b) w w' := by
  cases hc : cutAt c (s.rest.take 21) with
  | none => rw [rnum_none hc]; exact number_none c least b s w h hE hl hc
  | some p =>
    obtain ⟨h0, t⟩ := p
    obtain ⟨_, _, _, k4⟩ := rnum_some (least := least) hc
    rw [k4]
    have N := numW hc
    cases hd0 : dec h0 with
    | none => exact number_err c least b s w h hE hl N hd0
    | some n =>
      simp only
      by_cases hlt : n < least
      · rw [if_pos hlt]; exact number_few c least b s w h hE hl N hd0 (decide_eq_true hlt)
      · rw [if_neg hlt]; exact number_good c least b s w h hE hl N hd0 (decide_eq_false hlt)
end Wr
end Go.Proofs.YtlegmhmmoadggaaDoor
