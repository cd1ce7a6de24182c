/- (*missiveref02.Reader).Text. -/
import Derived.Test.YtfdacinedbdncaaDoorWrRef5
import Derived.Test.YtfdacinedbdncaaDoorWrRow
namespace Go.Proofs.YtfdacinedbdncaaDoor
open Go.RowKit
namespace Wr
theorem rnum_bad {c : UInt8} {least : Int} {s : St} (hok : s.Ok) (hb : (rnum c least s).2.bad = true) : rnum c least s = (0, .fail) := by
  unfold rnum at hb ⊢
  cases hc : cutAt c s.rest with
  | none => rfl
  | some p =>
    obtain ⟨a, t⟩ := p
    rw [hc] at hb
    simp only at hb ⊢
    cases hq : (if a.length ≤ 20 then dec a else none) with
    | none => rfl
    | some n =>
      rw [hq] at hb
      simp only at hb ⊢
      by_cases hl : n < least
      · rw [if_pos hl]
      · rw [if_neg hl] at hb
        have h1 := hok hb
        rw [h1] at hc
        simp [cutAt] at hc
theorem rtext_fail {s q : St} {k : Nat} (h : ((k : Int), q) = rnum 58 0 s) (hq : q.rest.length ≤ k) : rtext s = ([], .fail) := by
  unfold rtext
  rw [← h]
  simp only
  split
  · rfl
  · have e : (k : Int).toNat = k := by omega
    rw [e, List.drop_eq_nil_of_le hq]
    rfl
set_option maxRecDepth 100000 in
set_option maxHeartbeats 1000000 in
theorem rrText_any (b : Nat) (s : St) (w : World) (h : RR w b s) (hok : s.Ok) (hl : s.rest.length ≤ 140737488355328) :
    Calls Tryd.prog 29 #[.pointer (some ⟨b, 0, none⟩)] w (RDoes vs rtext b s w) := by
  have HC := Lib.hid (rnumber_any 58 b s w h hl)
  have hn0 := rnum_ge 58 s
  have hi := rnum_i64 58 0 s
  have hle := rnum_le 58 0 s
  have hbad0 := @rnum_bad 58 0 s hok
  obtain ⟨n, hn⟩ : ∃ n, n = rnum 58 0 s := ⟨_, rfl⟩
  obtain ⟨n, q⟩ := n
  have HN := Lib.hid hn
  rw [← hn] at HC hn0 hi hle hbad0
  simp only at hn0 hle hi hbad0
  obtain ⟨k, rfl⟩ : ∃ k : Nat, n = (k : Int) := ⟨n.toNat, by omega⟩
  have hk : (k : Int) ≤ 9223372036854775807 := hi.2
  clear h hok hn hn0 hi
  have hz : (bs q.rest).size = q.rest.length := bs_size _
  obtain ⟨r, hr⟩ : ∃ r, r = bs q.rest := ⟨_, rfl⟩
  rw [← hr] at hz
  have HRR := Lib.hid hr
  have hrs : r.size ≤ 140737488355328 := by omega
  have HBF := Lib.hid hbad0
  clear hbad0
  cases hqb : q.bad with
  | true =>
    have hres : Hid (rtext s = ([], .fail)) := by
      have h1 := HBF.out hqb
      have h4 : q = .fail := by rw [Prod.mk.injEq] at h1; exact h1.2
      exact rtext_fail HN.out (by rw [h4]; simp [St.fail])
    clear hz hr
    have HQB := Lib.hid hqb
    clear hqb
    go_enter Tryd.func29, Tryd.ntmps29
    go_wp2_with fail
    refine HC.out.mono ?_
    rintro e w1 ⟨rfl, h1, hf1⟩
    have c1 := h1.c0
    rw [← HRR.out] at c1
    have d1 := h1.c1
    rw [HQB.out] at d1
    have HR1 := Lib.hid h1
    have HF1 := Lib.hid hf1
    clear h1 hf1
    go_wp2_with fail
    refine (rfail_any b q _ HR1.out).mono ?_
    rintro e w2 ⟨rfl, h2, hf2⟩
    go_wp2
    go_ret
    rw [RDoes, hres.out]
    exact ⟨rfl, h2, HF1.out.trans hf2 (fun _ _ e => e)⟩
  | false =>
    have HQB := Lib.hid hqb
    clear hqb
    by_cases hlt : r.size ≤ k
    · have hres : Hid (rtext s = ([], .fail)) := rtext_fail HN.out (by omega)
      have hd : decide (r.size ≤ k) = true := decide_eq_true hlt
      clear hz hr
      go_enter Tryd.func29, Tryd.ntmps29
      go_wp2_with fail
      refine HC.out.mono ?_
      rintro e w1 ⟨rfl, h1, hf1⟩
      have c1 := h1.c0
      rw [← HRR.out] at c1
      have d1 := h1.c1
      rw [HQB.out] at d1
      have HR1 := Lib.hid h1
      have HF1 := Lib.hid hf1
      clear h1 hf1
      go_wp2_with fail
      refine (rfail_any b q _ HR1.out).mono ?_
      rintro e w2 ⟨rfl, h2, hf2⟩
      go_wp2
      go_ret
      rw [RDoes, hres.out]
      exact ⟨rfl, h2, HF1.out.trans hf2 (fun _ _ e => e)⟩
    · have hd : decide (r.size ≤ k) = false := decide_eq_false hlt
      have e1 : r.extract 0 k = bs (q.rest.take k) := by rw [HRR.out]; exact upto_eq _ _
      have e2 : r.extract k r.size = bs (q.rest.drop k) := by rw [HRR.out]; exact from_eq _ _
      have E2 := Lib.hid e2
      obtain ⟨t, ht⟩ : ∃ t, t = bs (q.rest.take k) := ⟨_, rfl⟩
      rw [← ht] at e1
      have HT := Lib.hid ht
      have hkr : k ≤ r.size := by omega
      have hres : Hid (rtext s = if (rclose 44 ⟨q.rest.drop k, q.bad⟩).bad then ([], rclose 44 ⟨q.rest.drop k, q.bad⟩) else (q.rest.take k, rclose 44 ⟨q.rest.drop k, q.bad⟩)) := by
        show _ = _
        unfold rtext
        rw [← HN.out]
        simp only
        rw [if_neg (by omega)]
        rfl
      have hdl : (q.rest.drop k).length ≤ 140737488355328 := by rw [List.length_drop]; omega
      clear hz hr ht e2
      cases hcb : headIs 44 (q.rest.drop k) with
      | true =>
        have hok2 : Hid ((rclose 44 ⟨q.rest.drop k, q.bad⟩).bad = false) := by
          show _ = _
          unfold rclose
          simp only
          cases hr : q.rest.drop k with
          | nil => rw [hr] at hcb; cases hcb
          | cons x t => rw [hr] at hcb; simp only [headIs, beq_iff_eq] at hcb; simp only; rw [if_pos hcb]; exact HQB.out
        have HCL : Hid (∀ W, RR W b ⟨q.rest.drop k, q.bad⟩ → Calls Tryd.prog 52 #[.pointer (some ⟨b, 0, none⟩), .int .u8 44] W fun e w' => e = .returned (.bool true) ∧ RR w' b (rclose 44 ⟨q.rest.drop k, q.bad⟩) ∧ Fr (· = b) W w') := fun W hW => by
          have this : Calls Tryd.prog 52 #[.pointer (some ⟨b, 0, none⟩), .int .u8 44] W fun e w' => e = .returned (.bool (headIs 44 (q.rest.drop k))) ∧ RR w' b (rclose 44 ⟨q.rest.drop k, q.bad⟩) ∧ Fr (· = b) W w' := rclose_any 44 b ⟨q.rest.drop k, q.bad⟩ W hW hdl
          rw [hcb] at this
          exact this
        clear hcb hdl
        go_enter Tryd.func29, Tryd.ntmps29
        go_wp2_with fail
        refine HC.out.mono ?_
        rintro e w1 ⟨rfl, h1, hf1⟩
        have c1 := h1.c0
        have f1 := h1.f0
        rw [← HRR.out] at c1
        have d1 := h1.c1
        rw [HQB.out] at d1
        have HR1 := Lib.hid h1
        have HF1 := Lib.hid hf1
        clear h1 hf1
        go_wp2_with fail
        refine (HCL.out _ (by rw [E2.out]; exact HR1.out.set0 _)).mono ?_
        rintro e w2 ⟨rfl, h2, hf2⟩
        go_wp2
        go_ret
        rw [RDoes, hres.out, if_neg (by rw [hok2.out]; decide)]
        exact ⟨congrArg (fun x => Ending.returned (Value.string x)) HT.out, h2, (HF1.out.setCell (p := ⟨b, 0, none⟩) (fun _ => rfl) _).trans hf2 (fun _ _ e => e)⟩
      | false =>
        have hok2 : Hid ((rclose 44 ⟨q.rest.drop k, q.bad⟩).bad = true) := by
          show _ = _
          unfold rclose
          simp only
          cases hr : q.rest.drop k with
          | nil => rfl
          | cons x t => rw [hr] at hcb; simp only [headIs, beq_eq_false_iff_ne, ne_eq] at hcb; simp only; rw [if_neg hcb]; rfl
        have HCL : Hid (∀ W, RR W b ⟨q.rest.drop k, q.bad⟩ → Calls Tryd.prog 52 #[.pointer (some ⟨b, 0, none⟩), .int .u8 44] W fun e w' => e = .returned (.bool false) ∧ RR w' b (rclose 44 ⟨q.rest.drop k, q.bad⟩) ∧ Fr (· = b) W w') := fun W hW => by
          have this : Calls Tryd.prog 52 #[.pointer (some ⟨b, 0, none⟩), .int .u8 44] W fun e w' => e = .returned (.bool (headIs 44 (q.rest.drop k))) ∧ RR w' b (rclose 44 ⟨q.rest.drop k, q.bad⟩) ∧ Fr (· = b) W w' := rclose_any 44 b ⟨q.rest.drop k, q.bad⟩ W hW hdl
          rw [hcb] at this
          exact this
        clear hcb hdl
        go_enter Tryd.func29, Tryd.ntmps29
        go_wp2_with fail
        refine HC.out.mono ?_
        rintro e w1 ⟨rfl, h1, hf1⟩
        have c1 := h1.c0
        have f1 := h1.f0
        rw [← HRR.out] at c1
        have d1 := h1.c1
        rw [HQB.out] at d1
        have HR1 := Lib.hid h1
        have HF1 := Lib.hid hf1
        clear h1 hf1
        go_wp2_with fail
        refine (HCL.out _ (by rw [E2.out]; exact HR1.out.set0 _)).mono ?_
        rintro e w2 ⟨rfl, h2, hf2⟩
        go_wp2
        go_ret
        rw [RDoes, hres.out, if_pos hok2.out]
        exact ⟨rfl, h2, (HF1.out.setCell (p := ⟨b, 0, none⟩) (fun _ => rfl) _).trans hf2 (fun _ _ e => e)⟩
end Wr
end Go.Proofs.YtfdacinedbdncaaDoor
