/- (*wire.Reader).Text. -/
import Derived.Test.YtlegmhmmoadggaaDoorWrWalk3
namespace Go.Proofs.YtlegmhmmoadggaaDoor
open Go.RowKit
namespace Wr
set_option maxRecDepth 100000 in
set_option maxHeartbeats 1000000 in
theorem rdText_any (b : Nat) (s : St) (w : World) (h : Rd 54 w b s) (hE : Env w) (hl : s.rest.length ≤ 140737488355328) :
    Calls Tryd.prog 18 #[.pointer (some ⟨b, 0, none⟩)] w (Does vs rtext b s w) := by
  have HC := Lib.hid (number_any 58 0 b s w h hE hl)
  have hn0 := rnum_ge 58 s
  have hi := rnum_i64 58 0 s
  have hle := rnum_le 58 0 s
  obtain ⟨n, hn⟩ : ∃ n, n = rnum 58 0 s := ⟨_, rfl⟩
  obtain ⟨n, q⟩ := n
  have HN := Lib.hid hn
  rw [← hn] at HC hn0 hi hle
  simp only at hn0 hle hi
  obtain ⟨k, rfl⟩ : ∃ k : Nat, n = (k : Int) := ⟨n.toNat, by omega⟩
  have hk : (k : Int) ≤ 9223372036854775807 := hi.2
  clear h hE hn hn0 hi
  have hz : (bs q.rest).size = q.rest.length := bs_size _
  obtain ⟨r, hr⟩ : ∃ r, r = bs q.rest := ⟨_, rfl⟩
  rw [← hr] at hz
  have HRR := Lib.hid hr
  have hrs : r.size ≤ 140737488355328 := by omega
  by_cases hlt : r.size < k
  · have hres : Hid (rtext s = ([], .fail)) := by
      unfold rtext
      rw [← HN.out]
      simp only
      rw [if_pos (by omega)]; rfl
    have hd : decide (r.size < k) = true := decide_eq_true hlt
    clear hz hr
    go_enter Tryd.func18, Tryd.ntmps18
    go_wp2_with fail
    refine HC.out.mono ?_
    rintro e w1 ⟨rfl, h1, hf1⟩
    have c1 := h1.c0
    rw [← HRR.out] at c1
    have HR1 := Lib.hid h1
    have HF1 := Lib.hid hf1
    clear h1 hf1
    go_wp2_with fail
    refine (fail_any b q _ HR1.out).mono ?_
    rintro e w2 ⟨rfl, h2, hf2⟩
    go_wp2
    go_ret
    rw [Does, hres]
    exact ⟨rfl, h2, HF1.out.trans hf2 (fun _ _ e => e)⟩
  · have hd : decide (r.size < k) = false := decide_eq_false hlt
    have e1 : r.extract 0 k = bs (q.rest.take k) := by rw [HRR.out]; exact upto_eq _ _
    have e2 : r.extract k r.size = bs (q.rest.drop k) := by rw [HRR.out]; exact from_eq _ _
    have E2 := Lib.hid e2
    obtain ⟨t, ht⟩ : ∃ t, t = bs (q.rest.take k) := ⟨_, rfl⟩
    rw [← ht] at e1
    have HT := Lib.hid ht
    have hkr : k ≤ r.size := by omega
    have hres : Hid (rtext s = if (rclose 44 ⟨q.rest.drop k, q.bad⟩).bad then ([], rclose 44 ⟨q.rest.drop k, q.bad⟩) else (q.rest.take k, rclose 44 ⟨q.rest.drop k, q.bad⟩)) := by
      show _ = _
      unfold rtext
      rw [← HN.out]
      simp only
      rw [if_neg (by omega)]
      rfl
    clear hz hr ht e2
    cases hb2 : (rclose 44 ⟨q.rest.drop k, q.bad⟩).bad with
    | true =>
      go_enter Tryd.func18, Tryd.ntmps18
      go_wp2_with fail
      refine HC.out.mono ?_
      rintro e w1 ⟨rfl, h1, hf1⟩
      have c1 := h1.c0
      have f1 := h1.f0
      rw [← HRR.out] at c1
      have HR1 := Lib.hid h1
      have HF1 := Lib.hid hf1
      clear h1 hf1
      go_wp2_with fail
      refine (close_any 44 b ⟨q.rest.drop k, q.bad⟩ _ (by rw [E2.out]; exact HR1.out.set0 _)).mono ?_
      rintro e w2 ⟨rfl, h2, hf2⟩
      have c2 := h2.c1
      rw [hb2] at c2
      go_wp2
      go_ret
      rw [Does, hres.out, if_pos hb2]
      exact ⟨rfl, h2, (HF1.out.setCell (p := ⟨b, 0, none⟩) (fun _ => rfl) _).trans hf2 (fun _ _ e => e)⟩
    | false =>
      go_enter Tryd.func18, Tryd.ntmps18
      go_wp2_with fail
      refine HC.out.mono ?_
      rintro e w1 ⟨rfl, h1, hf1⟩
      have c1 := h1.c0
      have f1 := h1.f0
      rw [← HRR.out] at c1
      have HR1 := Lib.hid h1
      have HF1 := Lib.hid hf1
      clear h1 hf1
      go_wp2_with fail
      refine (close_any 44 b ⟨q.rest.drop k, q.bad⟩ _ (by rw [E2.out]; exact HR1.out.set0 _)).mono ?_
      rintro e w2 ⟨rfl, h2, hf2⟩
      have c2 := h2.c1
      rw [hb2] at c2
      go_wp2
      go_ret
      rw [Does, hres.out, if_neg (by rw [hb2]; decide)]
      exact ⟨congrArg (fun x => Ending.returned (Value.string x)) HT.out, h2, (HF1.out.setCell (p := ⟨b, 0, none⟩) (fun _ => rfl) _).trans hf2 (fun _ _ e => e)⟩
end Wr
end Go.Proofs.YtlegmhmmoadggaaDoor
