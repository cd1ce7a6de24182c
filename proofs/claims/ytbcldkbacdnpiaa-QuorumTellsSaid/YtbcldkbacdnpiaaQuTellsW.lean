/- QuorumTells: the walk. -/
import Derived.Test.YtbcldkbacdnpiaaQuRefD
import Derived.Test.YtbcldkbacdnpiaaQuNamesW
namespace Go.Proofs.Ytbcldkbacdnpiaa
open Go.RowKit Go.Maps Go.WideShapes Qu
theorem Snm.drew {w X : World} {q : Q} {p : Option Addr} {l : List Ev} (h : Snm w X q p l) : Snm w X.drew q p l :=
  h.step ((Below.refl _ _).drew)
set_option maxRecDepth 100000 in
set_option maxHeartbeats 8000000 in
theorem tells_walk (q : Q) (held now : Int) (l : List Ev) (p : Option Addr) (cap : Nat) (user : ByteArray) (w : World) (h1 : EvsAt w p l) (hcap : l.length ≤ cap) (hcm : cap ≤ maxLen) (hu : user.size ≤ maxLen) :
    Calls Try.prog 5 #[qval q, .int .i64 held, .slice p l.length cap, .int .i64 now, .string user] w fun x w' => x = .returned (.bool true) ∧ Below w.heap.size w w' := by
  obtain ⟨rt, hrt⟩ : ∃ b, q.right = b := ⟨_, rfl⟩
  have hR1 := right_any q
  have hR2 := ref_right_any q
  rw [hrt] at hR1 hR2
  clear hrt
  obtain ⟨qn, qv, qt, qf⟩ := q
  unfold qval at hR1 hR2 ⊢
  simp only at hR1 hR2 ⊢
  have HR1 := Lib.hid hR1; have HR2 := Lib.hid hR2
  clear hR1 hR2
  obtain ⟨W, hW⟩ : ∃ W, W = w.alloc (.cells #[.int .i64 qn, .int .i64 qv, .int .i64 qt, .bool qf] 23) := ⟨_, rfl⟩
  have hB0 : Below w.heap.size w W := by rw [hW]; exact (Below.refl _ _).alloc (Nat.le_refl _) _
  have S0 : Hid (Snm w W ⟨qn, qv, qt, qf⟩ p l) := Lib.hid ⟨h1.below hB0 (Nat.le_refl _), by rw [hW]; exact heap_alloc_new _ _, hB0⟩
  have HS := small_any W
  have HSQ := Lib.hid hW
  clear h1 hB0 hW
  by_cases c1 : 30 < l.length
  · go_enter Try.func5, Try.ntmps5
    go_wp2_with fail
    rw [← HSQ.out]
    refine HS.mono ?_
    rintro e w1 ⟨rfl, b⟩
    have S1 := Lib.hid (S0.out.step b)
    clear b HS S0 HSQ
    go_wp2_with fail
    refine (few_no p l.length cap w1 (Nat.le_trans hcap hcm) (by omega)).mono ?_
    rintro e w' ⟨rfl, rfl⟩
    go_wp2
    go_ret
    exact ⟨rfl, S1.out.b⟩
  obtain ⟨R, hR⟩ : ∃ R, R = Qu.after l := ⟨_, rfl⟩
  obtain ⟨Y, hY⟩ : ∃ y, y = R.votes 1 := ⟨_, rfl⟩
  obtain ⟨N, hN⟩ : ∃ y, y = R.votes (-1) := ⟨_, rfl⟩
  obtain ⟨V, hV⟩ : ∃ y, y = R.vote user := ⟨_, rfl⟩
  obtain ⟨M, hM⟩ : ∃ y, y = modsB R := ⟨_, rfl⟩
  obtain ⟨D1, D2, hD⟩ : ∃ a b, decide' ⟨qn, qv, qt, qf⟩ held l now = (a, b) := ⟨_, _, rfl⟩
  have hMl : M.length ≤ 30 := by rw [hM, hR]; exact Nat.le_trans (mods_len (made_after S0.out.e1.okAll)) (by omega)
  have HR := Lib.hid hR; have HY := Lib.hid hY; have HN := Lib.hid hN; have HV := Lib.hid hV; have HM := Lib.hid hM; have HD := Lib.hid hD
  clear hR hY hN hV hM hD
  have hEf := fun X (h : Snm w X ⟨qn, qv, qt, qf⟩ p l) => effective_any l p cap user X h.e1 (by omega) hu
  have hEr := fun X (h : Snm w X ⟨qn, qv, qt, qf⟩ p l) => ref_effective_any l p cap user X h.e1 (by omega) hcap
  rw [← HR.out, ← HV.out] at hEf hEr
  have HEF := Lib.hid hEf; have HER := Lib.hid hEr
  clear hEf hEr
  go_enter Try.func5, Try.ntmps5
  go_wp2_with fail
  rw [← HSQ.out]
  refine HS.mono ?_
  rintro e w1 ⟨rfl, b⟩
  have S1 := Lib.hid (S0.out.step b)
  clear b HS S0 HSQ
  go_wp2_with fail
  refine (few_yes p l.length cap w1 (by omega)).mono ?_
  rintro e w' ⟨rfl, rfl⟩
  go_wp2_with fail
  have hMo := moderators_any l p cap w1 S1.out.e1 (by omega)
  rw [← HR.out, ← HM.out] at hMo
  refine hMo.mono ?_
  rintro e w2 ⟨pm, km, rfl, hst, _, _, b⟩
  have S2 := Lib.hid (S1.out.step b)
  have HST := Lib.hid hst
  clear b S1 hMo hst
  go_wp2_with fail
  have hMr := ref_moderators_any l p cap w2 S2.out.e1 (by omega)
  rw [← HR.out, ← HM.out] at hMr
  refine hMr.mono ?_
  rintro e w3 ⟨pr, kr, rfl, hst, b⟩
  have S3 := Lib.hid (S2.out.step b)
  have HSA := Lib.hid (HST.out.below b (Nat.le_refl _))
  have HSB := Lib.hid hst
  clear b S2 hMr hst HST
  go_wp2_with fail
  go_loopw [14] (fun i wr => ∃ k : Nat, k ≤ M.length ∧ i = .int .i64 k ∧ Below w3.heap.size w3 wr) (fun i _ => M.length - (intOf i).toNat)
  case atStart => exact ⟨0, Nat.zero_le _, rfl, Below.refl _ _⟩
  case round =>
    obtain ⟨wx, hwx⟩ : ∃ y, y = wr := ⟨_, rfl⟩
    subst hwx
    obtain ⟨k, hk, rfl, hbx⟩ := hrel
    have HBX := Lib.hid hbx
    clear hbx
    by_cases hlt : k < M.length
    · obtain ⟨xa, ya, rfl, ra⟩ : ∃ b o, pm = some ⟨b, o, none⟩ ∧ StrRow wx b o M := (HSA.out.below HBX.out (Nat.le_refl _)).resolve_left (fun e => by simp [e] at hlt)
      obtain ⟨xb, yb, rfl, rb⟩ : ∃ b o, pr = some ⟨b, o, none⟩ ∧ StrRow wx b o M := (HSB.out.below HBX.out (Nat.le_refl _)).resolve_left (fun e => by simp [e] at hlt)
      have s0 := ra.cell k hlt
      have s1 := rb.cell k hlt
      obtain ⟨m, hm⟩ : ∃ m, M[k] = m := ⟨_, rfl⟩
      rw [hm] at s0 s1
      have hadd : (⟨xa, ya, none⟩ : Addr).add k = ⟨xa, ya + k, none⟩ := add_plain _ _ _
      have hadd2 : (⟨xb, yb, none⟩ : Addr).add k = ⟨xb, yb + k, none⟩ := add_plain _ _ _
      clear hm ra rb
      go_wp2_with fail
      go_quiet (fail)
      go_wp2_with fail
      go_roundw
      case rel => exact ⟨k + 1, by omega, by go_num, below_drewN HBX.out _⟩
      case measure => simp [intOf]; omega
    · obtain rfl : k = M.length := by omega
      have S4 := Lib.hid (S3.out.step HBX.out)
      clear HSA HSB S3 HBX
      go_wp2_with fail
      have hC := quorum_count_any l p cap wx S4.out.e1 (by omega)
      rw [← HR.out, ← HY.out, ← HN.out] at hC
      refine hC.mono ?_
      rintro e w5 ⟨rfl, b⟩
      have S5 := Lib.hid (S4.out.step b)
      clear b S4 hC
      go_wp2_with fail
      have hC := ref_count_any l p cap w5 S5.out.e1 (by omega) hcap
      rw [← HR.out, ← HY.out, ← HN.out] at hC
      refine hC.mono ?_
      rintro e w6 ⟨rfl, b⟩
      have S6 := Lib.hid (S5.out.step b)
      clear b S5 hC
      obtain ⟨q0, q1, q2, q3⟩ := q_cells S6.out.q
      go_wp2_with fail
      have D := decide_any ⟨qn, qv, qt, qf⟩ held now l p cap _ S6.out.e1 (by omega)
      rw [HD.out] at D
      refine D.mono ?_
      rintro e w7 ⟨rfl, b⟩
      have S7 := Lib.hid (S6.out.step b)
      clear b S6 D q0 q1 q2 q3
      obtain ⟨q0, q1, q2, q3⟩ := q_cells S7.out.q
      go_wp2_with fail
      have D := ref_decide_any ⟨qn, qv, qt, qf⟩ held now l p cap _ S7.out.e1 (by omega)
      rw [HD.out] at D
      refine D.mono ?_
      rintro e w8 ⟨rfl, b⟩
      have S8 := Lib.hid (S7.out.step b)
      have sd : Snm w w8.drew ⟨qn, qv, qt, qf⟩ p l := S8.out.drew
      clear b S7 D q0 q1 q2 q3
      obtain ⟨q0, q1, q2, q3⟩ := q_cells S8.out.q
      go_wp2_with fail
      go_region_held3 (fun w' => w'.cell? ⟨w.heap.size, 0, none⟩ = some (.int .i64 qn) ∧ w'.cell? ⟨w.heap.size, 1, none⟩ = some (.int .i64 qv) ∧ w'.cell? ⟨w.heap.size, 2, none⟩ = some (.int .i64 qt) ∧ w'.cell? ⟨w.heap.size, 3, none⟩ = some (.bool qf))
        (first | go_keep | exact q_cells (Snm.q (q := ⟨qn, qv, qt, qf⟩) (by assumption)))
        ((first
          | (go_at_call 11; refine (HR1.out _).mono ?_; rintro e wa ⟨rfl, ba⟩; have sa : Snm w wa ⟨qn, qv, qt, qf⟩ p l := Snm.step (by assumption) ba; clear ba)
          | (go_at_call 19; refine (HR2.out _).mono ?_; rintro e wb ⟨rfl, bb⟩; have sb : Snm w wb ⟨qn, qv, qt, qf⟩ p l := Snm.step (by assumption) bb; clear bb)
          | (go_at_call 20; refine (HEF.out _ (by assumption)).mono ?_; rintro e we ⟨rfl, be⟩; have se : Snm w we ⟨qn, qv, qt, qf⟩ p l := Snm.step (by assumption) be; clear be)
          | (go_at_call 21; refine (HER.out _ (by assumption)).mono ?_; rintro e wf ⟨rfl, bf⟩; have sf : Snm w wf ⟨qn, qv, qt, qf⟩ p l := Snm.step (by assumption) bf; clear bf)))
      all_goals
        go_wp2
        go_ret
        exact ⟨rfl, Snm.b (by assumption)⟩
end Go.Proofs.Ytbcldkbacdnpiaa
