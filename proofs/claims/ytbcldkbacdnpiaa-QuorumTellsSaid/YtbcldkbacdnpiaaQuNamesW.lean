/- QuorumNames: the walk. -/
import Derived.Test.YtbcldkbacdnpiaaQuTurned
namespace Go.Proofs.Ytbcldkbacdnpiaa
open Go.RowKit Go.Maps Go.WideShapes Qu
/-- what stays as the walk goes on -/
structure Snm (w X : World) (q : Q) (p : Option Addr) (l : List Ev) : Prop where
  e1 : EvsAt X p l
  q : X.heap[w.heap.size]? = some (.cells #[.int .i64 q.need, .int .i64 q.veto, .int .i64 q.wait, .bool q.free] 23 (0, 0))
  b : Below w.heap.size w X
theorem Snm.step {w X Y : World} {q : Q} {p : Option Addr} {l : List Ev} (h : Snm w X q p l) (hb : Below X.heap.size X Y) : Snm w Y q p l :=
  ⟨h.e1.below hb (Nat.le_refl _), (hb.block _ (lt_block h.q)).trans h.q, h.b.trans (hb.mono h.b.size)⟩
theorem small_snoc {l : List Ev} {k : Nat} (h : k < l.length) (hs : Small (l.take k)) (h1 : (l[k]'h).user.size ≤ 100) (h2 : (l[k]'h).name.size ≤ 100) : Small (l.take (k + 1)) := by
  rw [take_mem_snoc l k h]
  intro e he
  rcases List.mem_append.1 he with he | he
  · exact hs e he
  · simp at he; rw [he]; exact ⟨h1, h2⟩
set_option maxRecDepth 100000 in
set_option maxHeartbeats 4000000 in
theorem names_walk (q : Q) (held now : Int) (l : List Ev) (p : Option Addr) (cap : Nat) (user : ByteArray) (w : World) (h1 : EvsAt w p l) (hcap : l.length ≤ cap) (hcm : cap ≤ maxLen) (hu : user.size ≤ maxLen) :
    Calls Try.prog 6 #[qval q, .int .i64 held, .slice p l.length cap, .int .i64 now, .string user] w fun x w' => x = .returned (.bool true) ∧ Below w.heap.size w w' := by
  obtain ⟨qn, qv, qt, qf⟩ := q
  unfold qval
  simp only
  obtain ⟨W, hW⟩ : ∃ W, W = w.alloc (.cells #[.int .i64 qn, .int .i64 qv, .int .i64 qt, .bool qf] 23) := ⟨_, rfl⟩
  have hB0 : Below w.heap.size w W := by rw [hW]; exact (Below.refl _ _).alloc (Nat.le_refl _) _
  have S0 : Hid (Snm w W ⟨qn, qv, qt, qf⟩ p l) := Lib.hid ⟨h1.below hB0 (Nat.le_refl _), by rw [hW]; exact heap_alloc_new _ _, hB0⟩
  have HS := small_any W
  have HSQ := Lib.hid hW
  have HOK := Lib.hid h1.okAll
  clear h1 hB0 hW
  by_cases c1 : 30 < l.length
  · go_enter Try.func6, Try.ntmps6
    go_wp2_with fail
    rw [← HSQ.out]
    refine HS.mono ?_
    rintro e w1 ⟨rfl, b⟩
    have S1 := Lib.hid (S0.out.step b)
    clear b HS S0 HSQ
    go_wp2_with fail
    refine (few_no p l.length cap w1 (Nat.le_trans hcap hcm) (by omega)).mono ?_
    rintro e w' ⟨rfl, rfl⟩
    go_wp2
    go_ret
    exact ⟨rfl, S1.out.b⟩
  by_cases c2 : 100 < user.size
  · unfold maxLen at hu
    go_enter Try.func6, Try.ntmps6
    go_wp2_with fail
    rw [← HSQ.out]
    refine HS.mono ?_
    rintro e w1 ⟨rfl, b⟩
    have S1 := Lib.hid (S0.out.step b)
    clear b HS S0 HSQ
    go_wp2_with fail
    refine (few_yes p l.length cap w1 (by omega)).mono ?_
    rintro e w' ⟨rfl, rfl⟩
    go_wp2
    go_ret
    exact ⟨rfl, S1.out.b⟩
  obtain ⟨R, hR⟩ : ∃ R, R = Qu.after l := ⟨_, rfl⟩
  obtain ⟨L, hL⟩ : ∃ L, L = l.map renE := ⟨_, rfl⟩
  have hLl : L.length = l.length := by rw [hL, List.length_map]
  have HLL := Lib.hid hLl
  have hL30 : L.length ≤ 30 := by omega
  have HTW : Hid (Qu.Twin R (Qu.after L)) := Lib.hid (by rw [hR, hL]; exact twin_after l)
  have HDR : Hid (decide' ⟨qn, qv, qt, qf⟩ held L now = decide' ⟨qn, qv, qt, qf⟩ held l now) := Lib.hid (by rw [hL]; exact decide_ren _ _ _ _)
  have HR := Lib.hid hR; have HL := Lib.hid hL
  clear hR hL hLl
  obtain ⟨Y, hY⟩ : ∃ y, y = R.votes 1 := ⟨_, rfl⟩
  obtain ⟨N, hN⟩ : ∃ y, y = R.votes (-1) := ⟨_, rfl⟩
  obtain ⟨V, hV⟩ : ∃ y, y = R.vote user := ⟨_, rfl⟩
  obtain ⟨M, hM⟩ : ∃ y, y = (modsB R).length := ⟨_, rfl⟩
  obtain ⟨D1, D2, hD⟩ : ∃ a b, decide' ⟨qn, qv, qt, qf⟩ held l now = (a, b) := ⟨_, _, rfl⟩
  have HY := Lib.hid hY; have HN := Lib.hid hN; have HV := Lib.hid hV; have HM := Lib.hid hM; have HD := Lib.hid hD
  have HY' : Hid ((Qu.after L).votes 1 = Y) := Lib.hid (by rw [hY]; exact HTW.out.votes 1)
  have HN' : Hid ((Qu.after L).votes (-1) = N) := Lib.hid (by rw [hN]; exact HTW.out.votes (-1))
  have HV' : Hid ((Qu.after L).vote (ren user) = V) := Lib.hid (by rw [hV]; exact HTW.out.vote user)
  have HM' : Hid ((modsB (Qu.after L)).length = M) := Lib.hid (by rw [hM, (modsB_perm _).length_eq, (modsB_perm _).length_eq]; exact HTW.out.mods)
  clear hY hN hV hM hD
  go_enter Try.func6, Try.ntmps6
  go_wp2_with fail
  rw [← HSQ.out]
  refine HS.mono ?_
  rintro e w1 ⟨rfl, b⟩
  have S1 := Lib.hid (S0.out.step b)
  clear b HS S0 HSQ
  go_wp2_with fail
  refine (few_yes p l.length cap w1 (by omega)).mono ?_
  rintro e w' ⟨rfl, rfl⟩
  go_wp2_with fail
  go_loop [12] (fun i => ∃ k : Nat, k ≤ l.length ∧ i = .int .i64 k ∧ Hid (Small (l.take k))) (fun i => l.length - (intOf i).toNat)
  case atStart => exact ⟨0, Nat.zero_le _, rfl, Lib.hid (fun e he => by simp at he)⟩
  case round =>
    obtain ⟨k, hk, rfl, hsm⟩ := hrel
    by_cases hlt : k < l.length
    · obtain ⟨ab, ao, rfl, hrow⟩ : ∃ b o, p = some ⟨b, o, none⟩ ∧ EvsRow w1 b o l := S1.out.e1.resolve_left (fun e => by simp [e] at hlt)
      have d2 := hrow.user k hlt
      have d3 := hrow.name k hlt
      have hstep := small_snoc hlt hsm.out
      have hok := HOK.out _ (List.getElem_mem hlt)
      obtain ⟨e, he⟩ : ∃ e, l[k] = e := ⟨_, rfl⟩
      rw [he] at d2 d3 hstep hok
      have z1 := hok.user
      have z2 := hok.name
      unfold maxLen at z1 z2
      have HST := Lib.hid hstep
      have hadd : (⟨ab, ao, none⟩ : Addr).add (k * 4) = ⟨ab, ao + k * 4, none⟩ := add_plain _ _ _
      clear he hrow hstep hok
      by_cases g1 : 100 < e.user.size
      · go_wp2
        go_ret
        exact ⟨rfl, S1.out.b⟩
      · by_cases g2 : 100 < e.name.size
        · go_wp2
          go_ret
          exact ⟨rfl, S1.out.b⟩
        · go_wp2_with fail
          go_round
          case rel => exact ⟨k + 1, by omega, by go_num, Lib.hid (HST.out (by omega) (by omega))⟩
          case measure => simp [intOf]; omega
    · obtain rfl : k = l.length := by omega
      rw [List.take_length] at hsm
      go_wp2_with fail
      have hRn := renamed_any l p cap w1 S1.out.e1 (by omega) hsm.out
      rw [← HL.out] at hRn
      refine hRn.mono ?_
      rintro e w2 ⟨p2, k2, rfl, hE, b⟩
      have S2 := Lib.hid (S1.out.step b)
      have EL2 := Lib.hid hE
      clear b S1 hRn hE
      go_wp2_with fail
      have hC := quorum_count_any l p cap w2 S2.out.e1 (by omega)
      rw [← HR.out, ← HY.out, ← HN.out] at hC
      refine hC.mono ?_
      rintro e w3 ⟨rfl, b⟩
      have S3 := Lib.hid (S2.out.step b)
      have EL3 := Lib.hid (EL2.out.below b (Nat.le_refl _))
      clear b S2 EL2 hC
      go_wp2_with fail
      have hC := quorum_count_any L p2 k2 w3 EL3.out (by omega)
      rw [HY'.out, HN'.out] at hC
      refine hC.mono ?_
      rintro e w4 ⟨rfl, b⟩
      have S4 := Lib.hid (S3.out.step b)
      have EL4 := Lib.hid (EL3.out.below b (Nat.le_refl _))
      clear b S3 EL3 hC
      obtain ⟨q0, q1, q2, q3⟩ := q_cells S4.out.q
      go_wp2_with fail
      have hD := decide_any ⟨qn, qv, qt, qf⟩ held now l p cap w4 S4.out.e1 (by omega)
      rw [HD.out] at hD
      refine hD.mono ?_
      rintro e w5 ⟨rfl, b⟩
      have S5 := Lib.hid (S4.out.step b)
      have EL5 := Lib.hid (EL4.out.below b (Nat.le_refl _))
      clear b S4 EL4 hD q0 q1 q2 q3
      obtain ⟨q0, q1, q2, q3⟩ := q_cells S5.out.q
      go_wp2_with fail
      have hD := decide_any ⟨qn, qv, qt, qf⟩ held now L p2 k2 w5 EL5.out (by omega)
      rw [HDR.out, HD.out] at hD
      refine hD.mono ?_
      rintro e w6 ⟨rfl, b⟩
      have S6 := Lib.hid (S5.out.step b)
      have EL6 := Lib.hid (EL5.out.below b (Nat.le_refl _))
      clear b S5 EL5 hD q0 q1 q2 q3
      go_wp2_with fail
      have hE := effective_any l p cap user w6 S6.out.e1 (by omega) hu
      rw [← HR.out, ← HV.out] at hE
      refine hE.mono ?_
      rintro e w7 ⟨rfl, b⟩
      have S7 := Lib.hid (S6.out.step b)
      have EL7 := Lib.hid (EL6.out.below b (Nat.le_refl _))
      clear b S6 EL6 hE
      go_wp2_with fail
      refine (turned_any user w7 (by omega)).mono ?_
      rintro e w' ⟨rfl, rfl⟩
      go_wp2_with fail
      have hE := effective_any L p2 k2 (ren user) w7 EL7.out (by omega) (by rw [ren_size]; unfold maxLen; omega)
      rw [HV'.out] at hE
      refine hE.mono ?_
      rintro e w8 ⟨rfl, b⟩
      have S8 := Lib.hid (S7.out.step b)
      have EL8 := Lib.hid (EL7.out.below b (Nat.le_refl _))
      clear b S7 EL7 hE
      go_wp2_with fail
      have hMo := moderators_any l p cap w8 S8.out.e1 (by omega)
      rw [← HR.out] at hMo
      refine hMo.mono ?_
      rintro e w9 ⟨pm, km, rfl, _, _, _, b⟩
      have S9 := Lib.hid (S8.out.step b)
      have EL9 := Lib.hid (EL8.out.below b (Nat.le_refl _))
      clear b S8 EL8 hMo
      rw [← HM.out]
      go_wp2_with fail
      have hMo := moderators_any L p2 k2 w9 EL9.out (by omega)
      refine hMo.mono ?_
      rintro e wa ⟨pn, kn, rfl, _, _, _, b⟩
      have Sa := Lib.hid (S9.out.step b)
      clear b S9 EL9 hMo
      rw [HM'.out]
      go_wp2
      go_ret
      exact ⟨rfl, Sa.out.b⟩
end Go.Proofs.Ytbcldkbacdnpiaa
