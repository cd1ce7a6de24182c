/- QuorumStays: the walk. -/
import Derived.Test.YtbcldkbacdnpiaaQuSmall
namespace Go.Proofs.Ytbcldkbacdnpiaa
open Go.RowKit Go.Maps Go.WideShapes Qu
/-- 'append(v, x...)' where x is nil -/
theorem run_append_none {P : Program} {w : World} (t ty e : TypeId) (i : TypeInfo) (ht : P.underlying t = some (.slice e)) (hi : P.info? e = some i) (p : Option Addr) (n cap c : Nat) (h : n ≤ cap) :
    (Builtin.append_ #[t, t] ty #[.slice p n cap, .slice none 0 c]).run P w = .ok (.slice p n cap) w := by
  cases p <;> simp [Builtin.append_, run_underlying ht, sizeOf, typeInfo, hi, Builtin.lenOf, Builtin.firstCells, storeCells, h]
theorem wpList_append_any {w : World} {ops : Array Oper} {rest : List Oper} {o : Oper} {a : Act} {Q : Exit → Act → World → Prop} (hgd : o.guard = none) (s x : Operand)
    (ho : o.op = .call { callee := .builtin .append, args := #[s, x], argTypes := #[24, 24] })
    (base : Nat) (v : Value) (l l2 : List Ev) (hs : a.eval s = v) (hown : Own w base 31 4 v l.length (evcs l))
    (p2 : Option Addr) (c : Nat) (hx : a.eval x = .slice p2 l2.length c) (hrow : EvsAt w p2 l2) (h63 : l.length + l2.length ≤ 1000) (hbase : base ≤ w.heap.size) (L : List Ev) (hL : Hid (L = l ++ l2))
    (h : ∀ p cap w', Own w' base 31 4 (.slice p L.length cap) L.length (evcs L) → w.grownBy w' v.ownBlock → (Value.ownBlock (.slice p L.length cap) = v.ownBlock ∨ ∃ g, Value.ownBlock (.slice p L.length cap) = some g ∧ w.heap.size ≤ g) →
      wpList Try.prog ops Q rest (a.put o.dst (.slice p L.length cap)) w') : wpList Try.prog ops Q (o :: rest) a w := by
  rcases hrow with h0 | ⟨b, oo, hp, hrow⟩
  · subst h0
    have hLl : L = l := by rw [hL.out, List.append_nil]
    subst hLl
    obtain ⟨i0, hi, hz0, hz1, hz2⟩ := info_parts info_ev
    obtain ⟨p, cap, rfl, hc, hm⟩ := hown.shape'
    cases p2 with
    | none =>
      refine wpList_plain hgd fun K hK => ?_
      have hr := run_append_none (P := Try.prog) (w := w) 24 o.type 31 i0 Try.underlying24 hi p L.length cap c hc
      unfold Oper.wp execOp
      simp only [ho, resolve, invoke, builtin, Sem.run_bind, Sem.run_pure, Result.andThen_ok, List.map_toArray, List.map_cons, List.map_nil, hs, hx, List.length_nil, hr]
      exact hK _ _ (h p cap w hown ⟨rfl, rfl, rfl, Nat.le_refl _, fun _ _ _ => rfl⟩ (.inl rfl))
    | some ad =>
      refine wpList_append_x hgd s x _ ho base 31 i0 _ 4 48 Try.underlying24 hi hz0 hz1 hz2 rfl (by decide) _ L.length (evcs L) hs hown ad 0 c [] hx rfl (fun j u hu => by simp at hu) (fun u hu => by cases hu) (by unfold maxLen; omega) (by omega) hbase ?_
      intro v' w' h2 h3 h4 h5
      rw [List.append_nil, Nat.add_zero] at h2
      obtain ⟨p', cap', rfl, _⟩ := h2.shape'
      exact h p' cap' w' h2 h3 h5
  · subst hp
    exact wpList_append_evs hgd s x ho base v l l2 hs hown b oo c hx hrow h63 hbase L hL h
/-- what stays as the walk goes on -/
structure Stt (w X : World) (q : Q) (p p2 : Option Addr) (l more : List Ev) : Prop where
  e1 : EvsAt X p l
  e2 : EvsAt X p2 more
  q : X.heap[w.heap.size]? = some (.cells #[.int .i64 q.need, .int .i64 q.veto, .int .i64 q.wait, .bool q.free] 23 (0, 0))
  b : Below w.heap.size w X
theorem Stt.step {w X Y : World} {q : Q} {p p2 : Option Addr} {l more : List Ev} (h : Stt w X q p p2 l more) (hb : Below X.heap.size X Y) : Stt w Y q p p2 l more :=
  ⟨h.e1.below hb (Nat.le_refl _), h.e2.below hb (Nat.le_refl _), (hb.block _ (lt_block h.q)).trans h.q, h.b.trans (hb.mono h.b.size)⟩
theorem below_row {B : Nat} {w w' : World} {row : Option Nat} (h : w.grownBy w' row) (hr : ∀ g, row = some g → B ≤ g) (hB : B ≤ w.heap.size) : Below B w w' :=
  ⟨h.os, h.tape, h.output, h.size, fun i hi => h.block i (by omega) (fun e => by have := hr i e.symm; omega)⟩
theorem below_one {W W' : World} {a : Obj} {g : Nat} (h : (W.alloc a).grownBy W' (some g)) (hg : W.heap.size ≤ g) : Below W.heap.size W W' :=
  ((Below.refl _ _).alloc (Nat.le_refl _) _).trans (below_of_grown h hg (by simp))
set_option maxRecDepth 100000 in
set_option maxHeartbeats 4000000 in
theorem stays_walk (q : Q) (held now later : Int) (l more : List Ev) (p p2 : Option Addr) (cap cap2 : Nat) (w : World) (h1 : EvsAt w p l) (h2 : EvsAt w p2 more) (m1 : l.length ≤ maxLen) (m2 : more.length ≤ maxLen) :
    Calls Try.prog 3 #[qval q, .int .i64 held, .slice p l.length cap, .slice p2 more.length cap2, .int .i64 now, .int .i64 later] w fun x w' => x = .returned (.bool true) ∧ Below w.heap.size w w' := by
  have hR := right_any q
  obtain ⟨qn, qv, qt, qf⟩ := q
  unfold qval at hR ⊢
  simp only at hR ⊢
  obtain ⟨W, hW⟩ : ∃ W, W = w.alloc (.cells #[.int .i64 qn, .int .i64 qv, .int .i64 qt, .bool qf] 23) := ⟨_, rfl⟩
  have hB0 : Below w.heap.size w W := by rw [hW]; exact (Below.refl _ _).alloc (Nat.le_refl _) _
  have S0 : Hid (Stt w W ⟨qn, qv, qt, qf⟩ p p2 l more) := Lib.hid ⟨h1.below hB0 (Nat.le_refl _), h2.below hB0 (Nat.le_refl _), by rw [hW]; exact heap_alloc_new _ _, hB0⟩
  have HS := small_any W
  have HSQ := Lib.hid hW
  clear h1 h2 hB0 hW
  by_cases c1 : 30 < l.length
  · clear hR
    go_enter Try.func3, Try.ntmps3
    go_wp2_with fail
    rw [← HSQ.out]
    refine HS.mono ?_
    rintro e w1 ⟨rfl, b⟩
    have S1 := Lib.hid (S0.out.step b)
    obtain ⟨q0, q1, q2, q3⟩ := q_cells S1.out.q
    clear b HS S0 HSQ
    go_wp2_with fail
    refine (few_no p l.length cap w1 m1 (by omega)).mono ?_
    rintro e w' ⟨rfl, rfl⟩
    go_wp2
    go_ret
    exact ⟨rfl, S1.out.b⟩
  by_cases c2 : 30 < more.length
  · clear hR
    go_enter Try.func3, Try.ntmps3
    go_wp2_with fail
    rw [← HSQ.out]
    refine HS.mono ?_
    rintro e w1 ⟨rfl, b⟩
    have S1 := Lib.hid (S0.out.step b)
    obtain ⟨q0, q1, q2, q3⟩ := q_cells S1.out.q
    clear b HS S0 HSQ
    go_wp2_with fail
    refine (few_yes p l.length cap w1 (by omega)).mono ?_
    rintro e w' ⟨rfl, rfl⟩
    go_wp2_with fail
    refine (few_no p2 more.length cap2 w1 m2 (by omega)).mono ?_
    rintro e w' ⟨rfl, rfl⟩
    go_wp2
    go_ret
    exact ⟨rfl, S1.out.b⟩
  cases hr : Q.right ⟨qn, qv, qt, qf⟩
  · rw [hr] at hR
    clear hr
    go_enter Try.func3, Try.ntmps3
    go_wp2_with fail
    rw [← HSQ.out]
    refine HS.mono ?_
    rintro e w1 ⟨rfl, b⟩
    have S1 := Lib.hid (S0.out.step b)
    obtain ⟨q0, q1, q2, q3⟩ := q_cells S1.out.q
    clear b HS S0 HSQ
    go_wp2_with fail
    refine (few_yes p l.length cap w1 (by omega)).mono ?_
    rintro e w' ⟨rfl, rfl⟩
    go_wp2_with fail
    refine (few_yes p2 more.length cap2 w1 (by omega)).mono ?_
    rintro e w' ⟨rfl, rfl⟩
    go_wp2_with fail
    refine (hR w1).mono ?_
    rintro e w2 ⟨rfl, b⟩
    have S2 := Lib.hid (S1.out.step b)
    clear b hR S1 q0 q1 q2 q3
    go_wp2
    go_ret
    exact ⟨rfl, S2.out.b⟩
  by_cases c3 : held < 0
  · rw [hr] at hR
    clear hr
    go_enter Try.func3, Try.ntmps3
    go_wp2_with fail
    rw [← HSQ.out]
    refine HS.mono ?_
    rintro e w1 ⟨rfl, b⟩
    have S1 := Lib.hid (S0.out.step b)
    obtain ⟨q0, q1, q2, q3⟩ := q_cells S1.out.q
    clear b HS S0 HSQ
    go_wp2_with fail
    refine (few_yes p l.length cap w1 (by omega)).mono ?_
    rintro e w' ⟨rfl, rfl⟩
    go_wp2_with fail
    refine (few_yes p2 more.length cap2 w1 (by omega)).mono ?_
    rintro e w' ⟨rfl, rfl⟩
    go_wp2_with fail
    refine (hR w1).mono ?_
    rintro e w2 ⟨rfl, b⟩
    have S2 := Lib.hid (S1.out.step b)
    clear b hR S1 q0 q1 q2 q3
    go_wp2
    go_ret
    exact ⟨rfl, S2.out.b⟩
  by_cases c4 : held > 70368744177664
  · rw [hr] at hR
    clear hr
    go_enter Try.func3, Try.ntmps3
    go_wp2_with fail
    rw [← HSQ.out]
    refine HS.mono ?_
    rintro e w1 ⟨rfl, b⟩
    have S1 := Lib.hid (S0.out.step b)
    obtain ⟨q0, q1, q2, q3⟩ := q_cells S1.out.q
    clear b HS S0 HSQ
    go_wp2_with fail
    refine (few_yes p l.length cap w1 (by omega)).mono ?_
    rintro e w' ⟨rfl, rfl⟩
    go_wp2_with fail
    refine (few_yes p2 more.length cap2 w1 (by omega)).mono ?_
    rintro e w' ⟨rfl, rfl⟩
    go_wp2_with fail
    refine (hR w1).mono ?_
    rintro e w2 ⟨rfl, b⟩
    have S2 := Lib.hid (S1.out.step b)
    clear b hR S1 q0 q1 q2 q3
    go_wp2
    go_ret
    exact ⟨rfl, S2.out.b⟩
  by_cases c5 : later < now
  · rw [hr] at hR
    clear hr
    go_enter Try.func3, Try.ntmps3
    go_wp2_with fail
    rw [← HSQ.out]
    refine HS.mono ?_
    rintro e w1 ⟨rfl, b⟩
    have S1 := Lib.hid (S0.out.step b)
    obtain ⟨q0, q1, q2, q3⟩ := q_cells S1.out.q
    clear b HS S0 HSQ
    go_wp2_with fail
    refine (few_yes p l.length cap w1 (by omega)).mono ?_
    rintro e w' ⟨rfl, rfl⟩
    go_wp2_with fail
    refine (few_yes p2 more.length cap2 w1 (by omega)).mono ?_
    rintro e w' ⟨rfl, rfl⟩
    go_wp2_with fail
    refine (hR w1).mono ?_
    rintro e w2 ⟨rfl, b⟩
    have S2 := Lib.hid (S1.out.step b)
    clear b hR S1 q0 q1 q2 q3
    go_wp2
    go_ret
    exact ⟨rfl, S2.out.b⟩
  have hpp := right_parts hr
  simp only at hpp
  have hdec : ∀ (L : List Ev) (t : Int), decide' ⟨qn, qv, qt, qf⟩ held L t = run ⟨qn, qv, qt, qf⟩ held t Room.none L := fun L t => by unfold decide'; rw [if_neg (by simp [hr, c3, c4])]
  obtain ⟨o, at_, hrun⟩ : ∃ o at_, run ⟨qn, qv, qt, qf⟩ held now Room.none l = (o, at_) := ⟨_, _, rfl⟩
  have hout := run_out ⟨qn, qv, qt, qf⟩ held (by show 0 ≤ qt; omega) now l Room.none
  rw [hrun] at hout
  simp only at hout
  have HD := Lib.hid hdec
  have HRUN := Lib.hid hrun
  have HR := Lib.hid hr
  rw [hr] at hR
  obtain ⟨L, hL⟩ : ∃ L, L = l ++ more := ⟨_, rfl⟩
  have HL := Lib.hid hL
  clear hdec hrun hr hL
  go_enter Try.func3, Try.ntmps3
  go_wp2_with fail
  rw [← HSQ.out]
  refine HS.mono ?_
  rintro e w1 ⟨rfl, b⟩
  have S1 := Lib.hid (S0.out.step b)
  obtain ⟨q0, q1, q2, q3⟩ := q_cells S1.out.q
  clear b HS S0 HSQ
  go_wp2_with fail
  refine (few_yes p l.length cap w1 (by omega)).mono ?_
  rintro e w' ⟨rfl, rfl⟩
  go_wp2_with fail
  refine (few_yes p2 more.length cap2 w1 (by omega)).mono ?_
  rintro e w' ⟨rfl, rfl⟩
  go_wp2_with fail
  refine (hR w1).mono ?_
  rintro e w2 ⟨rfl, b⟩
  have S2 := Lib.hid (S1.out.step b)
  clear b hR S1 q0 q1 q2 q3
  have ho := own_lit (w := w2.alloc (.cells #[] 31)) (base := w2.heap.size) (g := w2.heap.size) (l := []) (heap_alloc_new _ _) (Nat.le_refl _) (by decide)
  have hE := S2.out.e1.below ((Below.refl w2.heap.size w2).alloc (Nat.le_refl _) (.cells #[] 31)) (Nat.le_refl _)
  go_wp2_with (first | (at_builtin; refine wpList_append_any rfl _ _ rfl w2.heap.size _ l more rfl ho3 p2 cap2 rfl hE3 (by omega) (by have := hg3.size; simp at this; omega) L HL ?_; intro p4 k4 w4 ho4 hg4 hob4; have b4 := b3.trans (below_row hg4 (fun g hg => (ho3.block_ge g hg).1) b3.size); have S4 := Lib.hid (S2.out.step b4); obtain ⟨q0, q1, q2, q3⟩ := q_cells S4.out.q) | (at_builtin; refine wpList_append_any rfl _ _ rfl w2.heap.size _ [] l rfl ho p cap rfl hE (by simp; omega) (by simp) l (Lib.hid rfl) ?_; intro p3 k3 w3 ho3 hg3 hob3; have b3 := below_one hg3 (Nat.le_refl _); have hE3 := S2.out.e2.below b3 (Nat.le_refl _)))
  have EA := Lib.hid (own_evs ho4 (by rw [HL.out]; exact ok_app S2.out.e1.okAll S2.out.e2.okAll))
  have HLL : L.length ≤ 60 := by rw [HL.out, List.length_append]; omega
  clear ho4 hg4 hob4 b4 ho3 hg3 hob3 b3 hE3 ho hE S2
  have D1 := decide_any ⟨qn, qv, qt, qf⟩ held now l p cap w4 S4.out.e1 (by omega)
  rw [HD.out, HRUN.out] at D1
  refine D1.mono ?_
  rintro e w5 ⟨rfl, b⟩
  have S5 := Lib.hid (S4.out.step b)
  have EA5 := Lib.hid (EA.out.below b (Nat.le_refl _))
  clear D1 b S4 EA q0 q1 q2 q3
  obtain ⟨q0, q1, q2, q3⟩ := q_cells S5.out.q
  rcases hout with ⟨rfl, rfl, hx⟩ | ⟨ho12, ha1, ha2, ha3⟩
  · go_wp2
    go_ret
    exact ⟨rfl, S5.out.b⟩
  · have ho0 : o ≠ 0 := by omega
    have o1 : (o == 0) = false := by simpa using ho0
    have hlater : decide' ⟨qn, qv, qt, qf⟩ held l later = run ⟨qn, qv, qt, qf⟩ held later Room.none l := HD.out l later
    have tail : Hid (ascB L = true → run ⟨qn, qv, qt, qf⟩ held later Room.none l = (o, at_)) := by
      show _ → _
      intro hasc
      have ha := asc_of hasc
      rw [HL.out] at ha
      have := run_later ⟨qn, qv, qt, qf⟩ held now later (by omega) [] (fun e he => by cases he) l Room.none (by rw [List.append_nil]; exact (List.pairwise_append.1 ha).1) (by rw [HRUN.out]; exact ho0)
      rw [List.append_nil, HRUN.out] at this
      exact this
    have tail2 : Hid (ascB L = true → (∀ e ∈ more, now ≤ e.when) → run ⟨qn, qv, qt, qf⟩ held later Room.none L = (o, at_)) := by
      show _ → _ → _
      intro hasc hm
      have ha := asc_of hasc
      rw [HL.out] at ha ⊢
      have := run_later ⟨qn, qv, qt, qf⟩ held now later (by omega) more hm l Room.none ha (by rw [HRUN.out]; exact ho0)
      rw [HRUN.out] at this
      exact this
    have tail3 : Hid (ascB L = true → at_ ≠ held → run ⟨qn, qv, qt, qf⟩ held (at_ - 1) Room.none l = (0, 0)) := by
      show _ → _ → _
      intro hasc hne
      have ha := asc_of hasc
      rw [HL.out] at ha
      have := run_before ⟨qn, qv, qt, qf⟩ held (by show 0 ≤ qt; omega) now l Room.none (List.pairwise_append.1 ha).1 (by rw [HRUN.out]; exact ho0) (by rw [HRUN.out]; exact hne)
      rw [HRUN.out] at this
      exact this
    have asc2 : Hid (ascB L = true → ∀ e0, more.head? = some e0 → now ≤ e0.when → ∀ e ∈ more, now ≤ e.when) := by
      show _ → _
      intro hasc e0 he0 hn e he
      have ha := asc_of hasc
      rw [HL.out] at ha
      have ha2 := (List.pairwise_append.1 ha).2.1
      cases more with
      | nil => cases he
      | cons x xs =>
        simp only [List.head?_cons, Option.some.injEq] at he0
        subst he0
        rcases List.mem_cons.1 he with rfl | h
        · exact hn
        · exact Int.le_trans hn ((List.pairwise_cons.1 ha2).1 e h)
    have hcase : (now < at_ → (at_ != held) = false) := fun h => by
      rcases ha3 with h3 | h3
      · omega
      · simpa using h3
    clear hlater ha3
    rcases (show at_ ≤ now ∨ now < at_ by omega) with h9 | h9
    all_goals
      first | have e9 := hcase h9 | skip
      clear hcase
      go_wp2_with fail
      have HA := ascending_any L p4 k4 w5 EA5.out (by omega)
      refine HA.mono ?_
      rintro e w6 ⟨rfl, n6, hw6⟩
      have b6 : Below w5.heap.size w5 w6 := by rw [hw6]; exact ⟨rfl, rfl, rfl, Nat.le_refl _, fun _ _ => rfl⟩
      have S6 := Lib.hid (S5.out.step b6)
      have EA6 := Lib.hid (EA5.out.below b6 (Nat.le_refl _))
      have Q5 := S5
      clear b6 hw6 HA S5 EA5 q0 q1 q2 q3
      obtain ⟨q0, q1, q2, q3⟩ := q_cells S6.out.q
      cases hasc : ascB L
      · clear hasc
        go_wp2
        go_ret
        exact ⟨rfl, S6.out.b⟩
      · have T1 := Lib.hid (tail.out hasc)
        have T2 := Lib.hid (tail2.out hasc)
        have T3 := Lib.hid (tail3.out hasc)
        have T4 := Lib.hid (asc2.out hasc)
        clear hasc tail tail2 tail3 asc2
        go_wp2_with fail
        have D2 := decide_any ⟨qn, qv, qt, qf⟩ held later l p cap w6 S6.out.e1 (by omega)
        rw [HD.out, T1.out] at D2
        refine D2.mono ?_
        rintro e w7 ⟨rfl, b⟩
        have S7 := Lib.hid (S6.out.step b)
        have EA7 := Lib.hid (EA6.out.below b (Nat.le_refl _))
        clear D2 b q0 q1 q2 q3 S6 EA6 Q5
        obtain ⟨q0, q1, q2, q3⟩ := q_cells S7.out.q
        by_cases hm : more.length = 0
        · have e5 : ((more.length : Int) == 0) = true := by simpa using (show (more.length : Int) = 0 by omega)
          have hall : Hid (∀ e ∈ more, now ≤ e.when) := by
            show ∀ e ∈ more, _
            intro e he
            rw [List.length_eq_zero_iff.1 hm] at he; cases he
          have HM := Lib.hid hm
          clear hm
          go_wp2_with fail
          have D3 := decide_any ⟨qn, qv, qt, qf⟩ held later L p4 k4 w7 EA7.out (by omega)
          rw [HD.out, T2.out hall.out] at D3
          refine D3.mono ?_
          rintro e w8 ⟨rfl, b⟩
          have S8 := Lib.hid (S7.out.step b)
          clear D3 b q0 q1 q2 q3
          obtain ⟨q0, q1, q2, q3⟩ := q_cells S8.out.q
          by_cases hah : at_ = held
          · have e8 : (at_ == held) = true := by simpa using hah
            have HAH := Lib.hid hah
            clear hah
            go_wp2
            go_ret
            exact ⟨rfl, S8.out.b⟩
          · have e8 : (at_ == held) = false := by simpa using hah
            have hz : 0 ≤ at_ - 1 := by omega
            have T5 := T3.out hah
            have HAH := Lib.hid hah
            clear hah
            go_wp2_with fail
            have D4 := decide_any ⟨qn, qv, qt, qf⟩ held (at_ - 1) l p cap w8 S8.out.e1 (by omega)
            rw [HD.out, T5] at D4
            refine D4.mono ?_
            rintro e w9 ⟨rfl, b⟩
            have S9 := Lib.hid (S8.out.step b)
            clear D4 b T5
            go_wp2
            go_ret
            exact ⟨rfl, S9.out.b⟩
        · have e5 : ((more.length : Int) == 0) = false := by simpa using (show ¬ (more.length : Int) = 0 by omega)
          have hm0 : 0 < more.length := by omega
          obtain ⟨mb, mo, hp2, hrow⟩ : ∃ b o, p2 = some ⟨b, o, none⟩ ∧ EvsRow w7 b o more := S7.out.e2.resolve_left (fun e => by simp [e] at hm0)
          subst hp2
          have m0 := hrow.when 0 hm0
          rw [Nat.zero_mul, Nat.add_zero] at m0
          have hh : more.head? = some more[0] := by
            rw [List.head?_eq_getElem?, List.getElem?_eq_getElem hm0]
          have T6 := Lib.hid (T4.out _ hh)
          obtain ⟨x0, hx0⟩ : ∃ x, (more[0]'hm0).when = x := ⟨_, rfl⟩
          have T7 : Hid (now ≤ x0 → ∀ e ∈ more, now ≤ e.when) := by show _ → _; rw [← hx0]; exact T6.out
          rw [hx0] at m0
          clear hx0 hh hrow hm T6
          by_cases hf : now ≤ x0
          · have hall := Lib.hid (T7.out hf)
            go_wp2_with fail
            have D3 := decide_any ⟨qn, qv, qt, qf⟩ held later L p4 k4 w7 EA7.out (by omega)
            rw [HD.out, T2.out hall.out] at D3
            refine D3.mono ?_
            rintro e w8 ⟨rfl, b⟩
            have S8 := Lib.hid (S7.out.step b)
            clear D3 b q0 q1 q2 q3
            obtain ⟨q0, q1, q2, q3⟩ := q_cells S8.out.q
            by_cases hah : at_ = held
            · have e8 : (at_ == held) = true := by simpa using hah
              have HAH := Lib.hid hah
              clear hah
              go_wp2
              go_ret
              exact ⟨rfl, S8.out.b⟩
            · have e8 : (at_ == held) = false := by simpa using hah
              have hz : 0 ≤ at_ - 1 := by omega
              have T5 := T3.out hah
              have HAH := Lib.hid hah
              clear hah
              go_wp2_with fail
              have D4 := decide_any ⟨qn, qv, qt, qf⟩ held (at_ - 1) l p cap w8 S8.out.e1 (by omega)
              rw [HD.out, T5] at D4
              refine D4.mono ?_
              rintro e w9 ⟨rfl, b⟩
              have S9 := Lib.hid (S8.out.step b)
              clear D4 b T5
              go_wp2
              go_ret
              exact ⟨rfl, S9.out.b⟩
          · have S8 := S7
            by_cases hah : at_ = held
            · have e8 : (at_ == held) = true := by simpa using hah
              have HAH := Lib.hid hah
              clear hah
              go_wp2
              go_ret
              exact ⟨rfl, S8.out.b⟩
            · have e8 : (at_ == held) = false := by simpa using hah
              have hz : 0 ≤ at_ - 1 := by omega
              have T5 := T3.out hah
              have HAH := Lib.hid hah
              clear hah
              go_wp2_with fail
              have D4 := decide_any ⟨qn, qv, qt, qf⟩ held (at_ - 1) l p cap w7 S8.out.e1 (by omega)
              rw [HD.out, T5] at D4
              refine D4.mono ?_
              rintro e w9 ⟨rfl, b⟩
              have S9 := Lib.hid (S8.out.step b)
              clear D4 b T5
              go_wp2
              go_ret
              exact ⟨rfl, S9.out.b⟩
end Go.Proofs.Ytbcldkbacdnpiaa
