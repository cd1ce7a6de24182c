/- QuorumLate: the walk. -/
import Derived.Test.YtbcldkbacdnpiaaQuStaysW
import Derived.Deep.DeepCutAuto
namespace Go.Proofs.Ytbcldkbacdnpiaa
open Go.RowKit Go.Maps Go.WideShapes Qu
theorem EvsAt.drop {w : World} {p : Option Addr} {l : List Ev} (h : EvsAt w p l) (k : Nat) (cap : Nat) (hcap : l.length ≤ cap) : EvsAt w (if cap = k then p else p.map (·.add (k * 4))) (l.drop k) := by
  by_cases hd : l.drop k = []
  · exact .inl hd
  · have hlt : k < l.length := by
      rcases Nat.lt_or_ge k l.length with h | h
      · exact h
      · exact absurd (List.drop_eq_nil_of_le h) hd
    rcases h with h | ⟨b, o, rfl, hr⟩
    · subst h; simp at hd
    · by_cases hc : cap = k
      · omega
      · rw [if_neg hc]
        refine .inr ⟨b, o + k * 4, by simp [add_plain], ?_⟩
        refine ⟨fun i hi => ?_, fun i hi => ?_, fun i hi => ?_, fun i hi => ?_, fun e he => hr.ok e (List.mem_of_mem_drop he)⟩
        all_goals
          have hi' : k + i < l.length := by simp at hi; omega
          rw [List.getElem_drop]
        · rw [show o + k * 4 + i * 4 = o + (k + i) * 4 by omega]; exact hr.when _ hi'
        · rw [show o + k * 4 + i * 4 + 1 = o + (k + i) * 4 + 1 by omega]; exact hr.kind _ hi'
        · rw [show o + k * 4 + i * 4 + 2 = o + (k + i) * 4 + 2 by omega]; exact hr.user _ hi'
        · rw [show o + k * 4 + i * 4 + 3 = o + (k + i) * 4 + 3 by omega]; exact hr.name _ hi'
theorem EvsRow.take {w : World} {b o : Nat} {l : List Ev} (h : EvsRow w b o l) (k : Nat) : EvsRow w b o (l.take k) := by
  refine ⟨fun i hi => ?_, fun i hi => ?_, fun i hi => ?_, fun i hi => ?_, fun e he => h.ok e (List.mem_of_mem_take he)⟩
  all_goals
    have hi' : i < l.length := by simp at hi; omega
    rw [List.getElem_take]
  · exact h.when _ hi'
  · exact h.kind _ hi'
  · exact h.user _ hi'
  · exact h.name _ hi'
theorem EvsAt.take {w : World} {p : Option Addr} {l : List Ev} (h : EvsAt w p l) (k : Nat) (cap : Nat) : EvsAt w (if cap = 0 then p else p.map (·.add (0 * 4))) (l.take k) := by
  rcases h with rfl | ⟨b, o, rfl, hr⟩
  · exact .inl (by simp)
  · refine .inr ⟨b, o, ?_, hr.take k⟩
    split <;> simp [add_plain]
/-- 's[k:]' -/
theorem run_from (p : Option Addr) (n cap k : Nat) (hk : k ≤ n) (w : World) :
    (Instr.slice 24 (.slice p n cap) (some (.int .i64 k)) none none).run Try.prog w = .ok (.slice (if cap = k then p else p.map (·.add (k * 4))) (n - k) (cap - k)) w := by
  rw [run_slice_l w 24 p n cap Try.underlying24 .i64 k (by omega) (by omega)]
  obtain ⟨i0, hi, hz0, hz1, hz2⟩ := info_parts info_ev
  have he : Try.prog.elem 24 = 31 := by kernel_rfl
  simp [he, sizeOf, typeInfo, hi, hz1, Result.andThen, sliced]
/-- 's[:k]' -/
theorem run_upto (p : Option Addr) (n cap k : Nat) (hk : k ≤ cap) (w : World) :
    (Instr.slice 24 (.slice p n cap) none (some (.int .i64 k)) none).run Try.prog w = .ok (.slice (if cap = 0 then p else p.map (·.add (0 * 4))) k cap) w := by
  rw [run_slice_h w 24 p n cap Try.underlying24 .i64 k (by omega) (by omega)]
  obtain ⟨i0, hi, hz0, hz1, hz2⟩ := info_parts info_ev
  have he : Try.prog.elem 24 = 31 := by kernel_rfl
  simp [he, sizeOf, typeInfo, hi, hz1, Result.andThen, sliced]
theorem wpList_append_len {w : World} {ops : Array Oper} {rest : List Oper} {o : Oper} {a : Act} {Q : Exit → Act → World → Prop} (hgd : o.guard = none) (s x : Operand)
    (ho : o.op = .call { callee := .builtin .append, args := #[s, x], argTypes := #[24, 24] })
    (base : Nat) (v : Value) (l l2 : List Ev) (hs : a.eval s = v) (hown : Own w base 31 4 v l.length (evcs l))
    (p2 : Option Addr) (m c : Nat) (hx : a.eval x = .slice p2 m c) (hm : l2.length = m) (hrow : EvsAt w p2 l2) (h63 : l.length + l2.length ≤ 1000) (hbase : base ≤ w.heap.size) (L : List Ev) (hL : Hid (L = l ++ l2))
    (h : ∀ p cap w', Own w' base 31 4 (.slice p L.length cap) L.length (evcs L) → w.grownBy w' v.ownBlock → (Value.ownBlock (.slice p L.length cap) = v.ownBlock ∨ ∃ g, Value.ownBlock (.slice p L.length cap) = some g ∧ w.heap.size ≤ g) →
      wpList Try.prog ops Q rest (a.put o.dst (.slice p L.length cap)) w') : wpList Try.prog ops Q (o :: rest) a w :=
  wpList_append_any hgd s x ho base v l l2 hs hown p2 c (by rw [hm]; exact hx) hrow h63 hbase L hL h
theorem EvsAt.below2 {w w' : World} {B : Nat} {p : Option Addr} {l : List Ev} (h : EvsAt w p l) (hb : Below B w w') (hp : ∀ b o, p = some ⟨b, o, none⟩ → b < B) : EvsAt w' p l := by
  rcases h with h | ⟨b, o, h1, h2⟩
  · exact .inl h
  · exact .inr ⟨b, o, h1, h2.block (hb.block b (hp b o h1))⟩
theorem below_one2 {W W' : World} {a : Obj} (h : ((W.alloc a).drew).grownBy W' (Value.ownBlock (.slice (some ⟨W.heap.size, 0, none⟩) 0 0))) : Below W.heap.size W W' :=
  ((Below.refl W.heap.size W).alloc (Nat.le_refl _) a).drew.trans (below_row h (fun g hg => by simp only [Value.ownBlock, Option.some.injEq] at hg; omega) (by simp))
theorem below_two2 {W W' : World} {a b : Obj} {g : Nat} (h : (((W.alloc a).alloc b).drew).grownBy W' (Value.ownBlock (.slice (some ⟨g, 0, none⟩) 0 0))) (hg : W.heap.size ≤ g) : Below W.heap.size W W' :=
  (((Below.refl W.heap.size W).alloc (Nat.le_refl _) a).alloc (by simp) b).drew.trans (below_row h (fun g' hg' => by simp only [Value.ownBlock, Option.some.injEq] at hg'; omega) (by simp; omega))
theorem late_b {W W' : World} {a b : Obj} (h : (((W.alloc a).alloc b).drew).grownBy W' (Value.ownBlock (.slice (some ⟨W.heap.size + 1, 0, none⟩) 0 0))) : W'.heap[W.heap.size]? = some a :=
  (h.block W.heap.size (by simp; omega) (by simp [Value.ownBlock])).trans ((Below.heap_alloc _ _ _ (by simp)).trans (heap_alloc_new W a))
theorem late_c {W W' : World} {a b : Obj} (h : (((W.alloc a).alloc b).drew).grownBy W' (Value.ownBlock (.slice (some ⟨W.heap.size, 0, none⟩) 0 0))) : W'.heap[W.heap.size + 1]? = some b :=
  (h.block (W.heap.size + 1) (by simp) (by simp [Value.ownBlock])).trans (show ((W.alloc a).alloc b).heap[W.heap.size + 1]? = some b by have := heap_alloc_new (W.alloc a) b; simpa using this)
theorem own_empty {w : World} {base g : Nat} (hg : w.heap[g]? = some (.cells #[] 31 (0, 0))) (hb : base ≤ g) : Own w base 31 4 (.slice (some ⟨g, 0, none⟩) 0 0) ([] : List Ev).length (evcs []) :=
  own_lit (l := []) hg hb (by decide)
/-- an append of events at a step of a region that draws its order -/
theorem step_append_evs {w : World} {ops : Array Oper} {o : Oper} {a : Act} {K : Act → World → Prop} {Q : Exit → Act → World → Prop} {E : Prop} (hgd : o.guard = none) (s x : Operand)
    (ho : o.op = .call { callee := .builtin .append, args := #[s, x], argTypes := #[24, 24] })
    (base : Nat) (l l2 : List Ev) (v : Value) (hs : a.eval s = v) (p2 : Option Addr) (m c : Nat) (hx : a.eval x = .slice p2 m c) (hm : l2.length = m) (h63 : l.length + l2.length ≤ 1000) (L : List Ev) (hL : Hid (L = l ++ l2))
    (hown : Own w base 31 4 v l.length (evcs l)) (hrow : EvsAt w p2 l2) (hbase : base ≤ w.heap.size)
    (h : ∀ p cap w', Own w' base 31 4 (.slice p L.length cap) L.length (evcs L) → w.grownBy w' v.ownBlock → K (a.put o.dst (.slice p L.length cap)) w') :
    if Region.wanted o (yielded ops a.tmps) = true then Oper.wp Try.prog o a w K Q else E := by
  have hw : Region.wanted o (yielded ops a.tmps) = true := by simp [Region.wanted, hgd]
  rw [if_pos hw]
  subst hm
  rcases hrow with h0 | ⟨b, oo, hp, hrow⟩
  · subst h0
    have hLl : L = l := by rw [hL.out, List.append_nil]
    subst hLl
    obtain ⟨i0, hi, hz0, hz1, hz2⟩ := info_parts info_ev
    obtain ⟨p, cap, rfl, hc, hm⟩ := hown.shape'
    cases p2 with
    | none =>
      have hr := run_append_none (P := Try.prog) (w := w) 24 o.type 31 i0 Try.underlying24 hi p L.length cap c hc
      unfold Oper.wp execOp
      simp only [ho, resolve, invoke, builtin, Sem.run_bind, Sem.run_pure, Result.andThen_ok, List.map_toArray, List.map_cons, List.map_nil, hs, hx, List.length_nil, hr]
      exact h p cap w hown ⟨rfl, rfl, rfl, Nat.le_refl _, fun _ _ _ => rfl⟩
    | some ad =>
      refine wp_append_x s x _ ho base 31 i0 _ 4 48 Try.underlying24 hi hz0 hz1 hz2 rfl (by decide) _ L.length (evcs L) hs hown ad 0 c [] hx rfl (fun j u hu => by simp at hu) (fun u hu => by cases hu) (by unfold maxLen; omega) (by omega) hbase ?_
      intro v' w' h2 h3 h4 h5
      rw [List.append_nil, Nat.add_zero] at h2
      obtain ⟨p', cap', rfl, _⟩ := h2.shape'
      exact h p' cap' w' h2 h3
  · subst hp
    obtain ⟨i0, hi, hz0, hz1, hz2⟩ := info_parts info_ev
    refine wp_append_x s x _ ho base 31 i0 _ 4 48 Try.underlying24 hi hz0 hz1 hz2 rfl (by decide) v l.length (evcs l) hs hown ⟨b, oo, none⟩ l2.length c (evcs l2) hx (evcs_len l2) (evs_news hrow) (evc_one l2) (by unfold maxLen; omega) (by omega) hbase ?_
    intro v' w' h2 h3 h4 h5
    rw [← evcs_append, ← List.length_append, ← hL.out] at h2
    obtain ⟨p, cap, rfl, _⟩ := h2.shape'
    exact h p cap w' h2 h3
/-- what stays as the walk goes on -/
structure Stl (w X : World) (q : Q) (late : Ev) (p : Option Addr) (l : List Ev) : Prop where
  e1 : EvsAt X p l
  q : X.heap[w.heap.size]? = some (.cells #[.int .i64 q.need, .int .i64 q.veto, .int .i64 q.wait, .bool q.free] 23 (0, 0))
  lt : X.heap[w.heap.size + 1]? = some (.cells #[.int .i64 late.when, .int .i64 late.kind, .string late.user, .string late.name] 31 (0, 0))
  b : Below w.heap.size w X
theorem Stl.step {w X Y : World} {q : Q} {late : Ev} {p : Option Addr} {l : List Ev} (h : Stl w X q late p l) (hb : Below X.heap.size X Y) : Stl w Y q late p l :=
  ⟨h.e1.below hb (Nat.le_refl _), (hb.block _ (lt_block h.q)).trans h.q, (hb.block _ (lt_block h.lt)).trans h.lt, h.b.trans (hb.mono h.b.size)⟩
set_option maxRecDepth 100000 in
set_option maxHeartbeats 4000000 in
theorem late_walk (q : Q) (held i now : Int) (l : List Ev) (late : Ev) (p : Option Addr) (cap : Nat) (w : World) (h1 : EvsAt w p l) (hcap : l.length ≤ cap) (hcm : cap ≤ maxLen) (hlok : EvOk late) :
    Calls Try.prog 4 #[qval q, .int .i64 held, .slice p l.length cap, evval late, .int .i64 i, .int .i64 now] w fun x w' => x = .returned (.bool true) ∧ Below w.heap.size w w' := by
  have hR := right_any q
  obtain ⟨qn, qv, qt, qf⟩ := q
  obtain ⟨lw, lk, lu, ln⟩ := late
  unfold qval at hR ⊢
  unfold evval
  simp only at hR ⊢
  obtain ⟨W, hW⟩ : ∃ W, W = (w.alloc (.cells #[.int .i64 qn, .int .i64 qv, .int .i64 qt, .bool qf] 23)).alloc (.cells #[.int .i64 lw, .int .i64 lk, .string lu, .string ln] 31) := ⟨_, rfl⟩
  have hB0 : Below w.heap.size w W := by rw [hW]; exact ((Below.refl _ _).alloc (Nat.le_refl _) _).alloc (by simp) _
  have S0 : Hid (Stl w W ⟨qn, qv, qt, qf⟩ ⟨lw, lk, lu, ln⟩ p l) := Lib.hid ⟨h1.below hB0 (Nat.le_refl _), by rw [hW, Below.heap_alloc _ _ _ (by simp)]; exact heap_alloc_new _ _, by rw [hW]; have := heap_alloc_new (w.alloc (.cells #[.int .i64 qn, .int .i64 qv, .int .i64 qt, .bool qf] 23)) (.cells #[.int .i64 lw, .int .i64 lk, .string lu, .string ln] 31); simpa using this, hB0⟩
  have HS := small_any W
  have HSQ := Lib.hid hW
  clear h1 hB0 hW
  by_cases c1 : 30 < l.length
  · clear hR
    go_enter Try.func4, Try.ntmps4
    go_wp2_with fail
    rw [← HSQ.out]
    refine HS.mono ?_
    rintro e w1 ⟨rfl, b⟩
    have S1 := Lib.hid (S0.out.step b)
    obtain ⟨q0, q1, q2, q3⟩ := q_cells S1.out.q
    obtain ⟨l0, l1, l2, l3⟩ := q_cells S1.out.lt
    clear b HS S0 HSQ
    go_wp2_with fail
    refine (few_no p l.length cap w1 (Nat.le_trans hcap hcm) (by omega)).mono ?_
    rintro e w' ⟨rfl, rfl⟩
    go_wp2
    go_ret
    exact ⟨rfl, S1.out.b⟩
  cases hr : Q.right ⟨qn, qv, qt, qf⟩
  · rw [hr] at hR
    clear hr
    go_enter Try.func4, Try.ntmps4
    go_wp2_with fail
    rw [← HSQ.out]
    refine HS.mono ?_
    rintro e w1 ⟨rfl, b⟩
    have S1 := Lib.hid (S0.out.step b)
    obtain ⟨q0, q1, q2, q3⟩ := q_cells S1.out.q
    obtain ⟨l0, l1, l2, l3⟩ := q_cells S1.out.lt
    clear b HS S0 HSQ
    go_wp2_with fail
    refine (few_yes p l.length cap w1 (by omega)).mono ?_
    rintro e w' ⟨rfl, rfl⟩
    go_wp2_with fail
    refine (hR w1).mono ?_
    rintro e w2 ⟨rfl, b⟩
    have S2 := Lib.hid (S1.out.step b)
    clear b hR S1 q0 q1 q2 q3 l0 l1 l2 l3
    obtain ⟨q0, q1, q2, q3⟩ := q_cells S2.out.q
    obtain ⟨l0, l1, l2, l3⟩ := q_cells S2.out.lt
    go_wp2
    go_ret
    exact ⟨rfl, S2.out.b⟩
  by_cases c3 : held < 0
  · rw [hr] at hR
    clear hr
    go_enter Try.func4, Try.ntmps4
    go_wp2_with fail
    rw [← HSQ.out]
    refine HS.mono ?_
    rintro e w1 ⟨rfl, b⟩
    have S1 := Lib.hid (S0.out.step b)
    obtain ⟨q0, q1, q2, q3⟩ := q_cells S1.out.q
    obtain ⟨l0, l1, l2, l3⟩ := q_cells S1.out.lt
    clear b HS S0 HSQ
    go_wp2_with fail
    refine (few_yes p l.length cap w1 (by omega)).mono ?_
    rintro e w' ⟨rfl, rfl⟩
    go_wp2_with fail
    refine (hR w1).mono ?_
    rintro e w2 ⟨rfl, b⟩
    have S2 := Lib.hid (S1.out.step b)
    clear b hR S1 q0 q1 q2 q3 l0 l1 l2 l3
    obtain ⟨q0, q1, q2, q3⟩ := q_cells S2.out.q
    obtain ⟨l0, l1, l2, l3⟩ := q_cells S2.out.lt
    go_wp2
    go_ret
    exact ⟨rfl, S2.out.b⟩
  by_cases c4 : held > 70368744177664
  · rw [hr] at hR
    clear hr
    go_enter Try.func4, Try.ntmps4
    go_wp2_with fail
    rw [← HSQ.out]
    refine HS.mono ?_
    rintro e w1 ⟨rfl, b⟩
    have S1 := Lib.hid (S0.out.step b)
    obtain ⟨q0, q1, q2, q3⟩ := q_cells S1.out.q
    obtain ⟨l0, l1, l2, l3⟩ := q_cells S1.out.lt
    clear b HS S0 HSQ
    go_wp2_with fail
    refine (few_yes p l.length cap w1 (by omega)).mono ?_
    rintro e w' ⟨rfl, rfl⟩
    go_wp2_with fail
    refine (hR w1).mono ?_
    rintro e w2 ⟨rfl, b⟩
    have S2 := Lib.hid (S1.out.step b)
    clear b hR S1 q0 q1 q2 q3 l0 l1 l2 l3
    obtain ⟨q0, q1, q2, q3⟩ := q_cells S2.out.q
    obtain ⟨l0, l1, l2, l3⟩ := q_cells S2.out.lt
    go_wp2
    go_ret
    exact ⟨rfl, S2.out.b⟩
  by_cases c5 : i < 0
  · rw [hr] at hR
    clear hr
    go_enter Try.func4, Try.ntmps4
    go_wp2_with fail
    rw [← HSQ.out]
    refine HS.mono ?_
    rintro e w1 ⟨rfl, b⟩
    have S1 := Lib.hid (S0.out.step b)
    obtain ⟨q0, q1, q2, q3⟩ := q_cells S1.out.q
    obtain ⟨l0, l1, l2, l3⟩ := q_cells S1.out.lt
    clear b HS S0 HSQ
    go_wp2_with fail
    refine (few_yes p l.length cap w1 (by omega)).mono ?_
    rintro e w' ⟨rfl, rfl⟩
    go_wp2_with fail
    refine (hR w1).mono ?_
    rintro e w2 ⟨rfl, b⟩
    have S2 := Lib.hid (S1.out.step b)
    clear b hR S1 q0 q1 q2 q3 l0 l1 l2 l3
    obtain ⟨q0, q1, q2, q3⟩ := q_cells S2.out.q
    obtain ⟨l0, l1, l2, l3⟩ := q_cells S2.out.lt
    go_wp2
    go_ret
    exact ⟨rfl, S2.out.b⟩
  by_cases c6 : i > l.length
  · have hcm2 : cap ≤ 9223372036854775807 := by unfold maxLen at hcm; omega
    rw [hr] at hR
    clear hr
    go_enter Try.func4, Try.ntmps4
    go_wp2_with fail
    rw [← HSQ.out]
    refine HS.mono ?_
    rintro e w1 ⟨rfl, b⟩
    have S1 := Lib.hid (S0.out.step b)
    obtain ⟨q0, q1, q2, q3⟩ := q_cells S1.out.q
    obtain ⟨l0, l1, l2, l3⟩ := q_cells S1.out.lt
    clear b HS S0 HSQ
    go_wp2_with fail
    refine (few_yes p l.length cap w1 (by omega)).mono ?_
    rintro e w' ⟨rfl, rfl⟩
    go_wp2_with fail
    refine (hR w1).mono ?_
    rintro e w2 ⟨rfl, b⟩
    have S2 := Lib.hid (S1.out.step b)
    clear b hR S1 q0 q1 q2 q3 l0 l1 l2 l3
    obtain ⟨q0, q1, q2, q3⟩ := q_cells S2.out.q
    obtain ⟨l0, l1, l2, l3⟩ := q_cells S2.out.lt
    go_wp2
    go_ret
    exact ⟨rfl, S2.out.b⟩
  obtain ⟨k, rfl⟩ : ∃ k : Nat, i = k := ⟨i.toNat, by omega⟩
  have hkl : k ≤ l.length := by omega
  have hpp := right_parts hr
  simp only at hpp
  by_cases hl : lw ≤ now ∧ lw < held + qt ∧ 0 ≤ lk ∧ lk < 5
  · obtain ⟨z1, z2, z3, z4⟩ := hl
    rw [hr] at hR
    clear hr
    go_enter Try.func4, Try.ntmps4
    go_wp2_with fail
    rw [← HSQ.out]
    refine HS.mono ?_
    rintro e w1 ⟨rfl, b⟩
    have S1 := Lib.hid (S0.out.step b)
    obtain ⟨q0, q1, q2, q3⟩ := q_cells S1.out.q
    obtain ⟨l0, l1, l2, l3⟩ := q_cells S1.out.lt
    clear b HS S0 HSQ
    go_wp2_with fail
    refine (few_yes p l.length cap w1 (by omega)).mono ?_
    rintro e w' ⟨rfl, rfl⟩
    go_wp2_with fail
    refine (hR w1).mono ?_
    rintro e w2 ⟨rfl, b⟩
    have S2 := Lib.hid (S1.out.step b)
    clear b hR S1 q0 q1 q2 q3 l0 l1 l2 l3
    obtain ⟨q0, q1, q2, q3⟩ := q_cells S2.out.q
    obtain ⟨l0, l1, l2, l3⟩ := q_cells S2.out.lt
    go_wp2
    go_ret
    exact ⟨rfl, S2.out.b⟩
  have hl' : lw > now ∨ lw ≥ held + qt ∨ lk < 0 ∨ 5 ≤ lk := by omega
  have hdec : ∀ (L : List Ev) (t : Int), decide' ⟨qn, qv, qt, qf⟩ held L t = run ⟨qn, qv, qt, qf⟩ held t Room.none L := fun L t => by unfold decide'; rw [if_neg (by simp [hr, c3, c4])]
  have hsame : decide' ⟨qn, qv, qt, qf⟩ held (l.take k ++ ⟨lw, lk, lu, ln⟩ :: l.drop k) now = decide' ⟨qn, qv, qt, qf⟩ held l now := by
    rw [hdec, hdec, run_late _ held now ⟨lw, lk, lu, ln⟩ hl' (l.drop k) (l.take k) Room.none Room.fine_none (idle_none hr), List.take_append_drop]
  obtain ⟨o, at_, hD⟩ : ∃ o at_, decide' ⟨qn, qv, qt, qf⟩ held l now = (o, at_) := ⟨_, _, rfl⟩
  rw [hD] at hsame
  have HD := Lib.hid hD
  have HSAME := Lib.hid hsame
  rw [hr] at hR
  have hcm' : cap ≤ 9223372036854775807 := by unfold maxLen at hcm; omega
  have hs1 := run_from p l.length cap k hkl
  have hE1 : ∀ X, EvsAt X p l → EvsAt X (if cap = k then p else p.map (·.add (k * 4))) (l.drop k) := fun X h => h.drop k cap hcap
  have hs2 := run_upto p l.length cap k (by omega)
  have hE2 : ∀ X, EvsAt X p l → EvsAt X (if cap = 0 then p else p.map (·.add (0 * 4))) (l.take k) := fun X h => h.take k cap
  obtain ⟨p1, hp1⟩ : ∃ p1, (if cap = k then p else p.map (·.add (k * 4))) = p1 := ⟨_, rfl⟩
  obtain ⟨p2, hp2⟩ : ∃ p2, (if cap = 0 then p else p.map (·.add (0 * 4))) = p2 := ⟨_, rfl⟩
  rw [hp1] at hs1 hE1
  rw [hp2] at hs2 hE2
  have HE1 := Lib.hid hE1
  have HE2 := Lib.hid hE2
  clear hdec hr hsame hD hp1 hp2 hE1 hE2 hcm
  go_enter Try.func4, Try.ntmps4
  go_wp2_with fail
  rw [← HSQ.out]
  refine HS.mono ?_
  rintro e w1 ⟨rfl, b⟩
  have S1 := Lib.hid (S0.out.step b)
  obtain ⟨q0, q1, q2, q3⟩ := q_cells S1.out.q
  obtain ⟨l0, l1, l2, l3⟩ := q_cells S1.out.lt
  clear b HS S0 HSQ
  go_wp2_with fail
  refine (few_yes p l.length cap w1 (by omega)).mono ?_
  rintro e w' ⟨rfl, rfl⟩
  go_wp2_with fail
  refine (hR w1).mono ?_
  rintro e w2 ⟨rfl, b⟩
  have S2 := Lib.hid (S1.out.step b)
  clear b hR S1 q0 q1 q2 q3 l0 l1 l2 l3
  obtain ⟨q0, q1, q2, q3⟩ := q_cells S2.out.q
  obtain ⟨l0, l1, l2, l3⟩ := q_cells S2.out.lt
  go_upto_region 4 with fail
  go_cut [70] (fun s70 wx => s70 = .bool false ∧ wx = w2)
  case first =>
    rcases hl' with hl' | hl' | hl' | hl'
    all_goals
      go_wp2
      all_goals
        go_meet
        exact ⟨by first | rfl | (simp; omega), rfl⟩
  case rest =>
  obtain ⟨rfl, rfl⟩ := hcut
  clear hl hl'
  obtain ⟨R1, hR1⟩ : ∃ R1, R1 = l.drop k := ⟨_, rfl⟩
  have HR1 := Lib.hid hR1
  have hr1l : R1.length = l.length - k := by rw [hR1]; simp
  have ho := own_lit (w := wc.alloc (.cells #[] 31)) (base := wc.heap.size) (g := wc.heap.size) (l := []) (heap_alloc_new _ _) (Nat.le_refl _) (by decide)
  have hE := (HE1.out wc S2.out.e1).below ((Below.refl wc.heap.size wc).alloc (Nat.le_refl _) (.cells #[] 31)) (Nat.le_refl _)
  rw [← hR1] at hE
  have HRL := Lib.hid hr1l
  clear hR1 hr1l
  go_upto_region 7 with (at_builtin; refine wpList_append_len rfl _ _ rfl wc.heap.size _ [] R1 rfl ho p1 (l.length - k) (cap - k) rfl HRL.out hE (by rw [HRL.out]; simp; omega) (by simp) R1 (Lib.hid rfl) ?_; intro p3 k3 w3 ho3 hg3 hob3)
  have B3 := Lib.hid (below_one hg3 (Nat.le_refl _))
  have S3 := Lib.hid (S2.out.step B3.out)
  have ER3 := Lib.hid (own_evs ho3 (fun e he => S2.out.e1.okAll e (List.mem_of_mem_drop (HR1.out ▸ he))))
  have HT1 : Hid ((l.take k).length = k ∧ EvsAt w3 p2 (l.take k)) := Lib.hid ⟨by simp; omega, (HE2.out wc S2.out.e1).below B3.out (Nat.le_refl _)⟩
  have hlok1 : ∀ e ∈ [(⟨lw, lk, lu, ln⟩ : Ev)], EvOk e := fun e he => by simp at he; rw [he]; exact hlok
  obtain ⟨T1, hT1⟩ : ∃ T, T = l.take k := ⟨_, rfl⟩
  rw [← hT1] at HT1
  obtain ⟨T2, hT2⟩ : ∃ T, T = T1 ++ [(⟨lw, lk, lu, ln⟩ : Ev)] := ⟨_, rfl⟩
  obtain ⟨T3, hT3⟩ : ∃ T, T = T2 ++ R1 := ⟨_, rfl⟩
  have HT2 := Lib.hid hT2
  have HT3 := Lib.hid hT3
  have HT1e := Lib.hid hT1
  have HOK3 : Hid (∀ e ∈ T3, EvOk e) := by
    show ∀ e ∈ T3, EvOk e
    rw [hT3, hT2, hT1]
    exact ok_app (ok_app (fun e he => S2.out.e1.okAll e (List.mem_of_mem_take he)) hlok1) (fun e he => S2.out.e1.okAll e (List.mem_of_mem_drop (HR1.out ▸ he)))
  clear hT1 hT2 hT3 hob3 hg3 ho3 hE ho q0 q1 q2 q3 l0 l1 l2 l3
  have HLT : Hid (w3.heap[w.heap.size + 1]? = some (.cells #[.int .i64 lw, .int .i64 lk, .string lu, .string ln] 31 (0, 0))) := Lib.hid S3.out.lt
  have hA1 : ([] : List Ev).length + T1.length ≤ 1000 := by have := HT1.out.1; simp only [List.length_nil]; omega
  have hA2 : w3.heap.size ≤ (w3.alloc (.cells #[] 31)).drew.heap.size := by simp
  have hle1 : w3.heap.size ≤ (w3.alloc (.cells #[.int .i64 lw, .int .i64 lk, .string lu, .string ln] 31)).heap.size := by simp
  have hle2 : w3.heap.size ≤ (w3.alloc (.cells #[] 31)).heap.size := by simp
  have hA2b : w3.heap.size ≤ ((w3.alloc (.cells #[.int .i64 lw, .int .i64 lk, .string lu, .string ln] 31)).alloc (.cells #[] 31)).drew.heap.size := by simp; omega
  have hA2c : w3.heap.size ≤ ((w3.alloc (.cells #[] 31)).alloc (.cells #[.int .i64 lw, .int .i64 lk, .string lu, .string ln] 31)).drew.heap.size := by simp; omega
  have hEb : ((w3.alloc (.cells #[.int .i64 lw, .int .i64 lk, .string lu, .string ln] 31)).alloc (.cells #[] 31)).drew.heap[w3.heap.size + 1]? = some (.cells #[] 31 (0, 0)) := (show ((w3.alloc (.cells #[.int .i64 lw, .int .i64 lk, .string lu, .string ln] 31)).alloc (.cells #[] 31)).heap[w3.heap.size + 1]? = _ by have := heap_alloc_new (w3.alloc (.cells #[.int .i64 lw, .int .i64 lk, .string lu, .string ln] 31)) (.cells #[] 31); simpa using this)
  have hEc : ((w3.alloc (.cells #[] 31)).alloc (.cells #[.int .i64 lw, .int .i64 lk, .string lu, .string ln] 31)).drew.heap[w3.heap.size]? = some (.cells #[] 31 (0, 0)) := (Below.heap_alloc _ _ _ (by simp)).trans (heap_alloc_new w3 _)
  have HHb := Lib.hid hEb; have HHc := Lib.hid hEc
  clear hEb hEc
  have hA4 : T1.length + [(⟨lw, lk, lu, ln⟩ : Ev)].length ≤ 1000 := by have := HT1.out.1; simp only [List.length_cons, List.length_nil]; omega
  have hA6 : T2.length + R1.length ≤ 1000 := by rw [HT2.out]; have := HT1.out.1; have := HRL.out; simp only [List.length_append, List.length_cons, List.length_nil]; omega
  obtain ⟨l0, l1, l2, l3⟩ := q_cells HLT.out
  go_cut [15] (fun s15 wx => ∃ p6 k6, s15 = .slice p6 T3.length k6 ∧ Below w3.heap.size w3 wx ∧ EvsAt wx p6 T3)
  case first =>
    go_region_held3 (fun w' => w'.cell? ⟨w.heap.size + 1, 0, none⟩ = some (.int .i64 lw) ∧ w'.cell? ⟨w.heap.size + 1, 1, none⟩ = some (.int .i64 lk) ∧ w'.cell? ⟨w.heap.size + 1, 2, none⟩ = some (.string lu) ∧ w'.cell? ⟨w.heap.size + 1, 3, none⟩ = some (.string ln))
      (first | go_keep | exact ⟨o0, o1, o2, o3⟩ | exact ⟨n0, n1, n2, n3⟩ | exact ⟨m0, m1, m2, m3⟩ | exact ⟨l0, l1, l2, l3⟩)
      ((first
        | (have := HO5; refine step_append_evs (by rfl) _ _ (by rfl) w3.heap.size T2 R1 _ (by rfl) p3 R1.length k3 (by rfl) rfl hA6 T3 HT3 HO5.out (ER3.out.below B5.out (Nat.le_refl _)) B5.out.size ?_; intro p6 k6 w6 ho6 hg6; have B6 := Lib.hid (B5.out.trans (below_row hg6 (fun g hg => (HO5.out.block_ge g hg).1) B5.out.size)); obtain ⟨o0, o1, o2, o3⟩ := q_cells ((B6.out.block _ (lt_block HLT.out)).trans HLT.out); have HO6 := Lib.hid ho6; clear ho6 hg6)
        | (have := lateB; refine step_append_evs (by rfl) _ _ (by rfl) w3.heap.size T1 [⟨lw, lk, lu, ln⟩] _ (by rfl) (some ⟨w3.heap.size, 0, none⟩) 1 1 (by rfl) rfl hA4 T2 HT2 HO4.out (.inr ⟨_, _, rfl, row_lit (l := [⟨lw, lk, lu, ln⟩]) lateB.out hlok1⟩) B4.out.size ?_; intro p5 k5 w5 ho5 hg5; have B5 := Lib.hid (B4.out.trans (below_row hg5 (fun g hg => (HO4.out.block_ge g hg).1) B4.out.size)); obtain ⟨n0, n1, n2, n3⟩ := q_cells ((B5.out.block _ (lt_block HLT.out)).trans HLT.out); have HO5 := Lib.hid ho5; clear ho5 hg5)
        | (have := lateC; refine step_append_evs (by rfl) _ _ (by rfl) w3.heap.size T1 [⟨lw, lk, lu, ln⟩] _ (by rfl) (some ⟨w3.heap.size + 1, 0, none⟩) 1 1 (by rfl) rfl hA4 T2 HT2 HO4.out (.inr ⟨_, _, rfl, row_lit (l := [⟨lw, lk, lu, ln⟩]) lateC.out hlok1⟩) B4.out.size ?_; intro p5 k5 w5 ho5 hg5; have B5 := Lib.hid (B4.out.trans (below_row hg5 (fun g hg => (HO4.out.block_ge g hg).1) B4.out.size)); obtain ⟨n0, n1, n2, n3⟩ := q_cells ((B5.out.block _ (lt_block HLT.out)).trans HLT.out); have HO5 := Lib.hid ho5; clear ho5 hg5)
        | (have := tagA; refine step_append_evs (by rfl) _ _ (by rfl) w3.heap.size T1 [⟨lw, lk, lu, ln⟩] _ (by rfl) (some ⟨w4.heap.size, 0, none⟩) 1 1 (by rfl) rfl hA4 T2 HT2 (HO4.out.alloc _) (.inr ⟨_, _, rfl, row_lit (l := [⟨lw, lk, lu, ln⟩]) (heap_alloc_new w4 _) hlok1⟩) (by simpa using hA3) ?_; intro p5 k5 w5 ho5 hg5; have B5 := Lib.hid ((B4.out.alloc B4.out.size (.cells #[.int .i64 lw, .int .i64 lk, .string lu, .string ln] 31)).trans (below_row hg5 (fun g hg => (HO4.out.block_ge g hg).1) (by simpa using hA3))); obtain ⟨n0, n1, n2, n3⟩ := q_cells ((B5.out.block _ (lt_block HLT.out)).trans HLT.out); have HO5 := Lib.hid ho5; clear ho5 hg5)
        | (refine step_append_evs (by rfl) _ _ (by rfl) w3.heap.size [] T1 _ (by rfl) p2 k cap (by rfl) HT1.out.1 hA1 T1 (Lib.hid rfl) (own_empty (heap_alloc_new w3 _) (Nat.le_refl _)) (HT1.out.2.below ((Below.refl w3.heap.size w3).alloc (Nat.le_refl _) (.cells #[] 31)).drew (Nat.le_refl _)) hA2 ?_; intro p4 k4 w4 ho4 hg4; have B4 := Lib.hid (below_one2 hg4); have tagA : True := trivial; obtain ⟨m0, m1, m2, m3⟩ := q_cells ((B4.out.block _ (lt_block HLT.out)).trans HLT.out); have HO4 := Lib.hid ho4; have hA3 := Nat.le_succ_of_le B4.out.size; clear ho4 hg4)
        | (refine step_append_evs (by rfl) _ _ (by rfl) w3.heap.size [] T1 _ (by rfl) p2 k cap (by rfl) HT1.out.1 hA1 T1 (Lib.hid rfl) (own_empty HHb.out (Nat.le_succ _)) (HT1.out.2.below (((Below.refl w3.heap.size w3).alloc (Nat.le_refl _) (.cells #[.int .i64 lw, .int .i64 lk, .string lu, .string ln] 31)).alloc hle1 (.cells #[] 31)).drew (Nat.le_refl _)) hA2b ?_; intro p4 k4 w4 ho4 hg4; have B4 := Lib.hid (below_two2 hg4 (Nat.le_succ _)); have lateB := Lib.hid (late_b hg4); obtain ⟨m0, m1, m2, m3⟩ := q_cells ((B4.out.block _ (lt_block HLT.out)).trans HLT.out); have HO4 := Lib.hid ho4; have hA3 := Nat.le_succ_of_le B4.out.size; clear ho4 hg4)
        | (refine step_append_evs (by rfl) _ _ (by rfl) w3.heap.size [] T1 _ (by rfl) p2 k cap (by rfl) HT1.out.1 hA1 T1 (Lib.hid rfl) (own_empty HHc.out (Nat.le_refl _)) (HT1.out.2.below (((Below.refl w3.heap.size w3).alloc (Nat.le_refl _) (.cells #[] 31)).alloc hle2 (.cells #[.int .i64 lw, .int .i64 lk, .string lu, .string ln] 31)).drew (Nat.le_refl _)) hA2c ?_; intro p4 k4 w4 ho4 hg4; have B4 := Lib.hid (below_two2 hg4 (Nat.le_refl _)); have lateC := Lib.hid (late_c hg4); obtain ⟨m0, m1, m2, m3⟩ := q_cells ((B4.out.block _ (lt_block HLT.out)).trans HLT.out); have HO4 := Lib.hid ho4; have hA3 := Nat.le_succ_of_le B4.out.size; clear ho4 hg4)))
    all_goals
      go_wp2_with fail
      go_meet
      exact ⟨p6, k6, rfl, B6.out, own_evs HO6.out HOK3.out⟩
  case rest =>
  obtain ⟨p6, k6, rfl, b6, e6⟩ := hcut
  have SF := Lib.hid (S3.out.step b6)
  have HT3L : Hid (T3 = l.take k ++ ⟨lw, lk, lu, ln⟩ :: l.drop k) := by
    show T3 = _
    rw [HT3.out, HT2.out, HT1e.out, HR1.out, List.append_assoc]; rfl
  have HT3len : T3.length ≤ 1000 := by rw [HT3.out, List.length_append, HT2.out, List.length_append]; have := HT1.out.1; have := HRL.out; simp only [List.length_cons, List.length_nil]; omega
  have E6 := Lib.hid e6
  clear b6 e6 l0 l1 l2 l3 S3 HLT ER3 B3 hA1 hA2 hA2b hA2c hA4 hA6 hle1 hle2 HHb HHc
  obtain ⟨q0, q1, q2, q3⟩ := q_cells SF.out.q
  go_wp2_with fail
  have D1 := decide_any ⟨qn, qv, qt, qf⟩ held now l p cap _ SF.out.e1 (by omega)
  rw [HD.out] at D1
  refine D1.mono ?_
  rintro e w8 ⟨rfl, b⟩
  have S8 := Lib.hid (SF.out.step b)
  have E8 := Lib.hid (E6.out.below b (Nat.le_refl _))
  clear D1 b SF E6 q0 q1 q2 q3
  obtain ⟨q0, q1, q2, q3⟩ := q_cells S8.out.q
  go_wp2_with fail
  have D2 := decide_any ⟨qn, qv, qt, qf⟩ held now T3 p6 k6 _ E8.out HT3len
  rw [show decide' ⟨qn, qv, qt, qf⟩ held T3 now = (o, at_) by rw [HT3L.out]; exact HSAME.out] at D2
  refine D2.mono ?_
  rintro e w9 ⟨rfl, b⟩
  have S9 := Lib.hid (S8.out.step b)
  clear D2 b
  go_wp2
  go_ret
  exact ⟨rfl, S9.out.b⟩
end Go.Proofs.Ytbcldkbacdnpiaa
