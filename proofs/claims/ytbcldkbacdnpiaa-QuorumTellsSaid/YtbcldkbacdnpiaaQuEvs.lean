/- Slices of events: appended to, of the call's own; room, few, ascending. -/
import Derived.Test.YtbcldkbacdnpiaaQuDecide
import Derived.Test.YtbcldkbacdnpiaaOwnStep
namespace Go.Proofs.Ytbcldkbacdnpiaa
open Go.RowKit Go.Maps Go.WideShapes Qu
def evc (e : Ev) : List Value := [.int .i64 e.when, .int .i64 e.kind, .string e.user, .string e.name]
def evcs (l : List Ev) : List Value := l.flatMap evc
theorem evcs_len (l : List Ev) : (evcs l).length = l.length * 4 := by
  induction l with
  | nil => rfl
  | cons e l ih => simp only [evcs, List.flatMap_cons, List.length_append, List.length_cons] at ih ⊢; simp only [ih, evc, List.length_cons, List.length_nil]; omega
theorem evcs_at (l : List Ev) (i : Nat) (h : i < l.length) (j : Nat) (hj : j < 4) : (evcs l)[i * 4 + j]? = (evc l[i])[j]? := by
  induction l generalizing i with
  | nil => simp at h
  | cons e l ih =>
    have e1 : evcs (e :: l) = evc e ++ evcs l := rfl
    rw [e1]
    cases i with
    | zero => rw [List.getElem?_append_left (by simp [evc]; omega)]; simp
    | succ i =>
      rw [List.getElem?_append_right (by simp [evc]; omega)]
      have := ih i (by simpa using h)
      simp only [evc, List.length_cons, List.length_nil, Nat.zero_add, Nat.reduceAdd]
      rw [show (i + 1) * 4 + j - 4 = i * 4 + j by omega, this]
      rfl
theorem evs_row {w : World} {b : Nat} {l : List Ev} (h : ∀ j, j < l.length * 4 → w.cell? ⟨b, j, none⟩ = (evcs l)[j]?) (hok : ∀ e ∈ l, EvOk e) : EvsRow w b 0 l := by
  refine ⟨fun i hi => ?_, fun i hi => ?_, fun i hi => ?_, fun i hi => ?_, hok⟩
  · rw [Nat.zero_add, h _ (by omega), show i * 4 = i * 4 + 0 from rfl, evcs_at l i hi 0 (by omega)]; rfl
  · rw [Nat.zero_add, h _ (by omega), evcs_at l i hi 1 (by omega)]; rfl
  · rw [Nat.zero_add, h _ (by omega), evcs_at l i hi 2 (by omega)]; rfl
  · rw [Nat.zero_add, h _ (by omega), evcs_at l i hi 3 (by omega)]; rfl
theorem own_evs {w : World} {base : Nat} {p : Option Addr} {cap : Nat} {l : List Ev} (h : Own w base 31 4 (.slice p l.length cap) l.length (evcs l)) (hok : ∀ e ∈ l, EvOk e) : EvsAt w p l := by
  by_cases h0 : 0 < l.length
  · obtain ⟨g, cap', e, _, _, _, _, hc⟩ := h.shape h0
    simp only [Value.slice.injEq, true_and] at e
    exact .inr ⟨g, 0, e.1, evs_row hc hok⟩
  · exact .inl (List.length_eq_zero_iff.1 (by omega))
/-- what the cells of a block are that was built of events -/
theorem own_lit {w : World} {base g : Nat} {l : List Ev} (hg : w.heap[g]? = some (.cells (evcs l).toArray 31 (0, 0))) (hb : base ≤ g) (hl : l.length ≤ 1000) :
    Own w base 31 4 (.slice (some ⟨g, 0, none⟩) l.length l.length) l.length (evcs l) := by
  refine ⟨evcs_len l, .inr ⟨g, l.length, _, _, rfl, hb, hg, .inl (Nat.zero_le _), Nat.le_refl _, by unfold maxLen; omega, by simp [evcs_len], ?_⟩⟩
  rw [List.toList_toArray, List.take_of_length_le (by rw [evcs_len]; exact Nat.le_refl _)]
theorem info_ev : (Try.prog.info? 31).map (fun i => (i.zero, i.size, i.bytes)) = some (some (.agg #[.int .i64 0, .int .i64 0, .string ⟨#[]⟩, .string ⟨#[]⟩]), 4, 48) := by kernel_rfl
theorem evc_one (l : List Ev) : ∀ u ∈ evcs l, u.oneCell' = true := by
  intro u hu
  unfold evcs at hu
  rw [List.mem_flatMap] at hu
  obtain ⟨e, _, he⟩ := hu
  simp only [evc, List.mem_cons, List.not_mem_nil, or_false] at he
  rcases he with rfl | rfl | rfl | rfl <;> rfl
theorem evcs_append (l l' : List Ev) : evcs (l ++ l') = evcs l ++ evcs l' := by simp [evcs]
theorem evs_news {w : World} {b oo : Nat} {l2 : List Ev} (hrow : EvsRow w b oo l2) : ∀ j u, (evcs l2)[j]? = some u → w.cell? ((⟨b, oo, none⟩ : Addr).add j) = some u := by
  intro j u hu
  rw [add_plain]
  have hj : j < l2.length * 4 := by
    have := (List.getElem?_eq_some_iff.1 hu).1
    rw [evcs_len] at this; exact this
  obtain ⟨i, r, hr, rfl⟩ : ∃ i r, r < 4 ∧ j = i * 4 + r := ⟨j / 4, j % 4, Nat.mod_lt _ (by decide), by omega⟩
  have hi' : i < l2.length := by omega
  rw [evcs_at l2 i hi' r hr] at hu
  match r, hr with
  | 0, _ => rw [Nat.add_zero, hrow.when i hi']; exact hu
  | 1, _ => rw [← Nat.add_assoc, hrow.kind i hi']; exact hu
  | 2, _ => rw [← Nat.add_assoc, hrow.user i hi']; exact hu
  | 3, _ => rw [← Nat.add_assoc, hrow.name i hi']; exact hu
/-- 'append(s, x...)', s the call's own (or nil), both of events -/
theorem wpList_append_evs {w : World} {ops : Array Oper} {rest : List Oper} {o : Oper} {a : Act} {Q : Exit → Act → World → Prop} (hgd : o.guard = none) (s x : Operand)
    (ho : o.op = .call { callee := .builtin .append, args := #[s, x], argTypes := #[24, 24] })
    (base : Nat) (v : Value) (l l2 : List Ev) (hs : a.eval s = v) (hown : Own w base 31 4 v l.length (evcs l))
    (b oo c : Nat) (hx : a.eval x = .slice (some ⟨b, oo, none⟩) l2.length c) (hrow : EvsRow w b oo l2) (h63 : l.length + l2.length ≤ 1000) (hbase : base ≤ w.heap.size) (L : List Ev) (hL : Hid (L = l ++ l2))
    (h : ∀ p cap w', Own w' base 31 4 (.slice p L.length cap) L.length (evcs L) → w.grownBy w' v.ownBlock → (Value.ownBlock (.slice p L.length cap) = v.ownBlock ∨ ∃ g, Value.ownBlock (.slice p L.length cap) = some g ∧ w.heap.size ≤ g) →
      wpList Try.prog ops Q rest (a.put o.dst (.slice p L.length cap)) w') : wpList Try.prog ops Q (o :: rest) a w := by
  obtain ⟨i0, hi, hz0, hz1, hz2⟩ := info_parts info_ev
  have hnews := evs_news hrow
  refine wpList_append_x hgd s x _ ho base 31 i0 _ 4 48 Try.underlying24 hi hz0 hz1 hz2 rfl (by decide) v l.length (evcs l) hs hown ⟨b, oo, none⟩ l2.length c (evcs l2) hx (evcs_len l2) hnews (evc_one l2) (by unfold maxLen; omega) (by omega) hbase ?_
  intro v' w' h2 h3 h4 h5
  rw [← evcs_append, ← List.length_append, ← hL.out] at h2
  obtain ⟨p, cap, rfl, _⟩ := h2.shape'
  exact h p cap w' h2 h3 h5
def mk (t k : Int) (u n : List UInt8) : Ev := ⟨t, k, ⟨u.toArray⟩, ⟨n.toArray⟩⟩
def roomL : List Ev := [mk 0 0 [97] [], mk 0 0 [98] [], mk 0 0 [99] []]
theorem room_any (w : World) : Calls Try.prog 25 #[] w fun x w' => x = .returned (.slice (some ⟨w.heap.size, 0, none⟩) 3 3) ∧ w' = w.alloc (.cells (evcs roomL).toArray 31) := by
  go_enter Try.func25, Try.ntmps25
  go_wp2
  go_ret
  exact ⟨rfl, rfl⟩
theorem few_yes (p : Option Addr) (n cap : Nat) (w : World) (hn : n ≤ 30) : Calls Try.prog 10 #[.slice p n cap] w fun x w' => x = .returned (.bool true) ∧ w = w' := by
  have hd : decide ((n : Int) ≤ 30) = true := by simpa using (show (n : Int) ≤ 30 by omega)
  go_enter Try.func10, Try.ntmps10
  go_wp2
  go_ret
  exact ⟨rfl, rfl⟩
theorem few_no (p : Option Addr) (n cap : Nat) (w : World) (hm : n ≤ maxLen) (hn : 30 < n) : Calls Try.prog 10 #[.slice p n cap] w fun x w' => x = .returned (.bool false) ∧ w = w' := by
  unfold maxLen at hm
  have hd : decide ((n : Int) ≤ 30) = false := by simpa using (show (30 : Int) < n by omega)
  go_enter Try.func10, Try.ntmps10
  go_wp2
  go_ret
  exact ⟨rfl, rfl⟩
def ascB : List Ev → Bool
  | a :: b :: l => decide (a.when ≤ b.when) && ascB (b :: l)
  | _ => true
theorem asc_of : ∀ {l : List Ev}, ascB l = true → Asc l
  | [], _ => List.Pairwise.nil
  | [_], _ => List.pairwise_singleton _ _
  | a :: b :: l, h => by
    simp only [ascB, Bool.and_eq_true, decide_eq_true_eq] at h
    have ih := asc_of h.2
    refine List.pairwise_cons.2 ⟨fun e he => ?_, ih⟩
    rcases List.mem_cons.1 he with rfl | he'
    · exact h.1
    · exact Int.le_trans h.1 ((List.pairwise_cons.1 ih).1 e he')
theorem ascB_end {l : List Ev} (h : l.length ≤ 1) : ascB l = true := by
  match l, h with
  | [], _ => rfl
  | [_], _ => rfl
theorem drop_two {l : List Ev} {k : Nat} (h : k + 1 < l.length) : l.drop k = l[k] :: l[k + 1] :: l.drop (k + 2) := by
  rw [List.drop_eq_getElem_cons (by omega), List.drop_eq_getElem_cons h]
set_option maxHeartbeats 1000000 in
theorem ascending_any (l : List Ev) (p : Option Addr) (cap : Nat) (w : World) (hl : EvsAt w p l) (hlen : l.length ≤ 1000) :
    Calls Try.prog 13 #[.slice p l.length cap] w fun x w' => x = .returned (.bool (ascB l)) ∧ ∃ n, w' = w.drewN n := by
  have HL := Lib.hid hl
  obtain ⟨v, hv⟩ : ∃ v, ascB l = v := ⟨_, rfl⟩
  rw [hv]
  have HV := Lib.hid hv
  clear hl hv
  go_enter Try.func13, Try.ntmps13
  go_wp2
  go_loopw [3] (fun i wr => ∃ k : Nat, k ≤ l.length ∧ i = .int .i64 ((k : Int) + 1) ∧ Hid (v = ascB (l.drop k)) ∧ ∃ n, wr = w.drewN n) (fun i _ => l.length + 1 - (intOf i).toNat)
  case atStart => exact ⟨0, Nat.zero_le _, rfl, HV.out.symm, 0, rfl⟩
  case round =>
    obtain ⟨k, hk, rfl, hk2, n, rfl⟩ := hrel
    by_cases hlt : k + 1 < l.length
    · obtain ⟨ab, ao, rfl, hrow⟩ : ∃ b o, p = some ⟨b, o, none⟩ ∧ EvsRow w b o l := HL.out.resolve_left (fun e => by simp [e] at hlt)
      have c0 := hrow.when k (by omega)
      have c1 := hrow.when (k + 1) (by omega)
      have a0 : (⟨ab, ao, none⟩ : Addr).add (k * 4) = ⟨ab, ao + k * 4, none⟩ := add_plain _ _ _
      have a1 : (⟨ab, ao, none⟩ : Addr).add ((k + 1) * 4) = ⟨ab, ao + (k + 1) * 4, none⟩ := add_plain _ _ _
      have t1 : ((k : Int) + 1).toNat = k + 1 := by omega
      have hx := hk2.out
      rw [drop_two hlt] at hx
      simp only [ascB] at hx
      rw [show l[k + 1] :: l.drop (k + 2) = l.drop (k + 1) from (List.drop_eq_getElem_cons hlt).symm] at hx
      obtain ⟨x, hxx⟩ : ∃ x, l[k].when = x := ⟨_, rfl⟩
      obtain ⟨y, hyy⟩ : ∃ y, l[k + 1].when = y := ⟨_, rfl⟩
      rw [hxx, hyy] at hx
      rw [hxx] at c0
      rw [hyy] at c1
      clear hxx hyy hk2 hrow
      by_cases hc : x ≤ y
      · rw [decide_eq_true hc, Bool.true_and] at hx
        have HX := Lib.hid hx
        clear hx
        go_wp2
        go_region
        all_goals
          go_wp2
          go_roundw
          case rel => exact ⟨k + 1, by omega, by go_num, HX.out, n + 1, rfl⟩
          case measure => simp [intOf]; omega
      · rw [decide_eq_false hc, Bool.false_and] at hx
        subst hx
        go_wp2
        go_region
        all_goals
          go_wp2
          go_ret
          exact ⟨rfl, n + 1, rfl⟩
    · have : v = true := by rw [hk2.out]; exact ascB_end (by simp; omega)
      subst this
      clear hk2
      go_wp2
      go_ret
      exact ⟨rfl, n, rfl⟩
end Go.Proofs.Ytbcldkbacdnpiaa
