/- Slices of strings: parts of them, and appends. -/
import Derived.Test.YtbcldkbacdnpiaaQuRef3
namespace Go.Proofs.Ytbcldkbacdnpiaa
open Go.RowKit Go.Maps Go.WideShapes Qu
theorem StrAt.drop {w : World} {p : Option Addr} {l : List ByteArray} (h : StrAt w p l) (k : Nat) (cap : Nat) (hcap : l.length ≤ cap) : StrAt w (if cap = k then p else p.map (·.add (k * 1))) (l.drop k) := by
  by_cases hd : l.drop k = []
  · exact .inl hd
  · have hlt : k < l.length := by
      rcases Nat.lt_or_ge k l.length with h | h
      · exact h
      · exact absurd (List.drop_eq_nil_of_le h) hd
    rcases h with h | ⟨b, o, rfl, hr⟩
    · subst h; simp at hd
    · rw [if_neg (by omega)]
      refine .inr ⟨b, o + k, by simp [add_plain], ⟨fun i hi => ?_⟩⟩
      have hi' : k + i < l.length := by simp at hi; omega
      rw [List.getElem_drop, show o + k + i = o + (k + i) by omega]
      exact hr.cell _ hi'
theorem StrAt.take {w : World} {p : Option Addr} {l : List ByteArray} (h : StrAt w p l) (k : Nat) (cap : Nat) : StrAt w (if cap = 0 then p else p.map (·.add (0 * 1))) (l.take k) := by
  rcases h with rfl | ⟨b, o, rfl, hr⟩
  · exact .inl (by simp)
  · refine .inr ⟨b, o, ?_, ⟨fun i hi => ?_⟩⟩
    · split <;> simp [add_plain]
    · have hi' : i < l.length := by simp at hi; omega
      rw [List.getElem_take]
      exact hr.cell _ hi'
/-- 's[k:]' -/
theorem run_from_s (p : Option Addr) (n cap k : Nat) (hk : k ≤ n) (w : World) :
    (Instr.slice 34 (.slice p n cap) (some (.int .i64 k)) none none).run Try.prog w = .ok (.slice (if cap = k then p else p.map (·.add (k * 1))) (n - k) (cap - k)) w := by
  rw [run_slice_l w 34 p n cap Try.underlying34 .i64 k (by omega) (by omega)]
  obtain ⟨i0, hi, hz0, hz1, hz2⟩ := info_parts info_str
  have he : Try.prog.elem 34 = 9 := by kernel_rfl
  simp [he, sizeOf, typeInfo, hi, hz1, Result.andThen, sliced]
/-- 's[:k]' -/
theorem run_upto_s (p : Option Addr) (n cap k : Nat) (hk : k ≤ cap) (w : World) :
    (Instr.slice 34 (.slice p n cap) none (some (.int .i64 k)) none).run Try.prog w = .ok (.slice (if cap = 0 then p else p.map (·.add (0 * 1))) k cap) w := by
  rw [run_slice_h w 34 p n cap Try.underlying34 .i64 k (by omega) (by omega)]
  obtain ⟨i0, hi, hz0, hz1, hz2⟩ := info_parts info_str
  have he : Try.prog.elem 34 = 9 := by kernel_rfl
  simp [he, sizeOf, typeInfo, hi, hz1, Result.andThen, sliced]
theorem str_news {w : World} {b oo : Nat} {l2 : List ByteArray} (hrow : StrRow w b oo l2) : ∀ j u, (l2.map Value.string)[j]? = some u → w.cell? ((⟨b, oo, none⟩ : Addr).add j) = some u := by
  intro j u hu
  rw [add_plain]
  have hj : j < l2.length := by
    have := (List.getElem?_eq_some_iff.1 hu).1
    simpa using this
  rw [List.getElem?_map, List.getElem?_eq_getElem hj] at hu
  simp only [Option.map_some, Option.some.injEq] at hu
  rw [← hu]
  exact hrow.cell j hj
theorem str_one (l : List ByteArray) : ∀ u ∈ l.map Value.string, u.oneCell' = true := by
  intro u hu
  obtain ⟨x, _, rfl⟩ := List.mem_map.1 hu
  rfl
/-- what an append of strings computes -/
theorem run_append_strs (w : World) (o : TypeId) (base : Nat) (v : Value) (l l2 : List ByteArray) (hown : Own w base 9 1 v l.length (l.map Value.string)) (p2 : Option Addr) (m c : Nat) (hm : l2.length = m) (hrow : StrAt w p2 l2) (h63 : l.length + l2.length ≤ 1000) (hbase : base ≤ w.heap.size) (L : List ByteArray) (hL : Hid (L = l ++ l2)) :
    ∃ p cap w', (Builtin.append_ #[34, 34] o #[v, .slice p2 m c]).run Try.prog w = .ok (.slice p L.length cap) w' ∧ Own w' base 9 1 (.slice p L.length cap) L.length (L.map Value.string) ∧ w.grownBy w' v.ownBlock ∧ (Value.ownBlock (.slice p L.length cap) = v.ownBlock ∨ ∃ g, Value.ownBlock (.slice p L.length cap) = some g ∧ w.heap.size ≤ g) := by
  obtain ⟨i0, hi, hz0, hz1, hz2⟩ := info_parts info_str
  subst hm
  rcases hrow with h0 | ⟨b, oo, hp, hrow⟩
  · subst h0
    have hLl : L = l := by rw [hL.out, List.append_nil]
    subst hLl
    obtain ⟨p, cap, rfl, hc, hm⟩ := hown.shape'
    cases p2 with
    | none => exact ⟨p, cap, w, run_append_none _ o _ i0 Try.underlying34 hi p L.length cap c hc, hown, ⟨rfl, rfl, rfl, Nat.le_refl _, fun _ _ _ => rfl⟩, .inl rfl⟩
    | some ad =>
      obtain ⟨v', w', hr, h2, h3, h4, h5⟩ := run_append_x (P := Try.prog) w base 34 o 9 i0 _ 1 16 Try.underlying34 hi hz0 hz1 hz2 rfl (by decide) _ L.length _ hown ad 0 c [] rfl (fun j u hu => by simp at hu) (fun u hu => by cases hu) (by unfold maxLen; omega) (by omega) hbase
      rw [List.append_nil, Nat.add_zero] at h2
      obtain ⟨p', cap', rfl, _⟩ := h2.shape'
      exact ⟨p', cap', w', hr, h2, h3, h5⟩
  · subst hp
    obtain ⟨v', w', hr, h2, h3, h4, h5⟩ := run_append_x (P := Try.prog) w base 34 o 9 i0 _ 1 16 Try.underlying34 hi hz0 hz1 hz2 rfl (by decide) v l.length _ hown ⟨b, oo, none⟩ l2.length c (l2.map Value.string) (by simp) (str_news hrow) (str_one l2) (by unfold maxLen; omega) (by omega) hbase
    rw [← List.map_append, ← List.length_append, ← hL.out] at h2
    obtain ⟨p, cap, rfl, _⟩ := h2.shape'
    exact ⟨p, cap, w', hr, h2, h3, h5⟩
theorem wpList_append_strs {w : World} {ops : Array Oper} {rest : List Oper} {o : Oper} {a : Act} {Q : Exit → Act → World → Prop} (hgd : o.guard = none) (s x : Operand)
    (ho : o.op = .call { callee := .builtin .append, args := #[s, x], argTypes := #[34, 34] })
    (base : Nat) (v : Value) (l l2 : List ByteArray) (hs : a.eval s = v) (hown : Own w base 9 1 v l.length (l.map Value.string))
    (p2 : Option Addr) (m c : Nat) (hx : a.eval x = .slice p2 m c) (hm : l2.length = m) (hrow : StrAt w p2 l2) (h63 : l.length + l2.length ≤ 1000) (hbase : base ≤ w.heap.size) (L : List ByteArray) (hL : Hid (L = l ++ l2))
    (h : ∀ p cap w', Own w' base 9 1 (.slice p L.length cap) L.length (L.map Value.string) → w.grownBy w' v.ownBlock →
      wpList Try.prog ops Q rest (a.put o.dst (.slice p L.length cap)) w') : wpList Try.prog ops Q (o :: rest) a w := by
  obtain ⟨p, cap, w', hr, h2, h3, _⟩ := run_append_strs w o.type base v l l2 hown p2 m c hm hrow h63 hbase L hL
  refine wpList_plain hgd fun K hK => ?_
  unfold Oper.wp execOp
  simp only [ho, resolve, invoke, builtin, Sem.run_bind, Sem.run_pure, Result.andThen_ok, List.map_toArray, List.map_cons, List.map_nil, hs, hx, hr]
  exact hK _ _ (h p cap w' h2 h3)
theorem step_append_strs {w : World} {ops : Array Oper} {o : Oper} {a : Act} {K : Act → World → Prop} {Q : Exit → Act → World → Prop} {E : Prop} (hgd : o.guard = none) (s x : Operand)
    (ho : o.op = .call { callee := .builtin .append, args := #[s, x], argTypes := #[34, 34] })
    (base : Nat) (l l2 : List ByteArray) (v : Value) (hs : a.eval s = v) (p2 : Option Addr) (m c : Nat) (hx : a.eval x = .slice p2 m c) (hm : l2.length = m) (h63 : l.length + l2.length ≤ 1000) (L : List ByteArray) (hL : Hid (L = l ++ l2))
    (hown : Own w base 9 1 v l.length (l.map Value.string)) (hrow : StrAt w p2 l2) (hbase : base ≤ w.heap.size)
    (h : ∀ p cap w', Own w' base 9 1 (.slice p L.length cap) L.length (L.map Value.string) → w.grownBy w' v.ownBlock → K (a.put o.dst (.slice p L.length cap)) w') :
    if Region.wanted o (yielded ops a.tmps) = true then Oper.wp Try.prog o a w K Q else E := by
  have hw : Region.wanted o (yielded ops a.tmps) = true := by simp [Region.wanted, hgd]
  rw [if_pos hw]
  obtain ⟨p, cap, w', hr, h2, h3, _⟩ := run_append_strs w o.type base v l l2 hown p2 m c hm hrow h63 hbase L hL
  unfold Oper.wp execOp
  simp only [ho, resolve, invoke, builtin, Sem.run_bind, Sem.run_pure, Result.andThen_ok, List.map_toArray, List.map_cons, List.map_nil, hs, hx, hr]
  exact h p cap w' h2 h3
theorem own_empty_s {w : World} {base g : Nat} (hg : w.heap[g]? = some (.cells #[] 9 (0, 0))) (hb : base ≤ g) : Own w base 9 1 (.slice (some ⟨g, 0, none⟩) 0 0) ([] : List ByteArray).length (([] : List ByteArray).map Value.string) :=
  ⟨rfl, .inr ⟨g, 0, _, _, rfl, hb, hg, .inl (Nat.zero_le _), Nat.le_refl _, by unfold maxLen; omega, rfl, rfl⟩⟩
theorem str_lit {w : World} {g : Nat} {u : ByteArray} (hg : w.heap[g]? = some (.cells #[.string u] 9 (0, 0))) : StrRow w g 0 [u] :=
  ⟨fun i hi => by
    obtain rfl : i = 0 := by simp at hi; omega
    rw [cell_of_row w g _ _ _ _ hg]; rfl⟩
theorem own_str_at {w : World} {base : Nat} {p : Option Addr} {n cap : Nat} {l : List ByteArray} (h : Own w base 9 1 (.slice p n cap) l.length (l.map Value.string)) : StrAt w p l := by
  obtain ⟨p', c', e, hs⟩ := own_strs h
  simp only [Value.slice.injEq] at e
  rw [e.1]; exact hs
end Go.Proofs.Ytbcldkbacdnpiaa
