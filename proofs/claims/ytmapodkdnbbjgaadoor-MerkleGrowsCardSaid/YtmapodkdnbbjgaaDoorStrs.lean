/- Slices of strings: how they read, parts of them, appends to one that the call owns. -/
import Derived.Test.YtmapodkdnbbjgaaDoorOwn
import Derived.Test.YtmapodkdnbbjgaaDoorProg
import Derived.Maps.AppendAt
import Derived.Laws.AppendOwnNone
import Derived.Laws.OwnMore
import Derived.OwnWalk
import Derived.WalkSpells
import Derived.WalkLawsBesides
import Derived.Lib.Hide
namespace Go.Proofs.YtmapodkdnbbjgaaDoor
open Go.RowKit
namespace Sl
theorem str_info : (Tryd.prog.info? 9).map (fun i => (i.zero, i.size, i.bytes)) = some (some (.string ⟨#[]⟩), 1, 16) := by kernel_rfl
theorem add_flat (b o j : Nat) : (⟨b, o, none⟩ : Addr).add j = ⟨b, o + j, none⟩ := by unfold Addr.add; split <;> simp_all
theorem cell_in {w : World} {a : Addr} {x : Value} (h : w.cell? a = some x) : a.block < w.heap.size := by
  rcases Nat.lt_or_ge a.block w.heap.size with h' | h'
  · exact h'
  · have e : w.heap[a.block]? = none := Array.getElem?_eq_none h'
    simp [World.cell?, e] at h
/-- the strings at an address: an empty list lies anywhere -/
def At (w : World) (p : Option Addr) (l : List ByteArray) : Prop := l = [] ∨ ∃ b o, p = some ⟨b, o, none⟩ ∧ ∀ i, i < l.length → w.cell? ⟨b, o + i, none⟩ = some (.string (l.getD i ⟨#[]⟩))
theorem At.cong {w w' : World} {p : Option Addr} {l : List ByteArray} (h : At w p l) (hk : ∀ b, b < w.heap.size → w'.heap[b]? = w.heap[b]?) : At w' p l := by
  rcases h with h | ⟨b, o, h1, h2⟩
  · exact .inl h
  · by_cases hl : 0 < l.length
    · refine .inr ⟨b, o, h1, fun i hi => (World.cell?_of_block (w := w) (a := ⟨b, o + i, none⟩) (hk b ?_)).trans (h2 i hi)⟩
      exact cell_in (a := ⟨b, o + 0, none⟩) (h2 0 hl)
    · exact .inl (List.length_eq_zero_iff.1 (by omega))
theorem At.below {w w' : World} {B : Nat} {p : Option Addr} {l : List ByteArray} (h : At w p l) (hb : Below B w w') (hB : w.heap.size ≤ B) : At w' p l :=
  h.cong fun b hl => hb.block b (Nat.lt_of_lt_of_le hl hB)
/-- a slice of strings -/
def SV (w : World) (v : Value) (l : List ByteArray) : Prop := ∃ p cap, v = .slice p l.length cap ∧ l.length ≤ cap ∧ cap ≤ maxLen ∧ At w p l
theorem SV.below {w w' : World} {B : Nat} {v : Value} {l : List ByteArray} (h : SV w v l) (hb : Below B w w') (hB : w.heap.size ≤ B) : SV w' v l := by
  obtain ⟨p, cap, h1, h2, h3, h4⟩ := h
  exact ⟨p, cap, h1, h2, h3, h4.below hb hB⟩
theorem SV.drewN {w : World} {v : Value} {l : List ByteArray} (h : SV w v l) (k : Nat) : SV (w.drewN k) v l := h
theorem SV.nil (w : World) : SV w (.slice none 0 0) [] := ⟨none, 0, rfl, Nat.le_refl _, Nat.zero_le _, .inl rfl⟩
theorem At.drop {w : World} {p : Option Addr} {l : List ByteArray} (h : At w p l) (k cap : Nat) (hcap : l.length ≤ cap) : At w (if cap = k then p else p.map (·.add (k * 1))) (l.drop k) := by
  by_cases hd : l.drop k = []
  · exact .inl hd
  · have hlt : k < l.length := by
      rcases Nat.lt_or_ge k l.length with h | h
      · exact h
      · exact absurd (List.drop_eq_nil_of_le h) hd
    rcases h with h | ⟨b, o, rfl, hr⟩
    · subst h; simp at hd
    · rw [if_neg (by omega)]
      refine .inr ⟨b, o + k, by simp [add_flat], fun i hi => ?_⟩
      have hi' : k + i < l.length := by simp at hi; omega
      rw [show o + k + i = o + (k + i) by omega, hr _ hi']
      simp [List.getD_eq_getElem?_getD]
theorem At.take {w : World} {p : Option Addr} {l : List ByteArray} (h : At w p l) (k cap : Nat) : At w (if cap = 0 then p else p.map (·.add (0 * 1))) (l.take k) := by
  rcases h with rfl | ⟨b, o, rfl, hr⟩
  · exact .inl (by simp)
  · refine .inr ⟨b, o, ?_, fun i hi => ?_⟩
    · split <;> simp [add_flat]
    · have hi' : i < l.length := by simp at hi; omega
      have hi2 : i < k := by simp at hi; omega
      rw [hr i hi']
      simp [List.getD_eq_getElem?_getD, hi2]
/-- 's[k:]' -/
theorem run_from (p : Option Addr) (n cap k : Nat) (hk : k ≤ n) (w : World) :
    (Instr.slice 22 (.slice p n cap) (some (.int .i64 k)) none none).run Tryd.prog w = .ok (.slice (if cap = k then p else p.map (·.add (k * 1))) (n - k) (cap - k)) w := by
  rw [run_slice_l w 22 p n cap Tryd.underlying22 .i64 k (by omega) (by omega)]
  obtain ⟨i0, hi, hz0, hz1, hz2⟩ := info_parts str_info
  have he : Tryd.prog.elem 22 = 9 := by kernel_rfl
  simp [he, sizeOf, typeInfo, hi, hz1, Result.andThen, sliced]
/-- 's[:k]' -/
theorem run_upto (p : Option Addr) (n cap k : Nat) (hk : k ≤ cap) (w : World) :
    (Instr.slice 22 (.slice p n cap) none (some (.int .i64 k)) none).run Tryd.prog w = .ok (.slice (if cap = 0 then p else p.map (·.add (0 * 1))) k cap) w := by
  rw [run_slice_h w 22 p n cap Tryd.underlying22 .i64 k (by omega) (by omega)]
  obtain ⟨i0, hi, hz0, hz1, hz2⟩ := info_parts str_info
  have he : Tryd.prog.elem 22 = 9 := by kernel_rfl
  simp [he, sizeOf, typeInfo, hi, hz1, Result.andThen, sliced]
/-- the two parts of a slice, as letters -/
theorem SV.upto {w : World} {p : Option Addr} {n cap : Nat} {l : List ByteArray} (h : SV w (.slice p n cap) l) (k : Nat) (hk : k ≤ n) :
    ∃ p1 c1, (∀ w', (Instr.slice 22 (.slice p n cap) none (some (.int .i64 k)) none).run Tryd.prog w' = .ok (.slice p1 k c1) w') ∧ SV w (.slice p1 k c1) (l.take k) := by
  obtain ⟨p', cap', h1, h2, h3, h4⟩ := h
  simp only [Value.slice.injEq] at h1
  obtain ⟨rfl, rfl, rfl⟩ := h1
  refine ⟨_, _, fun w' => run_upto p l.length cap k (by omega) w', _, cap, ?_, ?_, h3, h4.take k cap⟩
  · rw [List.length_take, Nat.min_eq_left hk]
  · rw [List.length_take]; omega
theorem SV.from {w : World} {p : Option Addr} {n cap : Nat} {l : List ByteArray} (h : SV w (.slice p n cap) l) (k : Nat) (hk : k ≤ n) :
    ∃ p1 c1, (∀ w', (Instr.slice 22 (.slice p n cap) (some (.int .i64 k)) none none).run Tryd.prog w' = .ok (.slice p1 (n - k) c1) w') ∧ SV w (.slice p1 (n - k) c1) (l.drop k) := by
  obtain ⟨p', cap', h1, h2, h3, h4⟩ := h
  simp only [Value.slice.injEq] at h1
  obtain ⟨rfl, rfl, rfl⟩ := h1
  refine ⟨_, _, fun w' => run_from p l.length cap k hk w', _, cap - k, ?_, ?_, ?_, h4.drop k cap h2⟩
  · rw [List.length_drop]
  · rw [List.length_drop]; omega
  · unfold maxLen at *; omega
/-- its cells, where it is not empty -/
theorem SV.row {w : World} {v : Value} {l : List ByteArray} (h : SV w v l) (hl : 0 < l.length) : ∃ g o cap, v = .slice (some ⟨g, o, none⟩) l.length cap ∧ g < w.heap.size ∧ l.length ≤ cap ∧ cap ≤ maxLen ∧ ∀ i, i < l.length → w.cell? ⟨g, o + i, none⟩ = some (.string (l.getD i ⟨#[]⟩)) := by
  obtain ⟨p, cap, h1, h2, h3, h4⟩ := h
  rcases h4 with rfl | ⟨b, o, rfl, hr⟩
  · simp at hl
  · exact ⟨b, o, cap, h1, cell_in (a := ⟨b, o + 0, none⟩) (hr 0 hl), h2, h3, hr⟩
theorem SV.shape {w : World} {v : Value} {l : List ByteArray} (h : SV w v l) : ∃ p cap, v = .slice p l.length cap ∧ l.length ≤ cap ∧ cap ≤ maxLen := by
  obtain ⟨p, cap, h1, h2, h3, _⟩ := h
  exact ⟨p, cap, h1, h2, h3⟩
/-- a slice that the call owns -/
def SO (w : World) (B : Nat) (v : Value) (l : List ByteArray) : Prop := w.ownsRow B 9 1 v l.length (l.map Value.string)
theorem SO.nil (w : World) (B : Nat) : SO w B (.slice none 0 0) [] := ⟨rfl, .inl ⟨rfl, rfl⟩⟩
theorem SO.empty {w : World} {B g : Nat} (hg : w.heap[g]? = some (.cells #[] 9 (0, 0))) (hb : B ≤ g) : SO w B (.slice (some ⟨g, 0, none⟩) 0 0) [] :=
  ⟨rfl, .inr ⟨g, 0, _, rfl, hb, hg, Nat.le_refl _, Nat.zero_le _, rfl, rfl⟩⟩
theorem SO.cong {w w' : World} {B : Nat} {v : Value} {l : List ByteArray} (h : SO w B v l) (hk : ∀ g, v.ownBlock = some g → g < w.heap.size → w'.heap[g]? = w.heap[g]?) : SO w' B v l := by
  refine ⟨h.1, ?_⟩
  rcases h.2 with hn | ⟨g, cap, cur, rfl, hb, hg, r⟩
  · exact .inl hn
  · exact .inr ⟨g, cap, cur, rfl, hb, (hk g rfl (lt_block hg)).trans hg, r⟩
theorem SO.below {w w' : World} {B B' : Nat} {v : Value} {l : List ByteArray} (h : SO w B v l) (hb : Below B' w w') (hB : w.heap.size ≤ B') : SO w' B v l :=
  h.cong fun g _ hl => hb.block g (by omega)
theorem SO.alloc {w : World} {B : Nat} {v : Value} {l : List ByteArray} (h : SO w B v l) (o : Obj) : SO (w.alloc o) B v l := h.cong fun g _ hl => Below.heap_alloc w o g hl
theorem SO.drewN {w : World} {B : Nat} {v : Value} {l : List ByteArray} (h : SO w B v l) (k : Nat) : SO (w.drewN k) B v l := h
theorem SO.mono {w : World} {B B' : Nat} {v : Value} {l : List ByteArray} (h : SO w B v l) (hb : B' ≤ B) : SO w B' v l := by
  refine ⟨h.1, ?_⟩
  rcases h.2 with hn | ⟨g, cap, cur, h1, h2, r⟩
  · exact .inl hn
  · exact .inr ⟨g, cap, cur, h1, by omega, r⟩
theorem SO.sv {w : World} {B : Nat} {v : Value} {l : List ByteArray} (h : SO w B v l) : SV w v l := by
  rcases h.2 with ⟨rfl, hn⟩ | ⟨g, cap, cur, rfl, hb, hg, hc, hm, hs, ht⟩
  · obtain rfl := List.length_eq_zero_iff.1 hn
    exact SV.nil w
  · refine ⟨_, cap, rfl, hc, hm, .inr ⟨g, 0, rfl, fun i hi => ?_⟩⟩
    rw [Nat.zero_add, cell_of_row w g i _ _ _ hg]
    have : (cur.toList.take (l.length * 1))[i]? = (l.map Value.string)[i]? := by rw [ht]
    rw [List.getElem?_take, if_pos (by omega), Array.getElem?_toList, List.getElem?_map, List.getElem?_eq_getElem hi] at this
    rw [this]; simp [List.getD_eq_getElem?_getD, List.getElem?_eq_getElem hi]
theorem SO.block_ge {w : World} {B : Nat} {v : Value} {l : List ByteArray} (h : SO w B v l) (g : Nat) (hg : v.ownBlock = some g) : B ≤ g := by
  rcases h.2 with ⟨rfl, _⟩ | ⟨g', cap, cur, rfl, hb, _⟩
  · simp [Value.ownBlock] at hg
  · simp only [Value.ownBlock, Option.some.injEq] at hg; omega
theorem append_none {P : Program} {w : World} (t ty e : TypeId) (i : TypeInfo) (ht : P.underlying t = some (.slice e)) (hi : P.info? e = some i) (p : Option Addr) (n cap c : Nat) (h : n ≤ cap) :
    (Builtin.append_ #[t, t] ty #[.slice p n cap, .slice none 0 c]).run P w = .ok (.slice p n cap) w := by
  cases p <;> simp [Builtin.append_, run_underlying ht, sizeOf, typeInfo, hi, Builtin.lenOf, Builtin.firstCells, storeCells, h]
theorem str_news {w : World} {b oo : Nat} {l2 : List ByteArray} (hrow : ∀ i, i < l2.length → w.cell? ⟨b, oo + i, none⟩ = some (.string (l2.getD i ⟨#[]⟩))) : ∀ j u, (l2.map Value.string)[j]? = some u → w.cell? ((⟨b, oo, none⟩ : Addr).add j) = some u := by
  intro j u hu
  rw [add_flat]
  have hj : j < l2.length := by
    have := (List.getElem?_eq_some_iff.1 hu).1
    simpa using this
  rw [List.getElem?_map, List.getElem?_eq_getElem hj] at hu
  simp only [Option.map_some, Option.some.injEq] at hu
  rw [← hu, hrow j hj]; simp [List.getD_eq_getElem?_getD, List.getElem?_eq_getElem hj]
theorem str_one (l : List ByteArray) : ∀ u ∈ l.map Value.string, u.oneCell' = true := by
  intro u hu
  obtain ⟨x, _, rfl⟩ := List.mem_map.1 hu
  rfl
/-- what an append of strings computes -/
theorem run_append (w : World) (o : TypeId) (B : Nat) (v : Value) (l l2 : List ByteArray) (hown : SO w B v l) (v2 : Value) (h2 : SV w v2 l2) (h63 : l.length + l2.length ≤ 1000000) (hbase : B ≤ w.heap.size) :
    ∃ v' w', (Builtin.append_ #[22, 22] o #[v, v2]).run Tryd.prog w = .ok v' w' ∧ SO w' B v' (l ++ l2) ∧ Below B w w' ∧ w.grownBy w' v.ownBlock := by
  obtain ⟨i0, hi, hz0, hz1, hz2⟩ := info_parts str_info
  obtain ⟨p2, c, rfl, hc1, hc2, hat⟩ := h2
  have bel : ∀ w', w.grownBy w' v.ownBlock → Below B w w' := fun w' h3 => ⟨h3.os, h3.tape, h3.output, h3.size, fun i hi => h3.block i (by omega) (fun e => by have := SO.block_ge hown i e.symm; omega)⟩
  have fin : ∀ ad, p2 = some ad → (∀ j u, (l2.map Value.string)[j]? = some u → w.cell? (ad.add j) = some u) → ∃ v' w', (Builtin.append_ #[22, 22] o #[v, .slice p2 l2.length c]).run Tryd.prog w = .ok v' w' ∧ SO w' B v' (l ++ l2) ∧ Below B w w' ∧ w.grownBy w' v.ownBlock := by
    intro ad hp hn
    subst hp
    obtain ⟨v', w', hr, h2, h3, h4, h5⟩ := run_append_own_at (P := Tryd.prog) w B 22 o 9 i0 _ 1 16 Tryd.underlying22 hi hz0 hz1 hz2 rfl (by decide) v l.length _ hown ad l2.length c (l2.map Value.string) (by simp) hn (str_one l2) (by unfold maxLen; omega) (by omega) hbase
    rw [← List.map_append, ← List.length_append] at h2
    exact ⟨v', w', hr, h2, bel w' h3, h3⟩
  rcases hat with rfl | ⟨b, oo, hp, hrow⟩
  · cases p2 with
    | none =>
      obtain ⟨q, cap, rfl, hq, _⟩ := SV.shape hown.sv
      refine ⟨_, w, append_none _ o _ i0 Tryd.underlying22 hi q l.length cap c hq, by rw [List.append_nil]; exact hown, Below.refl _ _, ⟨rfl, rfl, rfl, Nat.le_refl _, fun _ _ _ => rfl⟩⟩
    | some ad => exact fin ad rfl (fun j u hu => by simp at hu)
  · exact fin _ hp (str_news hrow)
theorem wpList_append {w : World} {ops : Array Oper} {rest : List Oper} {o : Oper} {a : Act} {Q : Exit → Act → World → Prop} (hgd : o.guard = none) (s x : Operand)
    (ho : o.op = .call { callee := .builtin .append, args := #[s, x], argTypes := #[22, 22] })
    (B : Nat) (v : Value) (l l2 : List ByteArray) (hs : a.eval s = v) (hown : SO w B v l) (v2 : Value) (hx : a.eval x = v2) (h2 : SV w v2 l2) (h63 : l.length + l2.length ≤ 1000000) (hbase : B ≤ w.heap.size)
    (h : ∀ v' w', SO w' B v' (l ++ l2) → Below B w w' → w.grownBy w' v.ownBlock → wpList Tryd.prog ops Q rest (a.put o.dst v') w') : wpList Tryd.prog ops Q (o :: rest) a w := by
  obtain ⟨v', w', hr, h3, h4, h5⟩ := run_append w o.type B v l l2 hown v2 h2 h63 hbase
  refine wpList_plain hgd fun K hK => ?_
  unfold Oper.wp execOp
  simp only [ho, resolve, invoke, builtin, Sem.run_bind, Sem.run_pure, Result.andThen_ok, List.map_toArray, List.map_cons, List.map_nil, hs, hx, hr]
  exact hK _ _ (h v' w' h3 h4 h5)
theorem step_append {w : World} {ops : Array Oper} {o : Oper} {a : Act} {K : Act → World → Prop} {Q : Exit → Act → World → Prop} {E : Prop} (hgd : o.guard = none) (s x : Operand)
    (ho : o.op = .call { callee := .builtin .append, args := #[s, x], argTypes := #[22, 22] })
    (B : Nat) (v : Value) (l l2 : List ByteArray) (hs : a.eval s = v) (hown : SO w B v l) (v2 : Value) (hx : a.eval x = v2) (h2 : SV w v2 l2) (h63 : l.length + l2.length ≤ 1000000) (hbase : B ≤ w.heap.size)
    (h : ∀ v' w', SO w' B v' (l ++ l2) → Below B w w' → w.grownBy w' v.ownBlock → K (a.put o.dst v') w') :
    if Region.wanted o (yielded ops a.tmps) = true then Oper.wp Tryd.prog o a w K Q else E := by
  have hw : Region.wanted o (yielded ops a.tmps) = true := by simp [Region.wanted, hgd]
  rw [if_pos hw]
  obtain ⟨v', w', hr, h3, h4, h5⟩ := run_append w o.type B v l l2 hown v2 h2 h63 hbase
  unfold Oper.wp execOp
  simp only [ho, resolve, invoke, builtin, Sem.run_bind, Sem.run_pure, Result.andThen_ok, List.map_toArray, List.map_cons, List.map_nil, hs, hx, hr]
  exact h v' w' h3 h4 h5
/-- strings laid out one behind the other in a new block -/
theorem SV.lit {w : World} {g : Nat} (l : List ByteArray) (hl : l.length ≤ 1000000) (hg : w.heap[g]? = some (.cells (l.map Value.string).toArray 9 (0, 0))) : SV w (.slice (some ⟨g, 0, none⟩) l.length l.length) l :=
  ⟨_, _, rfl, Nat.le_refl _, by unfold maxLen; omega, .inr ⟨g, 0, rfl, fun i hi => by
    rw [Nat.zero_add, cell_of_row w g i _ _ _ hg]; simp [List.getD_eq_getElem?_getD, List.getElem?_eq_getElem hi]⟩⟩
theorem SO.lit {w : World} {B g : Nat} (l : List ByteArray) (hl : l.length ≤ 1000000) (hB : B ≤ g) (hg : w.heap[g]? = some (.cells (l.map Value.string).toArray 9 (0, 0))) : SO w B (.slice (some ⟨g, 0, none⟩) l.length l.length) l :=
  ⟨by simp, .inr ⟨g, l.length, _, rfl, hB, hg, Nat.le_refl _, by unfold maxLen; omega, by simp, by rw [Nat.mul_one, List.toList_toArray, List.take_of_length_le (by simp)]⟩⟩
/-- what a function that makes a slice of strings leaves -/
def Ret (w : World) (l : List ByteArray) (e : Ending) (w' : World) : Prop := ∃ v', e = .returned v' ∧ SO w' w.heap.size v' l ∧ Below w.heap.size w w'
end Sl
end Go.Proofs.YtmapodkdnbbjgaaDoor
