/- 'Own': a slice that the call itself made: it is nil, or begins at the head of a row of which no cell behind its elements is frozen; what append does to it. -/
import Derived.Test.YtlegmhmmoadggaaDoorFr
import Derived.Lib.AppendStr
import Derived.Laws.IdiomStrings
import Derived.Laws.AppendOwnNone
namespace Go.Proofs.YtlegmhmmoadggaaDoor
open Go.RowKit

theorem run_storeCells_avoid (P : Program) (g o : Nat) (t : TypeId) (fz : Nat × Nat) : ∀ (vs : List Value) (i : Nat) (cur : Array Value) (w : World), w.heap[g]? = some (.cells cur t fz) → (fz.2 ≤ o + i ∨ o + i + vs.length ≤ fz.1) → o + i + vs.length ≤ cur.size → (∀ v ∈ vs, v.oneCell' = true) →
    (storeCells ⟨g, o, none⟩ vs i).run P w = .ok () (w.setRow g (cur.toList.take (o + i) ++ vs ++ cur.toList.drop (o + i + vs.length)).toArray)
  | [], i, cur, w, hg, _, _, _ => by
    simp only [storeCells, List.append_nil, List.length_nil, Nat.add_zero, List.take_append_drop, Array.toArray_toList]
    rw [setRow_self w g cur t fz hg]
    rfl
  | v :: rest, i, cur, w, hg, hfz, hl, h1 => by
    have hi : o + i < cur.size := by simp at hl; omega
    have hadd : (⟨g, o, none⟩ : Addr).add i = ⟨g, o + i, none⟩ := by unfold Addr.add; split <;> simp_all
    have hcell : w.cell? ⟨g, o + i, none⟩ = some cur[o + i] := by simp [World.cell?, hg, hi]
    have hfro : w.frozen? ⟨g, o + i, none⟩ = false := by
      obtain ⟨lo, hi'⟩ := fz
      simp only [World.frozen?, hg, Bool.and_eq_false_iff, decide_eq_false_iff_not]
      simp only [List.length_cons] at hfz
      rcases hfz with hfz | hfz
      · right; omega
      · left; omega
    have hst : (store ((⟨g, o, none⟩ : Addr).add i) v).run P w = .ok () (w.setRow g (cur.setIfInBounds (o + i) v)) := by
      rw [hadd, run_store P w _ v _ (h1 v (by simp)), hcell]
      simp [hfro, setCell_eq_setRow w g (o + i) cur t fz v hg]
    have ih := run_storeCells_avoid P g o t fz rest (i + 1) (cur.setIfInBounds (o + i) v) (w.setRow g (cur.setIfInBounds (o + i) v)) (setRow_heap w g cur _ t _ hg) (by simp at hfz; omega) (by simp at hl ⊢; omega) (fun x hx => h1 x (by simp [hx]))
    simp only [storeCells, Sem.run_bind, hst, Result.andThen_ok, ih, setRow_setRow]
    congr 3
    have e := list_seg_step cur.toList (o + i) v rest (by simp at hl ⊢; omega)
    simpa [Array.toList_setIfInBounds, Nat.add_assoc] using e

/-- the slice value v of n elements (of type e, size cells each) owns the cells xs: nil, or at the head of a row of a block from base on; no cell behind the elements is frozen -/
def Own (w : World) (base : Nat) (e : TypeId) (size : Nat) (v : Value) (n : Nat) (xs : List Value) : Prop :=
  xs.length = n * size ∧
  ((v = .slice none 0 0 ∧ n = 0) ∨
   ∃ g cap cur fz, v = .slice (some ⟨g, 0, none⟩) n cap ∧ base ≤ g ∧ w.heap[g]? = some (.cells cur e fz) ∧ (fz.2 ≤ n * size ∨ cap * size ≤ fz.1) ∧ n ≤ cap ∧ cap ≤ maxLen ∧ cur.size = cap * size ∧ cur.toList.take (n * size) = xs)

namespace Own
variable {w : World} {base : Nat} {e : TypeId} {size : Nat} {v : Value} {n : Nat} {xs : List Value}
theorem nil (w : World) (base : Nat) (e : TypeId) (size : Nat) : Own w base e size (.slice none 0 0) 0 [] := ⟨by simp, .inl ⟨rfl, rfl⟩⟩
theorem of_owns (h : w.ownsRow base e size v n xs) : Own w base e size v n xs := by
  refine ⟨h.1, ?_⟩
  rcases h.2 with h | ⟨g, cap, cur, h1, h2, h3, h4, h5, h6, h7⟩
  · exact .inl h
  · exact .inr ⟨g, cap, cur, (0, 0), h1, h2, h3, .inl (Nat.zero_le _), h4, h5, h6, h7⟩
theorem len (h : Own w base e size v n xs) : xs.length = n * size := h.1
/-- blocks other than its own may turn -/
theorem kept {w' : World} (h : Own w base e size v n xs) (hk : ∀ g, v.ownBlock = some g → g < w.heap.size → w'.heap[g]? = w.heap[g]?) : Own w' base e size v n xs := by
  refine ⟨h.1, ?_⟩
  rcases h.2 with hn | ⟨g, cap, cur, fz, rfl, hb, hg, r⟩
  · exact .inl hn
  · exact .inr ⟨g, cap, cur, fz, rfl, hb, (hk g rfl (lt_block hg)).trans hg, r⟩
theorem alloc (h : Own w base e size v n xs) (o : Obj) : Own (w.alloc o) base e size v n xs := h.kept fun g _ hl => Below.heap_alloc w o g hl
theorem drew (h : Own w base e size v n xs) : Own w.drew base e size v n xs := h.kept fun _ _ _ => rfl
theorem drewN (h : Own w base e size v n xs) (k : Nat) : Own (w.drewN k) base e size v n xs := h.kept fun _ _ _ => rfl
theorem fr {w' : World} {S : Nat → Prop} (h : Own w base e size v n xs) (hf : Fr S w w') (hS : ∀ g, v.ownBlock = some g → ¬ S g) : Own w' base e size v n xs :=
  h.kept fun g hg hl => hf.block g hl (hS g hg)
theorem below {w' : World} {B : Nat} (h : Own w base e size v n xs) (hf : Below B w w') (hB : w.heap.size ≤ B) : Own w' base e size v n xs :=
  h.kept fun g _ hl => hf.block g (by omega)
theorem setCell (h : Own w base e size v n xs) (p : Addr) (u : Value) (hp : ∀ g, v.ownBlock = some g → g ≠ p.block) : Own (w.setCell p u) base e size v n xs :=
  h.kept fun g hg _ => Below.heap_setCell w p u g (hp g hg)
theorem mono {base' : Nat} (h : Own w base e size v n xs) (hb : base' ≤ base) : Own w base' e size v n xs := by
  refine ⟨h.1, ?_⟩
  rcases h.2 with hn | ⟨g, cap, cur, fz, h1, h2, r⟩
  · exact .inl hn
  · exact .inr ⟨g, cap, cur, fz, h1, by omega, r⟩
theorem block_ge (h : Own w base e size v n xs) (g : Nat) (hg : v.ownBlock = some g) : base ≤ g ∧ g < w.heap.size := by
  rcases h.2 with ⟨rfl, _⟩ | ⟨g', cap, cur, fz, rfl, hb, hh, _⟩
  · simp [Value.ownBlock] at hg
  · simp only [Value.ownBlock, Option.some.injEq] at hg; subst hg; exact ⟨hb, lt_block hh⟩
/-- its shape -/
theorem shape (h : Own w base e size v n xs) (hn : 0 < n) : ∃ g cap, v = .slice (some ⟨g, 0, none⟩) n cap ∧ base ≤ g ∧ g < w.heap.size ∧ n ≤ cap ∧ cap ≤ maxLen ∧ ∀ j, j < n * size → w.cell? ⟨g, j, none⟩ = xs[j]? := by
  rcases h.2 with ⟨_, h0⟩ | ⟨g, cap, cur, fz, rfl, hb, hg, _, hc, hm, _, ht⟩
  · omega
  · exact ⟨g, cap, rfl, hb, lt_block hg, hc, hm, fun j hj => by rw [cell_of_row w g j cur e fz hg, ← ht, List.getElem?_take, if_pos hj]; simp⟩
/-- its shape, empty or not -/
theorem shape' (h : Own w base e size v n xs) : ∃ a cap, v = .slice a n cap ∧ n ≤ cap ∧ cap ≤ maxLen := by
  rcases h.2 with ⟨rfl, rfl⟩ | ⟨g, cap, cur, fz, rfl, hb, hg, _, hc, hm, _, ht⟩
  · exact ⟨none, 0, rfl, Nat.le_refl _, Nat.zero_le _⟩
  · exact ⟨_, cap, rfl, hc, hm⟩
/-- a store into one of its elements -/
theorem stored {g cap : Nat} (h : Own w base e size (.slice (some ⟨g, 0, none⟩) n cap) n xs) (j : Nat) (u : Value) :
    Own (w.setCell ⟨g, j, none⟩ u) base e size (.slice (some ⟨g, 0, none⟩) n cap) n (xs.set j u) := by
  rcases h.2 with ⟨h', _⟩ | ⟨g', cap', cur, fz, h', hb, hg, hfz, hnc, hcm, hcs, htake⟩
  · simp at h'
  · simp only [Value.slice.injEq, Option.some.injEq, Addr.mk.injEq, and_true, true_and] at h'
    obtain ⟨rfl, rfl⟩ := h'
    refine ⟨by simpa using h.1, .inr ⟨g, cap, cur.setIfInBounds j u, fz, rfl, hb, ?_, hfz, hnc, hcm, by simpa using hcs, ?_⟩⟩
    · rw [setCell_eq_setRow w g j cur e fz u hg]; exact setRow_heap w g cur _ e _ hg
    · rw [Array.toList_setIfInBounds, List.take_set, htake]
end Own

section
variable {P : Program} (w : World)
theorem run_append_room_x (t ty e : TypeId) (i : TypeInfo) (ht : P.underlying t = some (.slice e)) (hi : P.info? e = some i)
    (g sLen sCap : Nat) (cur : Array Value) (fz : Nat × Nat) (hg : w.heap[g]? = some (.cells cur e fz))
    (a : Addr) (m c : Nat) (news : List Value) (hfz : fz.2 ≤ sLen * i.size ∨ sLen * i.size + news.length ≤ fz.1) (hl : news.length = m * i.size) (hnews : ∀ j u, news[j]? = some u → w.cell? (a.add j) = some u) (h1 : ∀ u ∈ news, u.oneCell' = true)
    (hroom : sLen + m ≤ sCap) (hfit : sLen * i.size + news.length ≤ cur.size) :
    (Builtin.append_ #[t, t] ty #[.slice (some ⟨g, 0, none⟩) sLen sCap, .slice (some a) m c]).run P w =
      .ok (.slice (some ⟨g, 0, none⟩) (sLen + m) sCap) (w.setRow g (cur.toList.take (sLen * i.size) ++ news ++ cur.toList.drop (sLen * i.size + news.length)).toArray) := by
  have hf := run_firstCells_some (P := P) w i.size m a m c news hl hnews
  have hst := run_storeCells_avoid P g (sLen * i.size) e fz news 0 cur w hg (by simpa using hfz) (by simpa using hfit) h1
  simp only [Nat.add_zero] at hst
  simp [Builtin.append_, run_underlying ht, sizeOf, typeInfo, hi, Builtin.lenOf, hroom, hf, Addr.add_lit, hst]

theorem run_append_x (base : Nat) (t ty e : TypeId) (i : TypeInfo) (z : Value) (size bytes : Nat) (ht : P.underlying t = some (.slice e)) (hi : P.info? e = some i) (hz : i.zero = some z)
    (hsize : i.size = size) (hby : i.bytes = bytes) (hzs : z.cells.size = size) (hsz : 0 < size)
    (v : Value) (n : Nat) (xs : List Value) (hown : Own w base e size v n xs)
    (a : Addr) (m c : Nat) (news : List Value) (hl : news.length = m * size) (hnews : ∀ j u, news[j]? = some u → w.cell? (a.add j) = some u) (h1 : ∀ u ∈ news, u.oneCell' = true)
    (h63 : n + m ≤ maxLen) (hbytes : (n + m) * bytes ≤ 140737488355328) (hbase : base ≤ w.heap.size) :
    ∃ v' w', (Builtin.append_ #[t, t] ty #[v, .slice (some a) m c]).run P w = .ok v' w' ∧ Own w' base e size v' (n + m) (xs ++ news) ∧ w.grownBy w' v.ownBlock ∧
      (v' = .slice none 0 0 ↔ v = .slice none 0 0 ∧ m = 0) ∧ (v'.ownBlock = v.ownBlock ∨ ∃ g, v'.ownBlock = some g ∧ w.heap.size ≤ g) := by
  subst hsize
  subst hby
  have hsmall : n + m ≤ 9223372036854775807 := by simp only [maxLen] at h63; omega
  have hlen : (xs ++ news).length = (n + m) * i.size := by rw [List.length_append, hown.1, hl, Nat.add_mul]
  have grown : ∀ (old : Nat), old < n + m → ∀ (row : Option Nat),
      Own (w.drew.alloc (.cells (xs.toArray ++ news.toArray ++ Builtin.zeroCells z.cells (grownCap w (n + m) old e - (n + m))) e)) base e i.size
        (.slice (some ⟨w.heap.size, 0, none⟩) (n + m) (grownCap w (n + m) old e)) (n + m) (xs ++ news) ∧
      w.grownBy (w.drew.alloc (.cells (xs.toArray ++ news.toArray ++ Builtin.zeroCells z.cells (grownCap w (n + m) old e - (n + m))) e)) row := by
    intro old ho row
    have hge := grownCap_ge w (n + m) old e
    have hcm : grownCap w (n + m) old e ≤ maxLen := grownCap_le_maxLen w (n + m) old e h63
    refine ⟨⟨hlen, .inr ⟨w.heap.size, _, _, (0, 0), rfl, hbase, heap_alloc_new w.drew _, .inl (Nat.zero_le _), hge, hcm, ?_, ?_⟩⟩, ⟨rfl, rfl, rfl, by simp, fun k hk _ => Below.heap_alloc w.drew _ k hk⟩⟩
    · simp only [Array.size_append, List.size_toArray, size_zeroCells, hzs, hown.1, hl, ← Nat.add_mul]
      congr 1
      omega
    · simp only [Array.toList_append, List.append_assoc]
      rw [← List.append_assoc, ← hlen]
      exact List.take_left
  rcases hown.2 with ⟨rfl, rfl⟩ | ⟨g, cap, cur, fz, rfl, hbg, hg, hfz, hnc, hcm, hcs, htake⟩
  · have hx : xs = [] := List.eq_nil_of_length_eq_zero (by simpa using hown.1)
    subst hx
    by_cases hm : m = 0
    · subst hm
      have hn : news = [] := List.eq_nil_of_length_eq_zero (by simpa using hl)
      subst hn
      refine ⟨.slice none 0 0, w, ?_, Own.nil w base e i.size, ⟨rfl, rfl, rfl, Nat.le_refl _, fun _ _ _ => rfl⟩, by simp, .inl rfl⟩
      simp [Builtin.append_, run_underlying ht, sizeOf, typeInfo, hi, Builtin.lenOf, Builtin.firstCells, loadCells, loadCellsFrom]
    · have hr := run_append_nil (P := P) w t ty e i z ht hi hz a m c news hl hnews (by omega) (by omega) (by have hb := hbytes; simp only [Nat.zero_add] at hb; omega)
      have hgr := grown 0 (by omega) (Value.ownBlock (.slice none 0 0))
      simp only [Nat.zero_add, List.nil_append, Array.empty_append] at hgr ⊢
      exact ⟨_, _, hr, hgr.1, hgr.2, by simp [hm], .inr ⟨w.heap.size, rfl, Nat.le_refl _⟩⟩
  · by_cases hroom : n + m ≤ cap
    · have hfit : n * i.size + news.length ≤ cur.size := by rw [hl, hcs, ← Nat.add_mul]; exact Nat.mul_le_mul_right _ hroom
      have hfz' : fz.2 ≤ n * i.size ∨ n * i.size + news.length ≤ fz.1 := by rcases hfz with h | h; exact .inl h; exact .inr (by omega)
      have hfz2 : fz.2 ≤ (n + m) * i.size ∨ cap * i.size ≤ fz.1 := by
        rcases hfz with h | h
        · exact .inl (Nat.le_trans h (Nat.mul_le_mul_right _ (by omega)))
        · exact .inr h
      have hr := run_append_room_x (P := P) w t ty e i ht hi g n cap cur fz hg a m c news hfz' hl hnews h1 hroom hfit
      refine ⟨_, _, hr, ⟨hlen, .inr ⟨g, cap, _, fz, rfl, hbg, setRow_heap w g cur _ e _ hg, hfz2, hroom, hcm, ?_, ?_⟩⟩, ⟨rfl, rfl, rfl, by simp, fun k _ hk => setRow_other w g k _ (fun e => hk (by simp [Value.ownBlock, e]))⟩, by simp, .inl rfl⟩
      · simp only [List.size_toArray, List.length_append, List.length_take, List.length_drop, Array.length_toList]
        omega
      · rw [htake, ← hlen]
        exact List.take_left
    · have holds : ∀ j u, xs[j]? = some u → w.cell? ((⟨g, 0, none⟩ : Addr).add j) = some u := by
        intro j u hu
        have hadd : (⟨g, 0, none⟩ : Addr).add j = ⟨g, j, none⟩ := by unfold Addr.add; split <;> simp_all
        rw [hadd, cell_of_row w g j cur e fz hg]
        rw [← htake, List.getElem?_take] at hu
        split at hu
        · simpa using hu
        · cases hu
      have hr := run_append_grow (P := P) w t ty e i z ht hi hz ⟨g, 0, none⟩ n cap xs hown.1 holds a m c news hl hnews (by omega) (by omega) (growslice_fits (by omega) hbytes)
      have hgr := grown cap (by omega) (Value.ownBlock (.slice (some ⟨g, 0, none⟩) n cap))
      exact ⟨_, _, hr, hgr.1, hgr.2, by simp, .inr ⟨w.heap.size, rfl, Nat.le_refl _⟩⟩
end

theorem wp_append_x {P : Program} {w : World} {o : Oper} {a : Act} {K : Act → World → Prop} {Q : Exit → Act → World → Prop} (s x : Operand) (t : TypeId)
    (ho : o.op = .call { callee := .builtin .append, args := #[s, x], argTypes := #[t, t] })
    (base : Nat) (e : TypeId) (i : TypeInfo) (z : Value) (size bytes : Nat) (ht : P.underlying t = some (.slice e)) (hi : P.info? e = some i) (hz : i.zero = some z)
    (hsize : i.size = size) (hby : i.bytes = bytes) (hzs : z.cells.size = size) (hsz : 0 < size)
    (v : Value) (n : Nat) (xs : List Value) (hs : a.eval s = v) (hown : Own w base e size v n xs)
    (ad : Addr) (m c : Nat) (news : List Value) (hx : a.eval x = .slice (some ad) m c) (hl : news.length = m * size) (hnews : ∀ j u, news[j]? = some u → w.cell? (ad.add j) = some u) (h1 : ∀ u ∈ news, u.oneCell' = true)
    (h63 : n + m ≤ maxLen) (hbytes : (n + m) * bytes ≤ 140737488355328) (hbase : base ≤ w.heap.size)
    (h : ∀ v' w', Own w' base e size v' (n + m) (xs ++ news) → w.grownBy w' v.ownBlock → (v' = .slice none 0 0 ↔ v = .slice none 0 0 ∧ m = 0) → (v'.ownBlock = v.ownBlock ∨ ∃ g, v'.ownBlock = some g ∧ w.heap.size ≤ g) → K (a.put o.dst v') w') : o.wp P a w K Q := by
  obtain ⟨v', w', hr, h2, h3, h4, h5⟩ := run_append_x (P := P) w base t o.type e i z size bytes ht hi hz hsize hby hzs hsz v n xs hown ad m c news hl hnews h1 h63 hbytes hbase
  unfold Oper.wp execOp
  simp only [ho, resolve, invoke, builtin, Sem.run_bind, Sem.run_pure, Result.andThen_ok, List.map_toArray, List.map_cons, List.map_nil, hs, hx, hr]
  exact h v' w' h2 h3 h4 h5

/-- 'out = append(out, ..)', out nil or the call's own -/
theorem wpList_append_x {P : Program} {w : World} {ops : Array Oper} {rest : List Oper} {o : Oper} {a : Act} {Q : Exit → Act → World → Prop} (hgd : o.guard = none) (s x : Operand) (t : TypeId)
    (ho : o.op = .call { callee := .builtin .append, args := #[s, x], argTypes := #[t, t] })
    (base : Nat) (e : TypeId) (i : TypeInfo) (z : Value) (size bytes : Nat) (ht : P.underlying t = some (.slice e)) (hi : P.info? e = some i) (hz : i.zero = some z)
    (hsize : i.size = size) (hby : i.bytes = bytes) (hzs : z.cells.size = size) (hsz : 0 < size)
    (v : Value) (n : Nat) (xs : List Value) (hs : a.eval s = v) (hown : Own w base e size v n xs)
    (ad : Addr) (m c : Nat) (news : List Value) (hx : a.eval x = .slice (some ad) m c) (hl : news.length = m * size) (hnews : ∀ j u, news[j]? = some u → w.cell? (ad.add j) = some u) (h1 : ∀ u ∈ news, u.oneCell' = true)
    (h63 : n + m ≤ maxLen) (hbytes : (n + m) * bytes ≤ 140737488355328) (hbase : base ≤ w.heap.size)
    (h : ∀ v' w', Own w' base e size v' (n + m) (xs ++ news) → w.grownBy w' v.ownBlock → (v' = .slice none 0 0 ↔ v = .slice none 0 0 ∧ m = 0) → (v'.ownBlock = v.ownBlock ∨ ∃ g, v'.ownBlock = some g ∧ w.heap.size ≤ g) → wpList P ops Q rest (a.put o.dst v') w') : wpList P ops Q (o :: rest) a w :=
  wpList_plain hgd fun _ hK => wp_append_x s x t ho base e i z size bytes ht hi hz hsize hby hzs hsz v n xs hs hown ad m c news hx hl hnews h1 h63 hbytes hbase fun v' w' h2 h3 h4 h5 => hK _ _ (h v' w' h2 h3 h4 h5)
theorem grownBy.fr {w w' : World} {row : Option Nat} (h : w.grownBy w' row) : Fr (fun k => some k = row) w w' :=
  ⟨h.os, h.tape, h.output, h.size, fun k hk hn => h.block k hk hn⟩
theorem bytesRow_take (s : ByteArray) (c : Nat) : (bytesRow s c).toList.take s.size = Lib.byteCells s.data.toList := by
  have e : (Lib.byteCells s.data.toList).length = s.size := by simp [Lib.byteCells]
  simp only [bytesRow, Array.toList_append, Array.toList_map]
  rw [← e]; exact List.take_left
theorem bytesRow_size (s : ByteArray) (c : Nat) (h : s.size ≤ c) : (bytesRow s c).size = c := by
  simp [bytesRow]; omega
/-- '[]byte(s)' -/
theorem wpList_to_bytes {P : Program} {w : World} {ops : Array Oper} {rest : List Oper} {o : Oper} {a : Act} {Q : Exit → Act → World → Prop} (hgd : o.guard = none) (src dst e : TypeId) (x : Operand)
    (ho : o.op = .convert src dst x) (s : ByteArray) (hx : a.eval x = .string s) (hs : P.underlying src = some .string) (hd : P.underlying dst = some (.slice e)) (he : P.underlying e = some (.int .u8))
    (hm : s.size ≤ maxLen) (base : Nat) (hb : base ≤ w.heap.size)
    (h : ∀ v w', Own w' base e 1 v s.size (Lib.byteCells s.data.toList) → Below w.heap.size w w' → (v.ownBlock = some w.heap.size) → wpList P ops Q rest (a.put o.dst v) w') : wpList P ops Q (o :: rest) a w := by
  refine wpList_plain hgd fun K hK => ?_
  have hr := run_bytes_of_string (P := P) w src dst e s hs hd he
  have hge := grownCap_ge w s.size 0 e
  have hcm : grownCap w s.size 0 e ≤ maxLen := grownCap_le_maxLen w s.size 0 e hm
  unfold Oper.wp execOp
  simp only [ho, hx, Sem.run_bind, Sem.run_pure, Result.andThen_ok, hr]
  refine hK _ _ (h _ _ ⟨by simp [Lib.byteCells], .inr ⟨w.heap.size, _, _, _, rfl, hb, heap_alloc_new w.drew _, .inr ?_, hge, hcm, ?_, ?_⟩⟩ ?_ rfl)
  · simp only [Nat.mul_one, bytesRow_size s _ hge]; exact Nat.le_refl _
  · rw [bytesRow_size s _ hge, Nat.mul_one]
  · rw [Nat.mul_one]; exact bytesRow_take s _
  · exact ((Below.refl w.heap.size w).drew).alloc (Nat.le_refl _) _
/-- some bytes as a row of cells -/
def cb (l : List UInt8) : Array Value := (Lib.byteCells l).toArray
theorem cb_size (l : List UInt8) : (cb l).size = l.length := by simp [cb, Lib.byteCells]
theorem cell_cb {w : World} {b : Nat} {l : List UInt8} {T : TypeId} {fz : Nat × Nat} (h : w.heap[b]? = some (.cells (cb l) T fz)) (i : Nat) (x : UInt8) (hi : l[i]? = some x) :
    w.cell? ⟨b, i, none⟩ = some (.int .u8 x.toNat) := by
  rw [cell_of_row w b i _ T _ h]; simp [cb, Lib.byteCells, hi]
theorem set_cb {w : World} {b : Nat} {l : List UInt8} {T : TypeId} (h : w.heap[b]? = some (.cells (cb l) T (0, 0))) (i : Nat) (x : UInt8) :
    (w.setCell ⟨b, i, none⟩ (.int .u8 x.toNat)).heap[b]? = some (.cells (cb (l.set i x)) T (0, 0)) := by
  rw [heap_setCell_same w b i _ T _ h]
  congr 2
  simp [cb, Lib.byteCells, List.map_set]
/-- 'copy(out, s)', out a row that the call itself made, s a string -/
theorem wpList_copy_str {P : Program} {w : World} {ops : Array Oper} {rest : List Oper} {o : Oper} {a : Act} {Q : Exit → Act → World → Prop} (hgd : o.guard = none) (d s : Operand) (dT sT : TypeId)
    (ho : o.op = .call { callee := .builtin .copy, args := #[d, s], argTypes := #[dT, sT] }) (elem : TypeId) (hu : P.underlying dT = some (.slice elem)) (hsz : (P.info? elem).map (·.size) = some 1)
    (g dLen dCap : Nat) (x : ByteArray) (hd : a.eval d = .slice (some ⟨g, 0, none⟩) dLen dCap) (hs : a.eval s = .string x)
    (l : List UInt8) (t : TypeId) (hg : w.heap[g]? = some (.cells (cb l) t (0, 0))) (hl : l.length = dLen)
    (h : wpList P ops Q rest (a.put o.dst (goInt (Nat.min x.size dLen))) (w.setRow g (cb (x.data.toList.take dLen ++ l.drop x.size)))) : wpList P ops Q (o :: rest) a w := by
  refine wpList_plain hgd fun K hK => ?_
  have hlen : ((Lib.byteCells (x.data.toList.take dLen))).length = Nat.min x.size dLen := by simp [Lib.byteCells, Nat.min_comm]
  have hcs : List.take (Nat.min x.size dLen) (List.map (fun b : UInt8 => Value.int .u8 (b.toNat : Int)) x.data.toList) = Lib.byteCells (x.data.toList.take dLen) := by
    simp only [Lib.byteCells, ← List.map_take]
    congr 1
    rcases Nat.le_total x.size dLen with h1 | h1
    · rw [show Nat.min x.size dLen = x.size from Nat.min_eq_left h1, List.take_of_length_le (by simp), List.take_of_length_le (by simpa using h1)]
    · rw [show Nat.min x.size dLen = dLen from Nat.min_eq_right h1]
  have hst := run_storeCells_at P g 0 t (Lib.byteCells (x.data.toList.take dLen)) 0 (cb l) w hg (by rw [hlen, cb_size, hl]; have := Nat.min_le_right x.size dLen; simp only [Nat.zero_add]; exact this) (by intro v hv; simp only [Lib.byteCells, List.mem_map] at hv; obtain ⟨_, _, rfl⟩ := hv; rfl)
  have hrow : ((cb l).toList.take (0 + 0) ++ Lib.byteCells (x.data.toList.take dLen) ++ (cb l).toList.drop (0 + 0 + (Lib.byteCells (x.data.toList.take dLen)).length)).toArray = cb (x.data.toList.take dLen ++ l.drop x.size) := by
    rw [hlen]
    simp only [cb, List.toList_toArray, Nat.zero_add, Nat.add_zero, List.take_zero, List.nil_append]
    congr 1
    rw [Lib.byteCells_append]
    congr 1
    simp only [Lib.byteCells, ← List.map_drop]
    congr 1
    rcases Nat.le_total x.size dLen with h1 | h1
    · rw [show Nat.min x.size dLen = x.size from Nat.min_eq_left h1]
    · rw [show Nat.min x.size dLen = dLen from Nat.min_eq_right h1, List.drop_of_length_le (by omega), List.drop_of_length_le (by omega)]
  rw [hrow] at hst
  cases hq : P.info? elem with
  | none => simp [hq] at hsz
  | some i =>
    have hi : i.size = 1 := by simpa [hq] using hsz
    have hrun : (Builtin.copy_ #[dT, sT] o.type #[.slice (some ⟨g, 0, none⟩) dLen dCap, .string x]).run P w = .ok (goInt (Nat.min x.size dLen)) (w.setRow g (cb (x.data.toList.take dLen ++ l.drop x.size))) := by
      simp [Builtin.copy_, run_underlying hu, Builtin.lenOf, Builtin.firstCells, sizeOf, typeInfo, hq]
      rw [hcs, hst]; rfl
    unfold Oper.wp
    simp [execOp, ho, resolve, invoke, builtin, hd, hs, hrun, Result.andThen]
    exact hK _ _ h
/-- the cells of some bytes, read as a string -/
theorem run_str_cells {P : Program} (w : World) (src e dst : TypeId) (hs : P.underlying src = some (.slice e)) (he : P.underlying e = some (.int .u8)) (hd : P.underlying dst = some .string) (b off len cap : Nat) (l : List UInt8) (hlen : l.length = len)
    (hcell : ∀ i, i < len → w.cell? ⟨b, off + i, none⟩ = (Lib.byteCells l)[i]?) :
    (convert src dst (.slice (some ⟨b, off, none⟩) len cap)).run P w = .ok (.string ⟨l.toArray⟩) w := by
  have h := run_convert_bytes_arg (P := P) w src e hs he b off len cap (l.map fun c => (c.toNat : Int)) (by simpa using hlen) (fun i hi => by
    have hi' : i < l.length := by omega
    rw [hcell i hi]
    simp [Lib.byteCells, List.getD_eq_getElem?_getD, List.getElem?_eq_getElem hi']) dst hd
  rw [h]
  congr 2
  simp [strOfNums, List.map_map, Function.comp_def]
theorem Own.run_str {P : Program} {w : World} {base e : Nat} {v : Value} {n : Nat} {l : List UInt8} (h : Own w base e 1 v n (Lib.byteCells l)) (src dst : TypeId) (hs : P.underlying src = some (.slice e)) (he : P.underlying e = some (.int .u8)) (hd : P.underlying dst = some .string) :
    (convert src dst v).run P w = .ok (.string ⟨l.toArray⟩) w := by
  have hl : l.length = n := by simpa [Lib.byteCells] using h.1
  rcases h.2 with ⟨rfl, rfl⟩ | ⟨g, cap, cur, fz, rfl, hb, hg, _, hc, hm, _, ht⟩
  · have : l = [] := List.eq_nil_of_length_eq_zero hl
    subst this
    rw [run_convert_bytes_nil w src e hs he 0 0 dst hd]; rfl
  · refine run_str_cells w src e dst hs he hd g 0 n cap l hl (fun i hi => ?_)
    rw [Nat.zero_add, cell_of_row w g i cur e fz hg, ← ht, List.getElem?_take, if_pos (by omega)]; simp
end Go.Proofs.YtlegmhmmoadggaaDoor
