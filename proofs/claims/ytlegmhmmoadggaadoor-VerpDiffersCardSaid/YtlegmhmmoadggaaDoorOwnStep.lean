/- 'step_append_x': append to an owned slice, at a step of a region that draws its order. -/
import Derived.Test.YtlegmhmmoadggaaDoorOwn
import Derived.Deep.AppendLies
import Derived.Deep.RegionHeld3
namespace Go.Proofs.YtlegmhmmoadggaaDoor
open Go.RowKit
theorem step_append_x {P : Program} {w : World} {ops : Array Oper} {o : Oper} {a : Act} {K : Act → World → Prop} {Q : Exit → Act → World → Prop} {E : Prop} (hgd : o.guard = none) (s x : Operand) (t : TypeId)
    (ho : o.op = .call { callee := .builtin .append, args := #[s, x], argTypes := #[t, t] })
    (base : Nat) (e : TypeId) (i : TypeInfo) (z : Value) (size bytes : Nat) (ht : P.underlying t = some (.slice e)) (hi : P.info? e = some i) (hz : i.zero = some z)
    (hsize : i.size = size) (hby : i.bytes = bytes) (hzs : z.cells.size = size) (hsz : 0 < size)
    (v : Value) (n : Nat) (xs : List Value) (hs : a.eval s = v) (hown : Own w base e size v n xs)
    (ad : Addr) (m c : Nat) (news : List Value) (hx : a.eval x = .slice (some ad) m c) (hl : news.length = m * size) (hnews : ∀ j u, news[j]? = some u → w.cell? (ad.add j) = some u) (h1 : ∀ u ∈ news, u.oneCell' = true)
    (h63 : n + m ≤ maxLen) (hbytes : (n + m) * bytes ≤ 140737488355328) (hbase : base ≤ w.heap.size)
    (h : ∀ v' w', Own w' base e size v' (n + m) (xs ++ news) → w.grownBy w' v.ownBlock → (v' = .slice none 0 0 ↔ v = .slice none 0 0 ∧ m = 0) → (v'.ownBlock = v.ownBlock ∨ ∃ g, v'.ownBlock = some g ∧ w.heap.size ≤ g) → K (a.put o.dst v') w') :
    if Region.wanted o (yielded ops a.tmps) = true then Oper.wp P o a w K Q else E := by
  have hw : Region.wanted o (yielded ops a.tmps) = true := by simp [Region.wanted, hgd]
  rw [if_pos hw]
  exact wp_append_x s x t ho base e i z size bytes ht hi hz hsize hby hzs hsz v n xs hs hown ad m c news hx hl hnews h1 h63 hbytes hbase h
/-- the first bytes of a row are these; none of them is frozen -/
def RowB (w : World) (g : Nat) (e : TypeId) (l : List UInt8) : Prop :=
  ∃ cur fz, w.heap[g]? = some (.cells cur e fz) ∧ l.length ≤ fz.1 ∧ cur.toList.take l.length = Lib.byteCells l
namespace RowB
variable {w : World} {g : Nat} {e : TypeId} {l : List UInt8}
theorem kept {w' : World} (h : RowB w g e l) (hk : w'.heap[g]? = w.heap[g]?) : RowB w' g e l := by
  obtain ⟨cur, fz, h1, r⟩ := h
  exact ⟨cur, fz, hk.trans h1, r⟩
theorem cells (h : RowB w g e l) (i : Nat) (hi : i < l.length) : w.cell? ⟨g, i, none⟩ = (Lib.byteCells l)[i]? := by
  obtain ⟨cur, fz, h1, _, h3⟩ := h
  rw [cell_of_row w g i _ _ _ h1, ← h3, List.getElem?_take, if_pos hi]; simp
theorem cell (h : RowB w g e l) (i : Nat) (hi : i < l.length) : w.cell? ⟨g, i, none⟩ = some (.int .u8 (l.getD i 0).toNat) := by
  rw [h.cells i hi]
  simp [Lib.byteCells, List.getD_eq_getElem?_getD, List.getElem?_eq_getElem hi]
theorem frozen (h : RowB w g e l) (i : Nat) (hi : i < l.length) : w.frozen? ⟨g, i, none⟩ = false := by
  obtain ⟨cur, ⟨lo, hi'⟩, h1, h2, _⟩ := h
  simp only [World.frozen?, h1, Bool.and_eq_false_iff, decide_eq_false_iff_not]
  simp only at h2
  left; omega
theorem stored (h : RowB w g e l) (i : Nat) (x : UInt8) : RowB (w.setCell ⟨g, i, none⟩ (.int .u8 x.toNat)) g e (l.set i x) := by
  obtain ⟨cur, fz, h1, h2, h3⟩ := h
  refine ⟨cur.setIfInBounds i (.int .u8 x.toNat), fz, ?_, by simpa using h2, ?_⟩
  · rw [setCell_eq_setRow w g i cur e fz _ h1]; exact setRow_heap w g cur _ e _ h1
  · rw [List.length_set, Array.toList_setIfInBounds, List.take_set, h3]; simp [Lib.byteCells, List.map_set]
theorem lt (h : RowB w g e l) : g < w.heap.size := by obtain ⟨cur, fz, h1, _⟩ := h; exact lt_block h1
end RowB
/-- '[]byte(s)', its row -/
theorem wpList_to_bytes_row {P : Program} {w : World} {ops : Array Oper} {rest : List Oper} {o : Oper} {a : Act} {Q : Exit → Act → World → Prop} (hgd : o.guard = none) (src dst e : TypeId) (x : Operand)
    (ho : o.op = .convert src dst x) (s : ByteArray) (hx : a.eval x = .string s) (hs : P.underlying src = some .string) (hd : P.underlying dst = some (.slice e)) (he : P.underlying e = some (.int .u8))
    (hm : s.size ≤ maxLen)
    (h : ∀ cap w', s.size ≤ cap → cap ≤ maxLen → RowB w' w.heap.size e s.data.toList → Below w.heap.size w w' → wpList P ops Q rest (a.put o.dst (.slice (some ⟨w.heap.size, 0, none⟩) s.size cap)) w') : wpList P ops Q (o :: rest) a w := by
  refine wpList_plain hgd fun K hK => ?_
  have hr := run_bytes_of_string (P := P) w src dst e s hs hd he
  have hge := grownCap_ge w s.size 0 e
  have hcm : grownCap w s.size 0 e ≤ maxLen := grownCap_le_maxLen w s.size 0 e hm
  unfold Oper.wp execOp
  simp only [ho, hx, Sem.run_bind, Sem.run_pure, Result.andThen_ok, hr]
  refine hK _ _ (h _ _ hge hcm ⟨_, _, heap_alloc_new w.drew _, ?_, ?_⟩ ?_)
  · simp only [bytesRow_size s _ hge]; simpa using hge
  · simpa using bytesRow_take s _
  · exact ((Below.refl w.heap.size w).drew).alloc (Nat.le_refl _) _
end Go.Proofs.YtlegmhmmoadggaaDoor
