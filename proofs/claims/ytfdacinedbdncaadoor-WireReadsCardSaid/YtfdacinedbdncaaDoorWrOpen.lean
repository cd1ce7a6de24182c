/- Opening the arguments: a value, a list of values, a list of ints. -/
import Derived.Test.YtfdacinedbdncaaDoorWrFew
import Derived.SliceStrings
import Derived.ChangeSlices
import Derived.ProofKit
import Derived.OpenShut
import Derived.Lib.SmallJoins
import Derived.Deep.Slices
import Derived.Deep.Fields
import Derived.ChangeSame
namespace Go.Proofs.YtfdacinedbdncaaDoor
open Go.RowKit Go.ChangeShapes Go.WideShapes Go.ChangeAt Go.Deep Go.Joins
namespace Wr
section
variable {H : Type} {enc : TypeId × Value → H} {P : Program} {w : World} {base : Nat} {spare : Nat → Bool} {held : Bool}
/-- the fields of some cells that read as a struct of one-cell fields -/
theorem struct_fields {e : TypeId} {fs : Array Field} {n : Nat} {cs : List Value} {x : DataW H × List MemPlace} (he : P.underlying e = some (.struct fs)) (hone : oneCellFields P fs = true) (hlen : cs.length = fs.size)
    (h : DataW.trod enc P w base spare held n e cs = some x) :
    ∃ m : Nat, ∀ (j : Nat) (f : Field), fs[j]? = some f → ∃ (v : Value) (y : DataW H × List MemPlace), cs[j]? = some v ∧ DataW.trod enc P w base spare held m f.type [v] = some y := by
  obtain ⟨ys, m, _, _, _, hyl, hf⟩ := DataW.trod_struct he h
  refine ⟨m, fun j f hj => ?_⟩
  obtain ⟨ho, hk⟩ := hone_of hone j f hj
  have hjl : j < fs.size := (Array.getElem?_eq_some_iff.1 hj).1
  have h1 := hf j f hj
  rw [ho, hk] at h1
  have hone' : (cs.drop j).take 1 = [cs[j]'(by omega)] := by
    rw [List.drop_eq_getElem_cons (by omega)]
    rfl
  rw [hone'] at h1
  exact ⟨cs[j]'(by omega), ys[j]'(by omega), List.getElem?_eq_getElem (by omega), h1.trans (List.getElem?_eq_getElem (by omega))⟩
end
section
variable {H : Type} {enc : TypeId × Value → H} {w : World} {base : Nat} {spare : Nat → Bool} {held : Bool}
theorem i64_wf {n : Int} (h : (Lit.int .i64 n).wf = true) : I64 n := by
  have e1 : IntKind.i64.min = -9223372036854775808 := rfl
  have e2 : IntKind.i64.max = 9223372036854775807 := rfl
  simp [Lit.wf, e1, e2] at h
  exact h
theorem lv_ints {n : Nat} {v : Value} {y : DataW H × List MemPlace} (h : DataW.trod enc Tryd.prog w base spare held n 22 [v] = some y) : ∃ l, LV vi w v l ∧ ∀ z ∈ l, I64 z := by
  rcases open_ints Tryd.underlying22 Tryd.underlying3 (by kernel_rfl) h with ⟨h0, _⟩ | ⟨a, len, cap, zs, hcs, _, hlc, hcm, hlen, _, hcell, hwf⟩
  · simp only [List.cons.injEq, and_true] at h0
    subst h0
    exact ⟨[], LV.nil w, by simp⟩
  · simp only [List.cons.injEq, and_true] at hcs
    subst hcs
    have hl : len ≤ zs.length := by rw [hlen]; split <;> omega
    have htl : (zs.take len).length = len := by rw [List.length_take]; omega
    refine ⟨zs.take len, ⟨_, cap, by rw [htl], by rw [htl]; exact hlc, hcm, ?_⟩, fun z hz => i64_wf (hwf z (List.mem_of_mem_take hz))⟩
    rcases Nat.eq_zero_or_pos len with h0 | h0
    · left; exact List.length_eq_zero_iff.1 (by omega)
    · obtain ⟨b, o, sp⟩ := a
      have c0 := hcell 0 (by omega)
      have hsp : sp = none := by simpa [Addr.add] using World.cell?_spot c0
      subst hsp
      refine .inr ⟨b, o, rfl, fun i x hx => ?_⟩
      have hi : i < len := by have := (List.getElem?_eq_some_iff.1 hx).1; omega
      have := hcell i (by omega)
      rw [add_flat] at this
      rw [this]
      rw [List.getElem?_take, if_pos hi] at hx
      simp [List.getD_eq_getElem?_getD, hx]
theorem lv_strs {n : Nat} {v : Value} {y : DataW H × List MemPlace} (h : DataW.trod enc Tryd.prog w base spare held n 23 [v] = some y) : ∃ l, LV vs w v l := by
  rcases open_strings Tryd.underlying23 Tryd.underlying9 (by kernel_rfl) h with ⟨h0, _⟩ | ⟨a, len, cap, ss, hcs, _, hlc, hcm, hlen, _, hcell, hsz⟩
  · simp only [List.cons.injEq, and_true] at h0
    subst h0
    exact ⟨[], LV.nil w⟩
  · simp only [List.cons.injEq, and_true] at hcs
    subst hcs
    have hl : len ≤ ss.length := by rw [hlen]; split <;> omega
    have htl : ((ss.take len).map fun s => s.data.toList).length = len := by rw [List.length_map, List.length_take]; omega
    refine ⟨(ss.take len).map fun s => s.data.toList, ⟨_, cap, by rw [htl], by rw [htl]; exact hlc, hcm, ?_⟩⟩
    rcases Nat.eq_zero_or_pos len with h0 | h0
    · left; exact List.length_eq_zero_iff.1 (by omega)
    · obtain ⟨b, o, sp⟩ := a
      have c0 := hcell 0 (by omega)
      have hsp : sp = none := by simpa [Addr.add] using World.cell?_spot c0
      subst hsp
      refine .inr ⟨b, o, rfl, fun i x hx => ?_⟩
      have hi : i < len := by have := (List.getElem?_eq_some_iff.1 hx).1; omega
      have := hcell i (by omega)
      rw [add_flat] at this
      rw [this]
      rw [List.getElem?_map, List.getElem?_take, if_pos hi] at hx
      obtain ⟨s, hs, rfl⟩ := Option.map_eq_some_iff.1 hx
      simp [List.getD_eq_getElem?_getD, hs]
/-- five cells that read as a value -/
theorem value_cells {n : Nat} {cs : List Value} {y : DataW H × List MemPlace} (hlen : cs.length = 5) (h : DataW.trod enc Tryd.prog w base spare held n 25 cs = some y) :
    ∃ (x : Vl) (p1 p2 : Option Addr) (c1 c2 : Nat), cs = [.int .i64 x.kind, .int .i64 x.n, .string (bs x.s), .slice p1 x.li.length c1, .slice p2 x.lt.length c2] ∧ LV vi w (.slice p1 x.li.length c1) x.li ∧ LV vs w (.slice p2 x.lt.length c2) x.lt ∧ x.Ok := by
  obtain ⟨m, hm⟩ := struct_fields Tryd.underlying25 (by kernel_rfl) (by rw [hlen]; rfl) h
  obtain ⟨v0, y0, k0, t0⟩ := hm 0 _ rfl
  obtain ⟨v1, y1, k1, t1⟩ := hm 1 _ rfl
  obtain ⟨v2, y2, k2, t2⟩ := hm 2 _ rfl
  obtain ⟨v3, y3, k3, t3⟩ := hm 3 _ rfl
  obtain ⟨v4, y4, k4, t4⟩ := hm 4 _ rfl
  obtain ⟨x0, e0, g0⟩ := DataW.trod_int Tryd.underlying3 t0
  obtain ⟨x1, e1, g1⟩ := DataW.trod_int Tryd.underlying3 t1
  obtain ⟨x2, e2, _, g2⟩ := DataW.trod_string Tryd.underlying9 t2
  obtain ⟨l3, g3, o3⟩ := lv_ints t3
  obtain ⟨l4, g4⟩ := lv_strs t4
  cases e0; cases e1; cases e2
  obtain ⟨p3, c3, rfl, a1, a2, a3⟩ := g3
  obtain ⟨p4, c4, rfl, b1, b2, b3⟩ := g4
  match cs, hlen with
  | [u0, u1, u2, u3, u4], _ =>
    simp only [List.getElem?_cons_zero, List.getElem?_cons_succ, Option.some.injEq] at k0 k1 k2 k3 k4
    subst k0 k1 k2 k3 k4
    exact ⟨⟨x0, x1, x2.data.toList, l3, l4⟩, p3, p4, c3, c4, by simp, ⟨p3, c3, rfl, a1, a2, a3⟩, ⟨p4, c4, rfl, b1, b2, b3⟩, ⟨i64_wf g0.2, i64_wf g1.2, o3⟩⟩
set_option maxRecDepth 100000 in
/-- a value that came in by value -/
theorem open_value {r : Reach} {b0 : Nat} {v : Value} {d : DataW H} {p : List MemPlace} (hv : Value.okWide Tryd.prog w r b0 25 v) (h : DataW.Trod enc Tryd.prog w base spare held 25 v d p) :
    ∃ (x : Vl) (p1 p2 : Option Addr) (c1 c2 : Nat), v = .agg #[.int .i64 x.kind, .int .i64 x.n, .string (bs x.s), .slice p1 x.li.length c1, .slice p2 x.lt.length c2] ∧ LV vi w (.slice p1 x.li.length c1) x.li ∧ LV vs w (.slice p2 x.lt.length c2) x.lt ∧ x.Ok := by
  obtain ⟨cs, rfl, hsz⟩ := okWide_struct Tryd.underlying25 hv
  have hC : Tryd.prog.cellsOf 25 = 5 := by kernel_rfl
  obtain ⟨fuel, hf⟩ := h
  obtain ⟨l⟩ := cs
  obtain ⟨x, p1, p2, c1, c2, e, r1, r2, r3⟩ := value_cells (cs := l) (by rw [hC] at hsz; exact hsz) hf
  exact ⟨x, p1, p2, c1, c2, by rw [e], r1, r2, r3⟩
theorem exists_list {α : Type} {n : Nat} {p : Nat → α → Prop} (h : ∀ i, i < n → ∃ x, p i x) : ∃ l : List α, l.length = n ∧ ∀ i x, l[i]? = some x → p i x := by
  induction n with
  | zero => exact ⟨[], rfl, fun i x hi => by simp at hi⟩
  | succ n ih =>
    obtain ⟨l, hl, hp⟩ := ih (fun i hi => h i (by omega))
    obtain ⟨y, hy⟩ := h n (by omega)
    refine ⟨l ++ [y], by simp [hl], fun i x hi => ?_⟩
    by_cases c : i < l.length
    · rw [List.getElem?_append_left c] at hi; exact hp i x hi
    · have hi2 : i < (l ++ [y]).length := (List.getElem?_eq_some_iff.1 hi).1
      have : i = n := by simp at hi2; omega
      subst this
      rw [List.getElem?_append_right (by omega)] at hi
      simp [hl] at hi
      subst hi
      exact hy
set_option maxRecDepth 100000 in
/-- a list of values that came in -/
theorem open_values {r : Reach} {b0 : Nat} {v : Value} {d : DataW H} {p : List MemPlace} (hv : Value.okWide Tryd.prog w r b0 28 v) (h : DataW.Trod enc Tryd.prog w base spare held 28 v d p) :
    ∃ l : List Vl, LVs w v l := by
  obtain ⟨a0, len, cap, rfl⟩ := okWide_slice Tryd.underlying28 hv
  obtain ⟨fuel, hf⟩ := h
  have hC : Tryd.prog.cellsOf 25 = 5 := by kernel_rfl
  rcases open_slice Tryd.underlying28 hf with h0 | ⟨a, len', cap', m, n, D, Pl, hcs, _, hlc, hcm, hmm, _, hi⟩
  · have h1 := h0.1
    simp only [Value.cells, List.cons.injEq, Value.slice.injEq, and_true] at h1
    obtain ⟨rfl, rfl, rfl⟩ := h1
    exact ⟨[], none, 0, rfl, Nat.le_refl _, Nat.zero_le _, .inl rfl⟩
  · simp only [Value.cells, List.cons.injEq, Value.slice.injEq, and_true] at hcs
    obtain ⟨rfl, rfl, rfl⟩ := hcs
    obtain ⟨b, o, sp⟩ := a
    rw [hC] at hi
    have hev : ∀ i, i < len → ∃ x : Vl, sp = none ∧ ∃ p1 p2 c1 c2, VAt w b (o + i * 5) x p1 p2 c1 c2 := by
      intro i hil
      have him : i < m := by rw [hmm]; split <;> omega
      obtain ⟨cs', hc, ht'⟩ := hi i him
      obtain ⟨_, hcl, hat⟩ := World.cells?_some hc
      obtain ⟨x, p1, p2, c1, c2, e, r1, r2, r3⟩ := value_cells (by omega) ht'
      subst e
      obtain ⟨cs0, hc0, _⟩ := hi 0 (by rw [hmm]; split <;> omega)
      obtain ⟨_, _, hat0⟩ := World.cells?_some hc0
      have hsp : sp = none := by
        have h1 := hat0 0 (by omega)
        have hl0 : cs0.length = 5 := by obtain ⟨_, q, _⟩ := World.cells?_some hc0; omega
        rw [List.getElem?_eq_getElem (by omega)] at h1
        simpa [Addr.add] using World.cell?_spot h1
      subst hsp
      have hat' : ∀ j, j < 5 → w.cell? ⟨b, o + i * 5 + j, none⟩ = [Value.int .i64 x.kind, .int .i64 x.n, .string (bs x.s), .slice p1 x.li.length c1, .slice p2 x.lt.length c2][j]? := by
        intro j hj
        have := hat j hj
        rw [add_flat, add_flat] at this
        exact this
      exact ⟨x, rfl, p1, p2, c1, c2, hat' 0 (by omega), hat' 1 (by omega), hat' 2 (by omega), hat' 3 (by omega), hat' 4 (by omega), r1, r2, r3⟩
    obtain ⟨l, hl, hp⟩ := exists_list hev
    subst hl
    refine ⟨l, _, _, rfl, hlc, hcm, ?_⟩
    by_cases h0 : l = []
    · exact .inl h0
    · have hpos : 0 < l.length := List.length_pos_iff.2 h0
      have hsp := (hp 0 l[0] (List.getElem?_eq_getElem hpos)).1
      subst hsp
      exact .inr ⟨b, o, rfl, fun i x hx => (hp i x hx).2⟩
theorem lvs_ok {v : Value} {l : List Vl} (h : LVs w v l) : ∀ y ∈ l, y.Ok := by
  intro y hy
  obtain ⟨i, hi, rfl⟩ := List.getElem_of_mem hy
  obtain ⟨p, cap, _, _, _, h4⟩ := h
  rcases h4 with rfl | ⟨b, o, _, h6⟩
  · cases hy
  · obtain ⟨p1, p2, c1, c2, hV⟩ := h6 i l[i] (List.getElem?_eq_getElem hi)
    exact hV.ok
set_option maxRecDepth 100000 in
/-- a list of ints that came in -/
theorem open_lints {r : Reach} {b0 : Nat} {v : Value} {d : DataW H} {p : List MemPlace} (hv : Value.okWide Tryd.prog w r b0 22 v) (h : DataW.Trod enc Tryd.prog w base spare held 22 v d p) :
    ∃ l, LV vi w v l ∧ ∀ z ∈ l, I64 z := by
  obtain ⟨a0, len, cap, rfl⟩ := okWide_slice Tryd.underlying22 hv
  obtain ⟨fuel, hf⟩ := h
  exact lv_ints hf
end
end Wr
end Go.Proofs.YtfdacinedbdncaaDoor
