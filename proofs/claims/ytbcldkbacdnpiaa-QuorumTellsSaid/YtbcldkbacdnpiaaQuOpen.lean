/- Opening the arguments: a quorum, a list of events, one event. -/
import Derived.Test.YtbcldkbacdnpiaaQuDecide
import Derived.Lib.SmallJoins
import Derived.Deep.Slices
import Derived.Deep.Fields
import Derived.ChangeSame
namespace Go.Proofs.Ytbcldkbacdnpiaa
open Go.RowKit Go.ChangeShapes Go.WideShapes Go.Deep Go.Joins Qu
section
variable {H : Type} {enc : TypeId × Value → H} {P : Program} {w : World} {base : Nat} {spare : Nat → Bool} {held : Bool}
theorem open_slice_fields {t e : TypeId} {fs : Array Field} {fuel : Nat} {cs : List Value} {x : DataW H × List MemPlace} (ht : P.underlying t = some (.slice e)) (he : P.underlying e = some (.struct fs))
    (hone : oneCellFields P fs = true) (hC : P.cellsOf e = fs.size) (h : DataW.trod enc P w base spare held fuel t cs = some x) :
    (cs = [.slice none 0 0]) ∨
    ∃ (a : Addr) (len cap : Nat), cs = [.slice (some a) len cap] ∧ len ≤ cap ∧ cap ≤ maxLen ∧
      ∀ i, i < len → ∃ (n : Nat), ∀ (j : Nat) (f : Field), fs[j]? = some f → ∃ (v : Value) (y : DataW H × List MemPlace), w.cell? (a.add (i * fs.size + j)) = some v ∧ DataW.trod enc P w base spare held n f.type [v] = some y := by
  rcases open_slice ht h with h0 | ⟨a, len, cap, m, n, D, Pl, hcs, hb, hl, hm, hmm, hx, hi⟩
  · exact .inl h0.1
  · refine .inr ⟨a, len, cap, hcs, hl, hm, fun i hil => ?_⟩
    have him : i < m := by rw [hmm]; split <;> omega
    obtain ⟨cs', hc, ht'⟩ := hi i him
    rw [hC] at hc
    obtain ⟨ys, n', hn', hy, hlen, hyl, hf⟩ := DataW.trod_struct he ht'
    obtain ⟨_, hcl, hat⟩ := World.cells?_some hc
    refine ⟨n', fun j f hj => ?_⟩
    obtain ⟨ho, hk⟩ := hone_of hone j f hj
    have hjl : j < fs.size := (Array.getElem?_eq_some_iff.1 hj).1
    have hcell := hat j hjl
    have hv : cs'[j]? = some (cs'[j]'(by omega)) := List.getElem?_eq_getElem (by omega)
    have h1 := hf j f hj
    rw [ho, hk] at h1
    have hone' : (cs'.drop j).take 1 = [cs'[j]'(by omega)] := by
      rw [List.drop_eq_getElem_cons (by omega)]
      rfl
    rw [hone'] at h1
    have hys : ys[j]? = some (ys[j]'(by omega)) := List.getElem?_eq_getElem (by omega)
    refine ⟨_, _, ?_, h1.trans hys⟩
    rw [← Go.Deep.add_add, hcell, hv]
end
section
variable {H : Type} {enc : TypeId × Value → H} {w : World} {base : Nat} {spare : Nat → Bool} {held : Bool}
theorem open_quorum {r : Reach} {b0 : Nat} {v : Value} {d : DataW H} {p : List MemPlace} (hv : Value.okWide Try.prog w r b0 23 v) (h : DataW.Trod enc Try.prog w base spare held 23 v d p) :
    ∃ q : Q, v = qval q := by
  obtain ⟨v0, v1, v2, v3, y0, y1, y2, y3, n, rfl, _, _, h0, h1, h2, h3⟩ := open_agg4 Try.underlying23 (by kernel_rfl) (by kernel_rfl) hv h
  obtain ⟨a0, e0, _⟩ := DataW.trod_int Try.underlying3 h0
  obtain ⟨a1, e1, _⟩ := DataW.trod_int Try.underlying3 h1
  obtain ⟨a2, e2, _⟩ := DataW.trod_int Try.underlying3 h2
  obtain ⟨a3, e3, _⟩ := DataW.trod_bool Try.underlying4 h3
  cases e0; cases e1; cases e2; cases e3
  exact ⟨⟨a0, a1, a2, a3⟩, rfl⟩
theorem open_event {r : Reach} {b0 : Nat} {v : Value} {d : DataW H} {p : List MemPlace} (hv : Value.okWide Try.prog w r b0 31 v) (h : DataW.Trod enc Try.prog w base spare held 31 v d p) :
    ∃ e : Ev, v = evval e ∧ EvOk e := by
  obtain ⟨v0, v1, v2, v3, y0, y1, y2, y3, n, rfl, _, _, h0, h1, h2, h3⟩ := open_agg4 Try.underlying31 (by kernel_rfl) (by kernel_rfl) hv h
  obtain ⟨a0, e0, _⟩ := DataW.trod_int Try.underlying3 h0
  obtain ⟨a1, e1, _⟩ := DataW.trod_int Try.underlying3 h1
  obtain ⟨a2, e2, _, s2⟩ := DataW.trod_string Try.underlying9 h2
  obtain ⟨a3, e3, _, s3⟩ := DataW.trod_string Try.underlying9 h3
  cases e0; cases e1; cases e2; cases e3
  exact ⟨⟨a0, a1, a2, a3⟩, rfl, ⟨s2, s3⟩⟩
theorem exists_list {α : Type} {n : Nat} {p : Nat → α → Prop} (h : ∀ i, i < n → ∃ x, p i x) : ∃ l : List α, l.length = n ∧ ∀ i (hi : i < l.length), p i (l[i]'hi) := by
  induction n with
  | zero => exact ⟨[], rfl, fun i hi => by simp at hi⟩
  | succ n ih =>
    obtain ⟨l, hl, hp⟩ := ih (fun i hi => h i (by omega))
    obtain ⟨x, hx⟩ := h n (by omega)
    refine ⟨l ++ [x], by simp [hl], fun i hi => ?_⟩
    by_cases c : i < l.length
    · rw [List.getElem_append_left c]; exact hp i c
    · have : i = n := by simp at hi; omega
      subst this
      rw [List.getElem_append_right (by omega)]
      simpa [hl] using hx
theorem open_evs {r : Reach} {b0 : Nat} {v : Value} {d : DataW H} {p : List MemPlace} (hv : Value.okWide Try.prog w r b0 24 v) (h : DataW.Trod enc Try.prog w base spare held 24 v d p) :
    ∃ (l : List Ev) (a : Option Addr) (cap : Nat), v = .slice a l.length cap ∧ EvsAt w a l ∧ l.length ≤ maxLen ∧ l.length ≤ cap ∧ cap ≤ maxLen := by
  obtain ⟨a0, len, cap, rfl⟩ := okWide_slice Try.underlying24 hv
  obtain ⟨fuel, hf⟩ := h
  rcases open_slice_fields Try.underlying24 Try.underlying31 (by kernel_rfl) (by kernel_rfl) hf with h0 | ⟨a, len', cap', hcs, hlc, hcm, hi⟩
  · simp only [Value.cells, List.cons.injEq, Value.slice.injEq, and_true] at h0
    obtain ⟨rfl, rfl, rfl⟩ := h0
    exact ⟨[], none, 0, rfl, .inl rfl, Nat.zero_le _, Nat.le_refl _, Nat.zero_le _⟩
  · simp only [Value.cells, List.cons.injEq, Value.slice.injEq, and_true] at hcs
    obtain ⟨rfl, rfl, rfl⟩ := hcs
    obtain ⟨b, o, sp⟩ := a
    have hev : ∀ i, i < len → ∃ e : Ev, EvOk e ∧ sp = none ∧ w.cell? ⟨b, o + i * 4, none⟩ = some (.int .i64 e.when) ∧ w.cell? ⟨b, o + i * 4 + 1, none⟩ = some (.int .i64 e.kind) ∧ w.cell? ⟨b, o + i * 4 + 2, none⟩ = some (.string e.user) ∧ w.cell? ⟨b, o + i * 4 + 3, none⟩ = some (.string e.name) := by
      intro i hil
      obtain ⟨n, hn⟩ := hi i hil
      obtain ⟨v0, y0, c0, t0⟩ := hn 0 _ rfl
      obtain ⟨v1, y1, c1, t1⟩ := hn 1 _ rfl
      obtain ⟨v2, y2, c2, t2⟩ := hn 2 _ rfl
      obtain ⟨v3, y3, c3, t3⟩ := hn 3 _ rfl
      obtain ⟨x0, e0, _⟩ := DataW.trod_int Try.underlying3 t0
      obtain ⟨x1, e1, _⟩ := DataW.trod_int Try.underlying3 t1
      obtain ⟨x2, e2, _, s2⟩ := DataW.trod_string Try.underlying9 t2
      obtain ⟨x3, e3, _, s3⟩ := DataW.trod_string Try.underlying9 t3
      cases e0; cases e1; cases e2; cases e3
      obtain ⟨_, hz, _⟩ : ∃ y, hi 0 (by omega) = y ∧ True := ⟨_, rfl, trivial⟩
      obtain ⟨n', hn'⟩ := hi 0 (by omega)
      obtain ⟨v0', _, c0', _⟩ := hn' 0 _ rfl
      have hsp : sp = none := by simpa [Addr.add] using World.cell?_spot c0'
      subst hsp
      rw [add_plain] at c0 c1 c2 c3
      exact ⟨⟨x0, x1, x2, x3⟩, ⟨s2, s3⟩, rfl, c0, by rw [Nat.add_assoc]; exact c1, by rw [Nat.add_assoc]; exact c2, by rw [Nat.add_assoc]; exact c3⟩
    obtain ⟨l, hl, hp⟩ := exists_list hev
    subst hl
    refine ⟨l, some ⟨b, o, sp⟩, cap, rfl, ?_, by omega, hlc, hcm⟩
    by_cases h0 : l = []
    · exact .inl h0
    · have hpos : 0 < l.length := List.length_pos_iff.2 h0
      have hsp := (hp 0 hpos).2.1
      subst hsp
      refine .inr ⟨b, o, rfl, ⟨fun i hi => (hp i hi).2.2.1, fun i hi => (hp i hi).2.2.2.1, fun i hi => (hp i hi).2.2.2.2.1, fun i hi => (hp i hi).2.2.2.2.2, fun e he => ?_⟩⟩
      obtain ⟨i, hi, rfl⟩ := List.getElem_of_mem he
      exact (hp i hi).1
end
end Go.Proofs.Ytbcldkbacdnpiaa
