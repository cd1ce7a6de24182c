/- Rows of ints and of strings: how they read; rows that the call itself made. -/
import Derived.Test.YtlegmhmmoadggaaDoorWrWalk3
import Derived.Test.YtlegmhmmoadggaaDoorOwnStep
namespace Go.Proofs.YtlegmhmmoadggaaDoor
open Go.RowKit
namespace Wr
theorem add_flat (b o j : Nat) : (⟨b, o, none⟩ : Addr).add j = ⟨b, o + j, none⟩ := by unfold Addr.add; split <;> simp_all
theorem int_info : (Tryd.prog.info? 3).map (fun i => (i.zero, i.size, i.bytes)) = some (some (.int .i64 0), 1, 8) := by kernel_rfl
theorem str_info : (Tryd.prog.info? 9).map (fun i => (i.zero, i.size, i.bytes)) = some (some (.string ⟨#[]⟩), 1, 16) := by kernel_rfl
theorem one_new (x : Value) (w : World) (T : TypeId) : ∀ j u, [x][j]? = some u → (w.alloc (.cells #[x] T)).cell? ((⟨w.heap.size, 0, none⟩ : Addr).add j) = some u := by
  intro j u hj
  match j, hj with
  | 0, hj => simp at hj; subst hj; simp [Addr.add]
theorem one_cell {x : Value} (h : x.oneCell' = true) : ∀ u ∈ [x], u.oneCell' = true := by intro u hu; simp at hu; subst hu; exact h
theorem cell_in {w : World} {a : Addr} {x : Value} (h : w.cell? a = some x) : a.block < w.heap.size := by
  rcases Nat.lt_or_ge a.block w.heap.size with h' | h'
  · exact h'
  · have e : w.heap[a.block]? = none := Array.getElem?_eq_none h'
    simp [World.cell?, e] at h
/-- a slice that reads as a list -/
def LV {α : Type} (enc : α → Value) (w : World) (v : Value) (l : List α) : Prop :=
  ∃ p cap, v = .slice p l.length cap ∧ l.length ≤ cap ∧ cap ≤ maxLen ∧ (l = [] ∨ ∃ b o, p = some ⟨b, o, none⟩ ∧ ∀ i x, l[i]? = some x → w.cell? ⟨b, o + i, none⟩ = some (enc x))
namespace LV
variable {α : Type} {enc : α → Value} {w w' : World} {v : Value} {l : List α}
theorem nil (w : World) : LV enc w (.slice none 0 0) [] := ⟨none, 0, rfl, Nat.le_refl _, Nat.zero_le _, .inl rfl⟩
theorem of_own {base : Nat} {e : TypeId} (h : Own w base e 1 v l.length (l.map enc)) : LV enc w v l := by
  rcases Nat.eq_zero_or_pos l.length with h0 | h0
  · obtain ⟨a, cap, rfl, h1, h2⟩ := h.shape'
    exact ⟨a, cap, rfl, h1, h2, .inl (List.length_eq_zero_iff.1 h0)⟩
  · obtain ⟨g, cap, rfl, _, _, h1, h2, hc⟩ := h.shape h0
    refine ⟨_, cap, rfl, h1, h2, .inr ⟨g, 0, rfl, fun i x hx => ?_⟩⟩
    have hi : i < l.length := (List.getElem?_eq_some_iff.1 hx).1
    rw [Nat.zero_add, hc i (by omega), List.getElem?_map, hx]; rfl
theorem below (h : LV enc w v l) {B : Nat} (hb : Below B w w') (hB : w.heap.size ≤ B) : LV enc w' v l := by
  obtain ⟨p, cap, h1, h2, h3, h4⟩ := h
  refine ⟨p, cap, h1, h2, h3, ?_⟩
  rcases h4 with h4 | ⟨b, o, h5, h6⟩
  · exact .inl h4
  · refine .inr ⟨b, o, h5, fun i x hx => ?_⟩
    have hc := h6 i x hx
    have hlt : b < w.heap.size := cell_in (a := ⟨b, o + i, none⟩) hc
    exact (World.cell?_of_block (w := w) (a := ⟨b, o + i, none⟩) (hb.block b (by omega))).trans hc
theorem cong (h : LV enc w v l) (hk : ∀ b, b < w.heap.size → w'.heap[b]? = w.heap[b]?) : LV enc w' v l := by
  obtain ⟨p, cap, h1, h2, h3, h4⟩ := h
  refine ⟨p, cap, h1, h2, h3, ?_⟩
  rcases h4 with h4 | ⟨b, o, h5, h6⟩
  · exact .inl h4
  · refine .inr ⟨b, o, h5, fun i x hx => ?_⟩
    have hc := h6 i x hx
    have hlt : b < w.heap.size := cell_in (a := ⟨b, o + i, none⟩) hc
    exact (World.cell?_of_block (w := w) (a := ⟨b, o + i, none⟩) (hk b hlt)).trans hc
theorem drewN (h : LV enc w v l) (k : Nat) : LV enc (w.drewN k) v l := h
theorem drew (h : LV enc w v l) : LV enc w.drew v l := h
/-- its parts, for the walk -/
theorem parts (h : LV enc w v l) : ∃ (b o cap : Nat) (p : Option Addr), v = .slice p l.length cap ∧ l.length ≤ cap ∧ cap ≤ maxLen ∧ (0 < l.length → p = some ⟨b, o, none⟩) ∧ ∀ i x, l[i]? = some x → w.cell? ⟨b, o + i, none⟩ = some (enc x) := by
  obtain ⟨p, cap, h1, h2, h3, h4⟩ := h
  rcases h4 with rfl | ⟨b, o, h5, h6⟩
  · exact ⟨0, 0, cap, p, h1, h2, h3, fun h => by simp at h, fun i x hx => by simp at hx⟩
  · exact ⟨b, o, cap, p, h1, h2, h3, fun _ => h5, h6⟩
end LV
end Wr
end Go.Proofs.YtlegmhmmoadggaaDoor
