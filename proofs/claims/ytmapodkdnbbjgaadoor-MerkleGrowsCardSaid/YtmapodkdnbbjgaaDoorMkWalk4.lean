/- slices.Reverse at a slice of the call's own; merkle.Path, merkle.Grown: the walks. -/
import Derived.Test.YtmapodkdnbbjgaaDoorMkWalk3
import Derived.Laws.IdiomCopy
namespace Go.Proofs.YtmapodkdnbbjgaaDoor
open Go.RowKit Mk Sl
theorem list_set_cells (xs r : List Value) (o : Nat) (v : Value) (h : o < xs.length) : (xs.set o v).take (o + 1) ++ r ++ (xs.set o v).drop (o + 1 + r.length) = xs.take o ++ (v :: r) ++ xs.drop (o + (r.length + 1)) := by
  have e1 : (xs.set o v).take (o + 1) = xs.take o ++ [v] := by
    rw [List.take_succ_eq_append_getElem (by simpa using h)]
    rw [List.take_set, List.set_eq_of_length_le (by rw [List.length_take]; omega), List.getElem_set_self]
  have e2 : (xs.set o v).drop (o + 1 + r.length) = xs.drop (o + (r.length + 1)) := by
    rw [List.drop_set_of_lt (by omega)]; congr 1; omega
  rw [e1, e2]; simp
theorem own_setCells {base e : Nat} {g n cap : Nat} : ∀ (vs : List Value) (o : Nat) (w : World) (xs : List Value), w.ownsRow base e 1 (.slice (some ⟨g, 0, none⟩) n cap) n xs → o + vs.length ≤ xs.length →
    (w.setCells g o vs).ownsRow base e 1 (.slice (some ⟨g, 0, none⟩) n cap) n (xs.take o ++ vs ++ xs.drop (o + vs.length))
  | [], o, w, xs, h, _ => by simpa [World.setCells] using h
  | v :: r, o, w, xs, h, hl => by
    have ih := own_setCells r (o + 1) (w.setCell ⟨g, o, none⟩ v) (xs.set o v) (h.stored o v).1 (by simp at hl ⊢; omega)
    rw [list_set_cells xs r o v (by simp at hl; omega)] at ih
    exact ih
theorem below_setCellsB {B : Nat} {a : World} (b : Nat) (hb : B ≤ b) : ∀ (vs : List Value) (o : Nat) {w : World}, Below B a w → Below B a (w.setCells b o vs)
  | [], _, _, h => h
  | v :: r, o, _, h => below_setCellsB b hb r (o + 1) (h.setCell (p := ⟨b, o, none⟩) hb v)
theorem rev_cells (l : List ByteArray) : (Lib.strsOf (fun i => l.getD i ⟨#[]⟩) l.length).reverse.map encStr = l.reverse.map Value.string := by
  have e : (Lib.strsOf (fun i => l.getD i ⟨#[]⟩) l.length).map encStr = l.map Value.string := by
    unfold Lib.strsOf
    rw [List.map_map]
    apply List.ext_getElem
    · simp
    · intro i h1 h2
      simp only [List.length_map, List.length_range] at h1
      simp [encStr, List.getD_eq_getElem?_getD, List.getElem?_eq_getElem h1]
  rw [List.map_reverse, e, List.map_reverse]
theorem rev_any (l : List ByteArray) (v : Value) (w : World) (B : Nat) (hl : l.length ≤ 1000000) (ho : SO w B v l) :
    Calls Tryd.prog 36 #[v] w fun e w' => e = .returned (.tuple #[]) ∧ SO w' B v l.reverse ∧ Below B w w' := by
  have hown := ho
  rcases ho.2 with ⟨rfl, hn⟩ | ⟨g, cap, cur, rfl, hb, hg, hc, hm, hs, ht⟩
  · obtain rfl := List.length_eq_zero_iff.1 hn
    refine (Tryd.slices_Reverse_string_empty none 0 w).mono ?_
    rintro e w' ⟨rfl, rfl⟩
    exact ⟨rfl, by simpa using ho, Below.refl _ _⟩
  · obtain ⟨p', cap', h1, _, _, hat⟩ := ho.sv
    have hcell : ∀ i, i < l.length → w.cell? ⟨g, 0 + i, none⟩ = some (.string (l.getD i ⟨#[]⟩)) := by
      intro i hi
      rcases hat with rfl | ⟨b, o, hp, hr⟩
      · simp at hi
      · simp only [Value.slice.injEq] at h1
        rw [hp] at h1
        simp only [Option.some.injEq, Addr.mk.injEq] at h1
        obtain ⟨⟨rfl, rfl, _⟩, _⟩ := h1
        exact hr i hi
    refine (Tryd.slices_Reverse_string_cells g 0 l.length cap (fun i => l.getD i ⟨#[]⟩) w (by omega) hcell (fun j hj => by rw [Nat.zero_add]; exact World.ownsRow.frozenAt hown j)).mono ?_
    rintro e w' ⟨rfl, q, rfl⟩
    rw [rev_cells]
    have hx := own_setCells (base := B) (e := 9) (l.reverse.map Value.string) 0 (w.drewN q) (l.map Value.string) hown (by simp)
    refine ⟨rfl, ?_, below_setCellsB g hb _ 0 (below_drewN (Below.refl _ _) q)⟩
    unfold SO
    rw [List.length_reverse]
    have ed : (l.map Value.string).drop (0 + (l.reverse.map Value.string).length) = [] := List.drop_of_length_le (by simp)
    rw [ed, List.take_zero, List.nil_append, List.append_nil] at hx
    exact hx
end Go.Proofs.YtmapodkdnbbjgaaDoor
