/- MerklePaths: the plain law. -/
import Derived.Test.YtmapodkdnbbjgaaDoorMkRef6
import Derived.Test.YtmapodkdnbbjgaaDoorMkRef5
namespace Go.Proofs.YtmapodkdnbbjgaaDoor
open Go.RowKit Mk Sl
namespace Mk
theorem byR_own (N : Nat) : ∀ (l : List ByteArray) (i : Nat), l.length ≤ N → i < l.length → byR l.length i (l.getD i ⟨#[]⟩) (path l i).reverse = (root l, true) := by
  induction N with
  | zero => intro l i h hi; omega
  | succ N ih =>
    intro l i h hi
    by_cases h2 : l.length < 2
    · have h1 : l.length = 1 := by omega
      obtain ⟨a, rfl⟩ := List.length_eq_one_iff.1 h1
      obtain rfl : i = 0 := by simp at hi; exact hi
      rw [path_small _ _ (by simp), root_one]
      simp [byR]
    · have hlt := split_lt l.length (by omega)
      have hpos := split_pos l.length
      rw [root_step l (by omega)]
      by_cases hk : i < split l.length
      · rw [path_left l i (by omega) hk, List.reverse_append]
        show byR _ _ _ (root (l.drop (split l.length)) :: (path (l.take (split l.length)) i).reverse) = _
        rw [byR, if_neg (by omega), if_pos hk]
        have hl : (l.take (split l.length)).length = split l.length := by rw [List.length_take]; omega
        have := ih (l.take (split l.length)) i (by rw [hl]; omega) (by rw [hl]; exact hk)
        have hg : (l.take (split l.length)).getD i ⟨#[]⟩ = l.getD i ⟨#[]⟩ := by simp [List.getD_eq_getElem?_getD, hk]
        rw [hl, hg] at this
        rw [this]
      · rw [path_right l i (by omega) hk, List.reverse_append]
        show byR _ _ _ (root (l.take (split l.length)) :: (path (l.drop (split l.length)) (i - split l.length)).reverse) = _
        rw [byR, if_neg (by omega), if_neg hk]
        have hl : (l.drop (split l.length)).length = l.length - split l.length := by rw [List.length_drop]
        have := ih (l.drop (split l.length)) (i - split l.length) (by rw [hl]; omega) (by rw [hl]; omega)
        have hg : (l.drop (split l.length)).getD (i - split l.length) ⟨#[]⟩ = l.getD i ⟨#[]⟩ := by
          simp [List.getD_eq_getElem?_getD, show split l.length + (i - split l.length) = i by omega]
        rw [hl, hg] at this
        rw [this]
theorem path_32 (N : Nat) : ∀ (l : List ByteArray) (i : Nat), l.length ≤ N → All32 l → All32 (path l i) := by
  induction N with
  | zero => intro l i h _; rw [path_small _ _ (by omega)]; intro s hs; cases hs
  | succ N ih =>
    intro l i h ha
    by_cases h2 : l.length < 2
    · rw [path_small _ _ h2]; intro s hs; cases hs
    · have hlt := split_lt l.length (by omega)
      have hpos := split_pos l.length
      by_cases hk : i < split l.length
      · rw [path_left l i (by omega) hk]
        intro s hs
        rcases List.mem_append.1 hs with hs | hs
        · exact ih _ _ (by rw [List.length_take]; omega) (ha.take _) s hs
        · simp only [List.mem_singleton] at hs; subst hs; exact root_32 _ (ha.drop _)
      · rw [path_right l i (by omega) hk]
        intro s hs
        rcases List.mem_append.1 hs with hs | hs
        · exact ih _ _ (by rw [List.length_drop]; omega) (ha.drop _) s hs
        · simp only [List.mem_singleton] at hs; subst hs; exact root_32 _ (ha.take _)
theorem path_log (l : List ByteArray) (i a : Nat) (hi : i < l.length) (h : l.length ≤ 2 ^ a) : (path l i).length ≤ a := by
  have e := byR_own _ l i (Nat.le_refl _) hi
  have u := (byR_up (path l i).reverse l.length i (l.getD i ⟨#[]⟩) (by omega) hi).1
  rw [e] at u
  have := rights_len a l.length i h
  simp at u; omega
theorem allH_of {l : List ByteArray} (h : All32 l) : allH l = true := by
  unfold allH; rw [List.all_eq_true]; intro s hs; simp [h s hs]
theorem of_allH {l : List ByteArray} (h : allH l = true) : All32 l := by
  unfold allH at h; rw [List.all_eq_true] at h; intro s hs; simpa using h s hs
theorem get_32 {l : List ByteArray} (h : All32 l) (i : Nat) (hi : i < l.length) : (l.getD i ⟨#[]⟩).size = 32 := by
  have e : l.getD i ⟨#[]⟩ = l[i] := by simp [List.getD_eq_getElem?_getD, List.getElem?_eq_getElem hi]
  rw [e]; exact h _ (List.getElem_mem hi)
theorem check_own (l : List ByteArray) (i : Nat) (h : All32 l) (hi : i < l.length) : check (root l) l.length i (l.getD i ⟨#[]⟩) (path l i) = true := by
  unfold check
  rw [byR_own _ l i (Nat.le_refl _) hi, allH_of (path_32 _ l i (Nat.le_refl _) h), root_32 l h, get_32 h i hi]
  simp
theorem byR_32 (x : ByteArray) (hx : x.size = 32) : ∀ (q : List ByteArray) (n i : Nat), (byR n i x q).1.size = 32
  | [], _, _ => hx
  | y :: q, n, i => by
    rw [byR]
    split
    · exact hx
    · split
      · exact join_size _ _
      · exact join_size _ _
/-- a leaf and a path that give the root are those of the list -/
theorem along_inj (S : List ByteArray) (hS : ¬ Clash S) (x : ByteArray) (hx : x.size = 32) : ∀ (q : List ByteArray) (l : List ByteArray) (i : Nat), i < l.length → All32 l → All32 q → (∀ s ∈ inner l, s ∈ S) → (∀ s ∈ along l.length i x q, s ∈ S) → byR l.length i x q = (root l, true) → x = l.getD i ⟨#[]⟩ ∧ q = (path l i).reverse := by
  intro q
  induction q with
  | nil =>
    intro l i hi ha _ _ _ h
    simp only [byR, Prod.mk.injEq, beq_iff_eq] at h
    obtain ⟨a, rfl⟩ := List.length_eq_one_iff.1 h.2
    obtain rfl : i = 0 := by simp at hi; exact hi
    rw [path_small _ _ (by simp), h.1, root_one]
    simp
  | cons y q ih =>
    intro l i hi ha hq hin hal h
    rw [byR] at h
    by_cases h1 : l.length = 1
    · rw [if_pos h1] at h; simp at h
    · rw [if_neg h1] at h
      have h2 : 2 ≤ l.length := by omega
      have hlt := split_lt l.length h2
      have hpos := split_pos l.length
      have hq' : All32 q := fun s hs => hq s (List.mem_cons_of_mem _ hs)
      have hy : y.size = 32 := hq y (by simp)
      rw [root_step l h2] at h
      rw [inner_step l h2] at hin
      rw [along, if_neg (by omega)] at hal
      have hroots : z1 ++ root (l.take (split l.length)) ++ root (l.drop (split l.length)) ∈ S := hin _ (by simp)
      by_cases hk : i < split l.length
      · rw [if_pos hk] at h hal
        simp only [Prod.mk.injEq] at h
        have hm : z1 ++ (byR (split l.length) i x q).1 ++ y ∈ S := hal _ (by simp)
        have e := noclash hS _ hm _ hroots h.1
        obtain ⟨e1, e2⟩ := z1_inj (by rw [byR_32 x hx, root_32 _ (ha.take _)]) e
        have hl : (l.take (split l.length)).length = split l.length := by rw [List.length_take]; omega
        have := ih (l.take (split l.length)) i (by rw [hl]; exact hk) (ha.take _) hq' (fun s hs => hin s (by simp [hs])) (fun s hs => by rw [hl] at hs; exact hal s (by simp [hs])) (by rw [hl]; exact Prod.ext e1 h.2)
        have hg : (l.take (split l.length)).getD i ⟨#[]⟩ = l.getD i ⟨#[]⟩ := by simp [List.getD_eq_getElem?_getD, hk]
        rw [hg] at this
        refine ⟨this.1, ?_⟩
        rw [path_left l i h2 hk, List.reverse_append, e2, this.2]; rfl
      · rw [if_neg hk] at h hal
        simp only [Prod.mk.injEq] at h
        have hm : z1 ++ y ++ (byR (l.length - split l.length) (i - split l.length) x q).1 ∈ S := hal _ (by simp)
        have e := noclash hS _ hm _ hroots h.1
        obtain ⟨e1, e2⟩ := z1_inj (by rw [hy, root_32 _ (ha.take _)]) e
        have hl : (l.drop (split l.length)).length = l.length - split l.length := by rw [List.length_drop]
        have := ih (l.drop (split l.length)) (i - split l.length) (by rw [hl]; omega) (ha.drop _) hq' (fun s hs => hin s (by simp [hs])) (fun s hs => by rw [hl] at hs; exact hal s (by simp [hs])) (by rw [hl]; exact Prod.ext e2 h.2)
        have hg : (l.drop (split l.length)).getD (i - split l.length) ⟨#[]⟩ = l.getD i ⟨#[]⟩ := by
          simp [List.getD_eq_getElem?_getD, show split l.length + (i - split l.length) = i by omega]
        rw [hg] at this
        refine ⟨this.1, ?_⟩
        rw [path_right l i h2 hk, List.reverse_append, e1, this.2]; rfl
/-- what 'only' finds -/
theorem only_law (l : List ByteArray) (i : Nat) (x : ByteArray) (p : List ByteArray) (hi : i < l.length) (ha : All32 l) (hc : check (root l) l.length i x p = true) (hne : ¬ (x = l.getD i ⟨#[]⟩ ∧ p = path l i)) : Clash (inner l ++ along l.length i x p.reverse) := by
  apply Classical.byContradiction
  intro hS
  unfold check at hc
  simp only [Bool.and_eq_true, beq_iff_eq, decide_eq_true_eq] at hc
  obtain ⟨⟨⟨⟨_, hx⟩, hp⟩, h2⟩, h1⟩ := hc
  have hp' := of_allH hp
  obtain ⟨e1, e2⟩ := along_inj _ hS x hx p.reverse l i hi ha (fun s hs => hp' s (by simpa using hs)) (fun s hs => by simp [hs]) (fun s hs => by simp [hs]) (Prod.ext h1 h2)
  refine hne ⟨e1, ?_⟩
  have := congrArg List.reverse e2
  simpa using this
end Mk
end Go.Proofs.YtmapodkdnbbjgaaDoor
