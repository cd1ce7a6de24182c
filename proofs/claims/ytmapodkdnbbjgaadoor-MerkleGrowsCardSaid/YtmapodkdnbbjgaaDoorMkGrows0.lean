/- MerkleGrows: the plain law. -/
import Derived.Test.YtmapodkdnbbjgaaDoorMkRef7
import Derived.Test.YtmapodkdnbbjgaaDoorMkPaths0
namespace Go.Proofs.YtmapodkdnbbjgaaDoor
open Go.RowKit Mk Sl
namespace Mk
theorem root_take (l : List ByteArray) (m : Nat) (h2 : 2 ≤ l.length) (h : split l.length < m) (hm : m ≤ l.length) : root (l.take m) = join (root (l.take (split l.length))) (root ((l.drop (split l.length)).take (m - split l.length))) := by
  have hge := split_ge l.length h2
  have hlt := split_lt l.length h2
  have hpos := split_pos l.length
  have hl : (l.take m).length = m := by rw [List.length_take]; omega
  have hs : split m = split l.length := split_unique m _ h (by have h9 := hge; unfold split at h9; omega)
  rw [root_step (l.take m) (by omega), hl, hs, List.take_take, List.drop_take, Nat.min_eq_left (by omega)]
theorem bothR_own (N : Nat) : ∀ (l : List ByteArray) (m : Nat) (b : Bool) (old : ByteArray), l.length ≤ N → 1 ≤ m → m ≤ l.length → (b = true → old = root (l.take m)) → bothR old m l.length (growth l m b).reverse b = (root (l.take m), root l, true) := by
  induction N with
  | zero => intro l m b old h h1 h2; omega
  | succ N ih =>
    intro l m b old h h1 h2 ho
    by_cases hm : m = l.length
    · rw [growth_end l m b (.inr hm)]
      have ht : l.take m = l := List.take_of_length_le (by omega)
      rw [ht] at ho ⊢
      cases b with
      | true => simp [bothR, hm, ho rfl]
      | false => simp [bothR, hm]
    · have hlt := split_lt l.length (by omega)
      have hpos := split_pos l.length
      rw [root_step l (by omega)]
      by_cases hk : m ≤ split l.length
      · rw [growth_left l m b (by omega) hm hk, List.reverse_append]
        show bothR old m l.length (root (l.drop (split l.length)) :: (growth (l.take (split l.length)) m b).reverse) b = _
        rw [bothR, if_neg (by omega), if_neg hm, if_pos hk]
        have hl : (l.take (split l.length)).length = split l.length := by rw [List.length_take]; omega
        have ht : (l.take (split l.length)).take m = l.take m := by rw [List.take_take, Nat.min_eq_left hk]
        have := ih (l.take (split l.length)) m b old (by rw [hl]; omega) h1 (by rw [hl]; exact hk) (by rw [ht]; exact ho)
        rw [hl, ht] at this
        rw [this]
      · rw [growth_right l m b (by omega) hm hk, List.reverse_append]
        show bothR old m l.length (root (l.take (split l.length)) :: (growth (l.drop (split l.length)) (m - split l.length) false).reverse) b = _
        rw [bothR, if_neg (by omega), if_neg hm, if_neg hk]
        have hl : (l.drop (split l.length)).length = l.length - split l.length := by rw [List.length_drop]
        have := ih (l.drop (split l.length)) (m - split l.length) false old (by rw [hl]; omega) (by omega) (by rw [hl]; omega) (by simp)
        rw [hl] at this
        rw [this, root_take l m (by omega) (by omega) h2]
theorem growth_32 (N : Nat) : ∀ (l : List ByteArray) (m : Nat) (b : Bool), l.length ≤ N → All32 l → All32 (growth l m b) := by
  induction N with
  | zero =>
    intro l m b h ha
    rw [growth_end _ _ _ (.inl (by omega))]
    intro s hs
    split at hs
    · cases hs
    · simp only [List.mem_singleton] at hs; subst hs; exact root_32 _ ha
  | succ N ih =>
    intro l m b h ha
    by_cases h2 : l.length < 2 ∨ m = l.length
    · rw [growth_end _ _ _ h2]
      intro s hs
      split at hs
      · cases hs
      · simp only [List.mem_singleton] at hs; subst hs; exact root_32 _ ha
    · have hlt := split_lt l.length (by omega)
      have hpos := split_pos l.length
      by_cases hk : m ≤ split l.length
      · rw [growth_left l m b (by omega) (by omega) hk]
        intro s hs
        rcases List.mem_append.1 hs with hs | hs
        · exact ih _ _ _ (by rw [List.length_take]; omega) (ha.take _) s hs
        · simp only [List.mem_singleton] at hs; subst hs; exact root_32 _ (ha.drop _)
      · rw [growth_right l m b (by omega) (by omega) hk]
        intro s hs
        rcases List.mem_append.1 hs with hs | hs
        · exact ih _ _ _ (by rw [List.length_drop]; omega) (ha.drop _) s hs
        · simp only [List.mem_singleton] at hs; subst hs; exact root_32 _ (ha.take _)
theorem growth_log (l : List ByteArray) (m a : Nat) (h1 : 1 ≤ m) (hm : m ≤ l.length) (h : l.length ≤ 2 ^ a) : (growth l m true).length ≤ a + 1 := by
  have e := bothR_own _ l m true _ (Nat.le_refl _) h1 hm (fun _ => rfl)
  have u := (bothR_up (growth l m true).reverse (root (l.take m)) m l.length true h1 hm).1
  rw [e] at u
  have := gright_len a l.length m true h
  have u' := u.symm
  rw [beq_iff_eq, List.length_reverse] at u'
  split at u' <;> omega
theorem checkGrown_own (l : List ByteArray) (m : Nat) (h : All32 l) (h1 : 1 ≤ m) (hm : m ≤ l.length) : checkGrown (root (l.take m)) m (root l) l.length (growth l m true) = true := by
  unfold checkGrown
  rw [bothR_own _ l m true _ (Nat.le_refl _) h1 hm (fun _ => rfl), allH_of (growth_32 _ l m true (Nat.le_refl _) h), root_32 l h, root_32 _ (h.take m), if_neg (by omega)]
  simp
theorem checkGrown_zero (l : List ByteArray) (old : ByteArray) (n : Nat) (p : List ByteArray) (h : All32 l) : checkGrown old 0 (root l) n p = (decide (old = root (l.take 0)) && p.isEmpty) := by
  unfold checkGrown
  rw [if_pos rfl, List.take_zero, root_nil, root_32 l h]
  by_cases ho : old = H ⟨#[]⟩
  · rw [ho, H_size]
    cases p with
    | nil => simp [allH]
    | cons a t => simp
  · rw [decide_eq_false ho]; simp
theorem bothR_32 (old : ByteArray) (ho : old.size = 32) : ∀ (q : List ByteArray) (m n : Nat) (b : Bool), All32 q → (bothR old m n q b).2.2 = true → (bothR old m n q b).1.size = 32 ∧ (bothR old m n q b).2.1.size = 32
  | [], m, n, b, _ => by
    rw [bothR]
    split
    · intro _; exact ⟨ho, ho⟩
    · intro h; cases h
  | y :: q, m, n, b, hq => by
    rw [bothR]
    have hy : y.size = 32 := hq y (by simp)
    have hq' : All32 q := fun s hs => hq s (List.mem_cons_of_mem _ hs)
    split
    · intro h; cases h
    · split
      · intro _; exact ⟨hy, hy⟩
      · split
        · intro h; exact ⟨(bothR_32 old ho q _ _ _ hq' h).1, join_size _ _⟩
        · intro _; exact ⟨join_size _ _, join_size _ _⟩
/-- a growth that gives the root of the list gives the root of its first ones -/
theorem growing_inj (S : List ByteArray) (hS : ¬ Clash S) (old : ByteArray) (ho : old.size = 32) : ∀ (q : List ByteArray) (l : List ByteArray) (m : Nat) (b : Bool), 1 ≤ m → m ≤ l.length → All32 l → All32 q → (∀ s ∈ inner l, s ∈ S) → (∀ s ∈ growing old m l.length q b, s ∈ S) → (bothR old m l.length q b).2.2 = true → (bothR old m l.length q b).2.1 = root l → (bothR old m l.length q b).1 = root (l.take m) := by
  intro q
  induction q with
  | nil =>
    intro l m b h1 hm ha _ _ _ hf hr
    rw [bothR] at hf hr ⊢
    split at hf
    · rename_i hmn
      rw [if_pos hmn] at hr ⊢
      rw [List.take_of_length_le (by omega)]; exact hr
    · cases hf
  | cons y q ih =>
    intro l m b h1 hm ha hq hin hgr hf hr
    have hq' : All32 q := fun s hs => hq s (List.mem_cons_of_mem _ hs)
    have hy : y.size = 32 := hq y (by simp)
    rw [bothR] at hf hr ⊢
    by_cases hmb : m = l.length ∧ b = true
    · rw [if_pos hmb] at hf; cases hf
    · rw [if_neg hmb] at hf hr ⊢
      by_cases hmn : m = l.length
      · rw [if_pos hmn] at hr ⊢
        rw [List.take_of_length_le (by omega)]; exact hr
      · rw [if_neg hmn] at hf hr ⊢
        have h2 : 2 ≤ l.length := by omega
        have hlt := split_lt l.length h2
        have hpos := split_pos l.length
        rw [root_step l h2] at hr
        rw [inner_step l h2] at hin
        rw [growing, if_neg (by omega)] at hgr
        have hroots : z1 ++ root (l.take (split l.length)) ++ root (l.drop (split l.length)) ∈ S := hin _ (by simp)
        by_cases hk : m ≤ split l.length
        · rw [if_pos hk] at hf hr hgr ⊢
          have hmem : z1 ++ (bothR old m (split l.length) q b).2.1 ++ y ∈ S := hgr _ (by simp)
          have e := noclash hS _ hmem _ hroots hr
          obtain ⟨e1, e2⟩ := z1_inj (by rw [(bothR_32 old ho q _ _ _ hq' hf).2, root_32 _ (ha.take _)]) e
          have hl : (l.take (split l.length)).length = split l.length := by rw [List.length_take]; omega
          have := ih (l.take (split l.length)) m b h1 (by rw [hl]; exact hk) (ha.take _) hq' (fun s hs => hin s (by simp [hs])) (fun s hs => by rw [hl] at hs; exact hgr s (by simp [hs])) (by rw [hl]; exact hf) (by rw [hl]; exact e1)
          rw [hl, List.take_take, Nat.min_eq_left hk] at this
          exact this
        · rw [if_neg hk] at hf hr hgr ⊢
          have hmem : z1 ++ y ++ (bothR old (m - split l.length) (l.length - split l.length) q false).2.1 ∈ S := hgr _ (by simp)
          have e := noclash hS _ hmem _ hroots hr
          obtain ⟨e1, e2⟩ := z1_inj (by rw [hy, root_32 _ (ha.take _)]) e
          have hl : (l.drop (split l.length)).length = l.length - split l.length := by rw [List.length_drop]
          have := ih (l.drop (split l.length)) (m - split l.length) false (by omega) (by rw [hl]; omega) (ha.drop _) hq' (fun s hs => hin s (by simp [hs])) (fun s hs => by rw [hl] at hs; exact hgr s (by simp [hs])) (by rw [hl]; exact hf) (by rw [hl]; exact e2)
          rw [hl] at this
          rw [root_take l m h2 (by omega) hm, ← this, ← e1]
/-- what MerkleGrows finds -/
theorem grows_law (l : List ByteArray) (m : Nat) (old : ByteArray) (p : List ByteArray) (h1 : 1 ≤ m) (hm : m ≤ l.length) (ha : All32 l) (hc : checkGrown old m (root l) l.length p = true) (hne : old ≠ root (l.take m)) : Clash (inner l ++ growing old m l.length p.reverse true) := by
  apply Classical.byContradiction
  intro hS
  unfold checkGrown at hc
  rw [if_neg (by omega)] at hc
  simp only [Bool.and_eq_true, beq_iff_eq, decide_eq_true_eq] at hc
  obtain ⟨⟨⟨ho, _⟩, hp⟩, ⟨hf, e1⟩, e2⟩ := hc
  have hp' := of_allH hp
  have := growing_inj _ hS old ho p.reverse l m true h1 hm ha (fun s hs => hp' s (by simpa using hs)) (fun s hs => by simp [hs]) (fun s hs => by simp [hs]) hf e2
  exact hne (e1.symm.trans this)
end Mk
end Go.Proofs.YtmapodkdnbbjgaaDoor
