/- merkle: plain laws of the ways. -/
import Derived.Test.YtmapodkdnbbjgaaDoorMkSpec
namespace Go.Proofs.YtmapodkdnbbjgaaDoor
namespace Mk
theorem split_half (n a : Nat) (h : 2 ≤ n) (hn : n ≤ 2 ^ (a + 1)) : split n ≤ 2 ^ a := by
  have h1 := split_lt n h
  unfold split at *
  have h2 : 2 ^ (n - 1).log2 < 2 ^ (a + 1) := Nat.lt_of_lt_of_le h1 hn
  have h3 := (Nat.pow_lt_pow_iff_right (a := 2) (by decide)).1 h2
  exact Nat.pow_le_pow_right (by decide) (by omega)
theorem rights_len (a : Nat) : ∀ n i, n ≤ 2 ^ a → (rights n i).length ≤ a := by
  induction a with
  | zero => intro n i h; rw [rights_small n i (by simp at h; omega)]; simp
  | succ a ih =>
    intro n i h
    by_cases h2 : 2 ≤ n
    · have hs := split_half n a h2 h
      have hg := split_ge n h2
      by_cases hi : i < split n
      · rw [rights_left n i h2 hi, List.length_cons]; have := ih (split n) i hs; omega
      · rw [rights_right n i h2 hi, List.length_cons]; have := ih (n - split n) (i - split n) (by omega); omega
    · rw [rights_small n i (by omega)]; simp
theorem gright_len (a : Nat) : ∀ n m b, n ≤ 2 ^ a → (gright n m b).1.length ≤ a := by
  induction a with
  | zero => intro n m b h; rw [gright_end n m b (.inl (by simp at h; omega))]; simp
  | succ a ih =>
    intro n m b h
    by_cases h2 : 2 ≤ n ∧ m < n
    · have hs := split_half n a h2.1 h
      have hg := split_ge n h2.1
      by_cases hi : m ≤ split n
      · rw [gright_left n m b h2.1 h2.2 hi]; have := ih (split n) m b hs; simp; omega
      · rw [gright_right n m b h2.1 h2.2 hi]; have := ih (n - split n) (m - split n) false (by omega); simp; omega
    · rw [gright_end n m b (by omega)]; simp
theorem drop_rev (p : List ByteArray) (j : Nat) (hj : j < p.length) : p.reverse.drop (p.length - (j + 1)) = p.getD j ⟨#[]⟩ :: p.reverse.drop (p.length - j) := by
  rw [List.drop_eq_getElem_cons (by rw [List.length_reverse]; omega), show p.length - (j + 1) + 1 = p.length - j by omega]
  congr 1
  rw [List.getElem_reverse, List.getD_eq_getElem?_getD, List.getElem?_eq_getElem hj]
  simp only [Option.getD_some]
  congr 1; omega
theorem drop_rights (rs : List Bool) (m j : Nat) (hm : rs.length = m) (hj : j < m) : rs.drop (m - (j + 1)) = rs.getD (m - 1 - j) false :: rs.drop (m - j) := by
  rw [List.drop_eq_getElem_cons (by omega), show m - (j + 1) + 1 = m - j by omega, List.getD_eq_getElem?_getD, List.getElem?_eq_getElem (by omega)]
  simp only [Option.getD_some]
  congr 2; omega
theorem upF_step (x : ByteArray) (p : List ByteArray) (rs : List Bool) (hr : rs.length = p.length) (j : Nat) (hj : j < p.length) :
    upF x (p.reverse.drop (p.length - (j + 1))) (rs.drop (p.length - (j + 1))) = if rs.getD (p.length - 1 - j) false then join (p.getD j ⟨#[]⟩) (upF x (p.reverse.drop (p.length - j)) (rs.drop (p.length - j))) else join (upF x (p.reverse.drop (p.length - j)) (rs.drop (p.length - j))) (p.getD j ⟨#[]⟩) := by
  rw [drop_rev p j hj, drop_rights rs p.length j hr hj]; rfl
theorem upG_step (x : ByteArray) (p : List ByteArray) (rs : List Bool) (hr : rs.length = p.length) (j : Nat) (hj : j < p.length) :
    upG x (p.reverse.drop (p.length - (j + 1))) (rs.drop (p.length - (j + 1))) = if rs.getD (p.length - 1 - j) false then join (p.getD j ⟨#[]⟩) (upG x (p.reverse.drop (p.length - j)) (rs.drop (p.length - j))) else upG x (p.reverse.drop (p.length - j)) (rs.drop (p.length - j)) := by
  rw [drop_rev p j hj, drop_rights rs p.length j hr hj]; rfl
theorem up_nil (x : ByteArray) (p : List ByteArray) (rs : List Bool) : upF x (p.reverse.drop (p.length - 0)) (rs.drop (p.length - 0)) = x ∧ upG x (p.reverse.drop (p.length - 0)) (rs.drop (p.length - 0)) = x := by
  rw [Nat.sub_zero, List.drop_of_length_le (by simp)]
  exact ⟨by unfold upF; rfl, by unfold upG; rfl⟩
theorem upF_size (x : ByteArray) (k : Nat) (hx : x.size ≤ k) (hk : 32 ≤ k) (q : List ByteArray) (rs : List Bool) : (upF x q rs).size ≤ k := by
  cases q with
  | nil => unfold upF; exact hx
  | cons y q =>
    cases rs with
    | nil => unfold upF; exact hx
    | cons r rs => unfold upF; split <;> (rw [join_size]; exact hk)
theorem upG_size (x : ByteArray) (k : Nat) (hx : x.size ≤ k) (hk : 32 ≤ k) (q : List ByteArray) : ∀ rs : List Bool, (upG x q rs).size ≤ k := by
  induction q with
  | nil => intro rs; unfold upG; exact hx
  | cons y q ih =>
    intro rs
    cases rs with
    | nil => unfold upG; exact hx
    | cons r rs =>
      unfold upG; split
      · rw [join_size]; exact hk
      · exact ih rs
/-- check, as the program goes -/
theorem check_prog (rt : ByteArray) (n i : Nat) (x : ByteArray) (p : List ByteArray) (hi : i < n) :
    check rt n i x p = (rt.size == 32 && x.size == 32 && allH p && (rights n i).length == p.length && decide (upF x p.reverse (rights n i) = rt)) := by
  obtain ⟨e1, e2⟩ := byR_up p.reverse n i x (by omega) hi
  rw [List.length_reverse] at e1 e2
  unfold check
  rw [e1]
  by_cases h : (rights n i).length = p.length
  · rw [e2 h]
  · have : ((rights n i).length == p.length) = false := by simpa using h
    rw [this]; simp
def endOf (old : ByteArray) (q : List ByteArray) (b : Bool) : ByteArray := if b then old else q.getLastD ⟨#[]⟩
theorem bothR_up (q : List ByteArray) : ∀ (old : ByteArray) (m n : Nat) (whole : Bool), 1 ≤ m → m ≤ n →
    (bothR old m n q whole).2.2 = ((gright n m whole).1.length + (if (gright n m whole).2 then 0 else 1) == q.length) ∧
    ((gright n m whole).1.length + (if (gright n m whole).2 then 0 else 1) = q.length →
      (bothR old m n q whole).1 = upG (endOf old q (gright n m whole).2) q (gright n m whole).1 ∧ (bothR old m n q whole).2.1 = upF (endOf old q (gright n m whole).2) q (gright n m whole).1) := by
  induction q with
  | nil =>
    intro old m n whole h1 h2
    by_cases hm : m = n
    · rw [gright_end n m whole (by omega)]
      cases whole with
      | true => simp [bothR, hm, upG, upF, endOf]
      | false => simp [bothR]
    · have hb : (bothR old m n [] whole) = (⟨#[]⟩, ⟨#[]⟩, false) := by simp [bothR, hm]
      have hl : (gright n m whole).1.length ≠ 0 := by
        by_cases hi : m ≤ split n
        · rw [gright_left n m whole (by omega) (by omega) hi]; simp
        · rw [gright_right n m whole (by omega) (by omega) hi]; simp
      rw [hb]
      have hz : ¬ (gright n m whole).1.length + (if (gright n m whole).2 then 0 else 1) = ([] : List ByteArray).length := by intro h; rw [List.length_nil] at h; omega
      exact ⟨by symm; simpa using hz, fun h => absurd h hz⟩
  | cons y q ih =>
    intro old m n whole h1 h2
    by_cases hm : m = n
    · rw [gright_end n m whole (by omega)]
      cases whole with
      | true => simp [bothR, hm]
      | false =>
        cases q with
        | nil => simp [bothR, hm, upG, upF, endOf]
        | cons z q => simp [bothR, hm]
    · have hl := split_lt n (by omega); have hp := split_pos n
      by_cases hi : m ≤ split n
      · obtain ⟨e1, e2⟩ := ih old m (split n) whole h1 hi
        rw [gright_left n m whole (by omega) (by omega) hi]
        have eb : bothR old m n (y :: q) whole = ((bothR old m (split n) q whole).1, join (bothR old m (split n) q whole).2.1 y, (bothR old m (split n) q whole).2.2) := by
          rw [bothR, if_neg (by omega), if_neg hm, if_pos hi]
        rw [eb]
        refine ⟨?_, fun h => ?_⟩
        · show (bothR old m (split n) q whole).2.2 = _
          rw [e1]; rw [Bool.eq_iff_iff]; simp; omega
        · have h' : (gright (split n) m whole).1.length + (if (gright (split n) m whole).2 then 0 else 1) = q.length := by simp at h ⊢; omega
          obtain ⟨f1, f2⟩ := e2 h'
          have ee : endOf old (y :: q) (gright (split n) m whole).2 = endOf old q (gright (split n) m whole).2 := by
            unfold endOf
            cases hb : (gright (split n) m whole).2 with
            | true => rfl
            | false =>
              cases q with
              | nil => rw [hb] at h'; simp at h'
              | cons z q => simp
          show (bothR old m (split n) q whole).1 = _ ∧ join (bothR old m (split n) q whole).2.1 y = _
          rw [ee, f1, f2]
          exact ⟨by conv => { rhs; unfold upG }; rfl, by conv => { rhs; unfold upF }; rfl⟩
      · obtain ⟨e1, e2⟩ := ih old (m - split n) (n - split n) false (by omega) (by omega)
        rw [gright_right n m whole (by omega) (by omega) hi]
        have eb : bothR old m n (y :: q) whole = (join y (bothR old (m - split n) (n - split n) q false).1, join y (bothR old (m - split n) (n - split n) q false).2.1, (bothR old (m - split n) (n - split n) q false).2.2) := by
          rw [bothR, if_neg (by omega), if_neg hm, if_neg hi]
        rw [eb]
        refine ⟨?_, fun h => ?_⟩
        · show (bothR old (m - split n) (n - split n) q false).2.2 = _
          rw [e1]; rw [Bool.eq_iff_iff]; simp; omega
        · have h' : (gright (n - split n) (m - split n) false).1.length + (if (gright (n - split n) (m - split n) false).2 then 0 else 1) = q.length := by simp at h ⊢; omega
          obtain ⟨f1, f2⟩ := e2 h'
          have ee : endOf old (y :: q) (gright (n - split n) (m - split n) false).2 = endOf old q (gright (n - split n) (m - split n) false).2 := by
            unfold endOf
            cases hb : (gright (n - split n) (m - split n) false).2 with
            | true => rfl
            | false =>
              cases q with
              | nil => rw [hb] at h'; simp at h'
              | cons z q => simp
          show join y (bothR old (m - split n) (n - split n) q false).1 = _ ∧ join y (bothR old (m - split n) (n - split n) q false).2.1 = _
          rw [ee, f1, f2]
          exact ⟨by conv => { rhs; unfold upG }; rfl, by conv => { rhs; unfold upF }; rfl⟩
end Mk
end Go.Proofs.YtmapodkdnbbjgaaDoor
