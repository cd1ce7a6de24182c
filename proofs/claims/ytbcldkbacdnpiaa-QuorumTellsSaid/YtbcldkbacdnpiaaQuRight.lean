/- Right: the walk. -/
import Derived.Test.YtbcldkbacdnpiaaQuCount
namespace Go.Proofs.Ytbcldkbacdnpiaa
open Go.RowKit Go.Maps Qu
def qval (q : Q) : Value := .agg #[.int .i64 q.need, .int .i64 q.veto, .int .i64 q.wait, .bool q.free]
def within (n : Int) : Bool := decide (1 ≤ n) && decide (n ≤ 16)
theorem number_any (n : Int) (w : World) : Calls Try.prog 26 #[.int .i64 n] w fun x w' => x = .returned (.bool (within n)) ∧ w = w' := by
  unfold within
  by_cases h : 1 ≤ n
  · by_cases h2 : n ≤ 16
    · rw [decide_eq_true h, decide_eq_true h2]
      go_enter Try.func26, Try.ntmps26
      go_wp2
      go_ret
      exact ⟨rfl, rfl⟩
    · rw [decide_eq_true h, decide_eq_false h2]
      go_enter Try.func26, Try.ntmps26
      go_wp2
      go_ret
      exact ⟨rfl, rfl⟩
  · rw [decide_eq_false h]
    go_enter Try.func26, Try.ntmps26
    go_wp2
    go_ret
    exact ⟨rfl, rfl⟩
theorem number_yes (n : Int) (w : World) (h : Hid (within n = true)) : Calls Try.prog 26 #[.int .i64 n] w fun x w' => x = .returned (.bool true) ∧ w = w' := by
  have := number_any n w; rw [h.out] at this; exact this
theorem number_no (n : Int) (w : World) (h : Hid (within n = false)) : Calls Try.prog 26 #[.int .i64 n] w fun x w' => x = .returned (.bool false) ∧ w = w' := by
  have := number_any n w; rw [h.out] at this; exact this
theorem right_eq (q : Q) : q.right = (within q.need && within q.veto && decide (60000 ≤ q.wait) && decide (q.wait ≤ 86400000000)) := by
  unfold Q.right within; simp only [Bool.and_assoc]
set_option maxHeartbeats 1000000 in
theorem right_any (q : Q) (w : World) : Calls Try.prog 11 #[qval q] w fun x w' => x = .returned (.bool q.right) ∧ Below w.heap.size w w' := by
  rw [right_eq]
  obtain ⟨a, v, t, f⟩ := q
  unfold qval
  simp only
  have fin : ∀ o, Below w.heap.size w (w.alloc o) := fun o => (Below.refl _ _).alloc (Nat.le_refl _) o
  cases h1 : within a
  · have H1 := Lib.hid h1
    clear h1
    go_enter Try.func11, Try.ntmps11
    go_wp2_with fail
    refine (number_no a _ H1).mono ?_
    rintro e w' ⟨rfl, rfl⟩
    go_wp2
    go_ret
    exact ⟨rfl, fin _⟩
  · cases h2 : within v
    · have H1 := Lib.hid h1
      have H2 := Lib.hid h2
      clear h1 h2
      go_enter Try.func11, Try.ntmps11
      go_wp2_with fail
      refine (number_yes a _ H1).mono ?_
      rintro e w' ⟨rfl, rfl⟩
      go_wp2_with fail
      refine (number_no v _ H2).mono ?_
      rintro e w' ⟨rfl, rfl⟩
      go_wp2
      go_ret
      exact ⟨rfl, fin _⟩
    · have H1 := Lib.hid h1
      have H2 := Lib.hid h2
      clear h1 h2
      by_cases h3 : 60000 ≤ t
      · rw [decide_eq_true h3]
        simp only [Bool.and_true, Bool.true_and]
        go_enter Try.func11, Try.ntmps11
        go_wp2_with fail
        refine (number_yes a _ H1).mono ?_
        rintro e w' ⟨rfl, rfl⟩
        go_wp2_with fail
        refine (number_yes v _ H2).mono ?_
        rintro e w' ⟨rfl, rfl⟩
        go_wp2
        go_ret
        exact ⟨rfl, fin _⟩
      · rw [decide_eq_false h3]
        go_enter Try.func11, Try.ntmps11
        go_wp2_with fail
        refine (number_yes a _ H1).mono ?_
        rintro e w' ⟨rfl, rfl⟩
        go_wp2_with fail
        refine (number_yes v _ H2).mono ?_
        rintro e w' ⟨rfl, rfl⟩
        go_wp2
        go_ret
        exact ⟨rfl, fin _⟩
end Go.Proofs.Ytbcldkbacdnpiaa
