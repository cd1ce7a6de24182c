/- What a vote that is not direct is; counting users once; on rooms; no program in sight. -/
import Derived.Test.YtbcldkbacdnpiaaQuLeaves0
namespace Go.Proofs.Ytbcldkbacdnpiaa
namespace Qu
theorem chase_found {f : ByteArray → U} {v : Int} (hv : v ≠ 0) : ∀ (n : Nat) (seen : List ByteArray) (y : ByteArray), chase f n seen y = v → ∃ m, m ∉ seen ∧ (f m).m = true ∧ (f m).d = v
  | 0, _, _, h => absurd h.symm hv
  | n + 1, seen, y, h => by
    unfold chase at h
    by_cases c : y = ⟨#[]⟩ ∨ y ∈ seen ∨ (f y).m = false
    · rw [if_pos c] at h
      exact absurd h.symm hv
    · rw [if_neg c] at h
      by_cases c' : (f y).d ≠ 0
      · rw [if_pos c'] at h
        refine ⟨y, fun hh => c (.inr (.inl hh)), ?_, h⟩
        cases e : (f y).m
        · exact absurd (.inr (.inr e)) c
        · rfl
      · rw [if_neg c'] at h
        obtain ⟨m, h1, h2, h3⟩ := chase_found hv n (y :: seen) (f y).t h
        exact ⟨m, fun hh => h1 (List.mem_cons_of_mem _ hh), h2, h3⟩
theorem vote_shared {r : Room} {u : ByteArray} (hd : (r.of u).d = 0) (hv : r.vote u ≠ 0) : ∃ m, m ≠ u ∧ (r.of m).m = true ∧ (r.of m).d = r.vote u := by
  have e : r.vote u = r.vote u := rfl
  unfold Room.vote at e
  by_cases c : (r.of u).d ≠ 0 ∨ (r.of u).m = false
  · exact absurd ((vote_direct c).trans hd) hv
  · have h : chase r.of (r.keys.length + 1) [u] (r.of u).t = r.vote u := by
      unfold Room.vote; rw [if_neg c]
    obtain ⟨m, h1, h2, h3⟩ := chase_found hv _ _ _ h
    exact ⟨m, fun e => h1 (by rw [e]; exact List.mem_cons_self ..), h2, h3⟩
theorem vote_quiet {r : Room} {u : ByteArray} (hd : (r.of u).d = 0) (hm : (r.of u).m = false) : r.vote u = 0 := by
  rw [vote_direct (.inr hm), hd]
/-- how many of some users have the vote v -/
def tally (r : Room) (l : List ByteArray) (v : Int) : Nat := (l.filter fun k => decide (r.vote k = v)).length
theorem tally_all (r : Room) (v : Int) : tally r r.keys v = r.votes v := rfl
theorem tally_snoc (r : Room) (l : List ByteArray) (u : ByteArray) (v : Int) : tally r (l ++ [u]) v = tally r l v + (if r.vote u = v then 1 else 0) := by
  unfold tally
  rw [List.filter_append, List.length_append]
  congr 1
  by_cases h : r.vote u = v <;> simp [h]
theorem tally_le (r : Room) (l : List ByteArray) (v : Int) : tally r l v ≤ l.length := List.length_filter_le _ _
theorem keys_in (r : Room) (e : Ev) (h : e.user ∈ r.keys) : (r.apply e).keys = r.keys := by
  unfold Room.apply; simp only [h, if_true]
theorem keys_new (r : Room) (e : Ev) (h : e.user ∉ r.keys) : (r.apply e).keys = r.keys ++ [e.user] := by
  unfold Room.apply; simp only [h, if_false]
end Qu
end Go.Proofs.Ytbcldkbacdnpiaa
