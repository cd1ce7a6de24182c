/- Removing, adding again, delegating: what becomes of votes; on rooms; no program in sight. -/
import Derived.Test.YtbcldkbacdnpiaaQuLaw
namespace Go.Proofs.Ytbcldkbacdnpiaa
namespace Qu
theorem chase_congr {f f' : ByteArray → U} (hm : ∀ k, (f k).m = (f' k).m) (hd : ∀ k, (f k).d = (f' k).d) (ht : ∀ k, (f k).d = 0 → (f k).t = (f' k).t) : ∀ (n : Nat) (seen : List ByteArray) (y : ByteArray), chase f n seen y = chase f' n seen y
  | 0, _, _ => rfl
  | n + 1, seen, y => by
    unfold chase
    rw [hm y, hd y]
    by_cases c : y = ⟨#[]⟩ ∨ y ∈ seen ∨ (f' y).m = false
    · rw [if_pos c, if_pos c]
    · rw [if_neg c, if_neg c]
      by_cases c' : (f' y).d ≠ 0
      · rw [if_pos c', if_pos c']
      · rw [if_neg c', if_neg c', ht y (by rw [hd y]; exact Decidable.not_not.1 c')]
        exact chase_congr hm hd ht n (y :: seen) (f' y).t
theorem vote_congr {r r' : Room} (h : r.Fine) (h' : r'.Fine) (hm : ∀ k, (r.of k).m = (r'.of k).m) (hd : ∀ k, (r.of k).d = (r'.of k).d) (ht : ∀ k, (r.of k).d = 0 → (r.of k).t = (r'.of k).t) (k : ByteArray) : r.vote k = r'.vote k := by
  by_cases c : (r.of k).d ≠ 0 ∨ (r.of k).m = false
  · rw [vote_direct c, vote_direct (by rw [← hm k, ← hd k]; exact c), hd k]
  · have hd0 : (r.of k).d = 0 := Decidable.not_not.1 (fun x => c (.inl x))
    have hm1 : (r.of k).m = true := by
      cases e : (r.of k).m
      · exact absurd (.inr e) c
      · rfl
    rw [vote_start h hd0 hm1, vote_start h' (by rw [← hd k]; exact hd0) (by rw [← hm k]; exact hm1), ht k hd0]
    unfold chased
    rw [chase_congr hm hd ht]
    have key : ∀ n n', (r.keys.filter (fun x => decide (x ∉ [k]))).length < n → (r'.keys.filter (fun x => decide (x ∉ [k]))).length < n' → chase r'.of n [k] (r'.of k).t = chase r'.of n' [k] (r'.of k).t := by
      intro n n' hn hn'
      rw [chase_fuel r'.of r.keys (fun k hk => h.mod k (by rw [hm k]; exact hk)) n (n + n') _ _ hn (by omega),
        chase_fuel r'.of r'.keys (fun k hk => h'.mod k hk) n' (n + n') _ _ hn' (by omega)]
    exact key _ _ (Nat.lt_succ_self _) (Nat.lt_succ_self _)
theorem vote_key {r : Room} (h : r.Fine) {k : ByteArray} (hv : r.vote k ≠ 0) : k ∈ r.keys := by
  by_cases c : k ∈ r.keys
  · exact c
  · exact absurd (vote_zero (h.zero k c)) hv
theorem votes_congr {r r' : Room} (h : r.Fine) (h' : r'.Fine) (hv : ∀ k, r.vote k = r'.vote k) (v : Int) (hv0 : v ≠ 0) : r.votes v = r'.votes v := by
  unfold Room.votes
  apply List.Perm.length_eq
  rw [List.perm_ext_iff_of_nodup (h.nodup.filter _) (h'.nodup.filter _)]
  intro k
  simp only [List.mem_filter, decide_eq_true_eq]
  constructor
  · rintro ⟨_, b⟩
    exact ⟨vote_key h' (by rw [← hv k, b]; exact hv0), by rw [← hv k]; exact b⟩
  · rintro ⟨_, b⟩
    exact ⟨vote_key h (by rw [hv k, b]; exact hv0), by rw [hv k]; exact b⟩
theorem after_snoc' (l : List Ev) (e : Ev) : after (l ++ [e]) = (after l).apply e := by
  unfold after; rw [List.foldl_append]; rfl
/-- the removal of a user -/
theorem gone_of (r : Room) (e : Ev) (he : e.kind = 1) (k : ByteArray) : (r.apply e).of k = if k = e.user then { r.of k with m := false } else r.of k := by
  unfold Room.apply turn
  simp only [he]
  rfl
theorem back_of (r : Room) (e : Ev) (he : e.kind = 0) (k : ByteArray) : (r.apply e).of k = if k = e.user then { r.of k with m := true } else r.of k := by
  unfold Room.apply turn
  simp only [he]
  rfl
theorem gone_user {r : Room} {e : Ev} (he : e.kind = 1) : (r.apply e).vote e.user = (r.of e.user).d := by
  rw [vote_direct (.inr (by rw [gone_of r e he, if_pos rfl])), gone_of r e he, if_pos rfl]
theorem gone_direct {r : Room} {e : Ev} (he : e.kind = 1) {k : ByteArray} (hd : (r.of k).d ≠ 0) : (r.apply e).vote k = r.vote k := by
  have e1 : ((r.apply e).of k).d = (r.of k).d := by rw [gone_of r e he]; split <;> rfl
  rw [vote_direct (.inl (by rw [e1]; exact hd)), vote_direct (.inl hd), e1]
theorem back_same {r : Room} {e e' : Ev} (he : e.kind = 1) (he' : e'.kind = 0) (hu : e'.user = e.user) (hm : (r.of e.user).m = true) : ((r.apply e).apply e').of = r.of := by
  funext k
  rw [back_of _ e' he', gone_of r e he, hu]
  by_cases c : k = e.user
  · subst c
    rw [if_pos rfl, if_pos rfl]
    rcases h : r.of e.user with ⟨m, d, t⟩
    rw [h] at hm
    simp only at hm
    subst hm
    rfl
  · rw [if_neg c, if_neg c]
theorem with_same {r : Room} (h : r.Fine) {e : Ev} (he : e.kind = 2) (hc : (r.of e.user).d ≠ 0 ∨ (r.of e.user).m = false) (k : ByteArray) : (r.apply e).vote k = r.vote k := by
  have e0 : ∀ k, (r.apply e).of k = if k = e.user then (if (r.of k).m = false then r.of k else { r.of k with t := e.name }) else r.of k := by
    intro k
    unfold Room.apply turn
    simp only [he]
    rfl
  refine vote_congr (h.apply e) h (fun k => ?_) (fun k => ?_) (fun k hk => ?_) k
  · rw [e0]; repeat' split
    all_goals rfl
  · rw [e0]; repeat' split
    all_goals rfl
  · rw [e0] at hk ⊢
    by_cases c : k = e.user
    · subst c
      rw [if_pos rfl] at hk ⊢
      rcases hc with hc | hc
      · split at hk
        · exact absurd hk hc
        · exact absurd hk hc
      · rw [if_pos hc]
    · rw [if_neg c]
end Qu
end Go.Proofs.Ytbcldkbacdnpiaa
