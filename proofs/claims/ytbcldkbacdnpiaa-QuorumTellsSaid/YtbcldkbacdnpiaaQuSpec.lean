/- The plain functions of package quorum: rooms of users, votes, decisions, on lists; no program in sight. -/
import Derived.WalkKit
namespace Go.Proofs.Ytbcldkbacdnpiaa
namespace Qu
theorem bytes_ext {a b : ByteArray} (h : a.data.toList = b.data.toList) : a = b := by
  cases a; cases b; simp only [ByteArray.mk.injEq]; exact Array.toList_inj.1 h
instance decBytes : DecidableEq ByteArray := fun a b => decidable_of_iff (a.data.toList = b.data.toList) ⟨bytes_ext, fun h => by rw [h]⟩
instance decMem (k : ByteArray) : (l : List ByteArray) → Decidable (k ∈ l)
  | [] => isFalse (by simp)
  | a :: l => match decEq k a, decMem k l with
    | isTrue h, _ => isTrue (by rw [h]; exact List.mem_cons_self ..)
    | _, isTrue h => isTrue (List.mem_cons_of_mem _ h)
    | isFalse h, isFalse h' => isFalse (by simp [h, h'])
/-- a user's state: a moderator, the last direct vote, to whom they delegate -/
structure U where
  m : Bool
  d : Int
  t : ByteArray
def zero : U := ⟨false, 0, ⟨#[]⟩⟩
structure Ev where
  when : Int
  kind : Int
  user : ByteArray
  name : ByteArray
/-- the room: the users that have been met, each once, and their states -/
structure Room where
  keys : List ByteArray
  of : ByteArray → U
def Room.none : Room := ⟨[], fun _ => zero⟩
def turn (u : U) (e : Ev) : U :=
  if e.kind = 0 then { u with m := true }
  else if e.kind = 1 then { u with m := false }
  else if u.m = false then u
  else if e.kind = 2 then { u with t := e.name }
  else if e.kind = 3 then { u with d := 1 }
  else if e.kind = 4 then { u with d := -1 }
  else u
def Room.apply (r : Room) (e : Ev) : Room :=
  ⟨if e.user ∈ r.keys then r.keys else r.keys ++ [e.user], fun k => if k = e.user then turn (r.of k) e else r.of k⟩
/-- the vote at the end of the delegations from y on -/
def chase (f : ByteArray → U) : Nat → List ByteArray → ByteArray → Int
  | 0, _, _ => 0
  | n + 1, seen, y =>
    if y = ⟨#[]⟩ ∨ y ∈ seen ∨ (f y).m = false then 0
    else if (f y).d ≠ 0 then (f y).d
    else chase f n (y :: seen) (f y).t
def Room.vote (r : Room) (k : ByteArray) : Int :=
  if (r.of k).d ≠ 0 ∨ (r.of k).m = false then (r.of k).d else chase r.of (r.keys.length + 1) [k] (r.of k).t
/-- how many users have the vote v -/
def Room.votes (r : Room) (v : Int) : Nat := (r.keys.filter fun k => decide (r.vote k = v)).length
structure Q where
  need : Int
  veto : Int
  wait : Int
  free : Bool
def Q.right (q : Q) : Bool := decide (1 ≤ q.need) && decide (q.need ≤ 16) && decide (1 ≤ q.veto) && decide (q.veto ≤ 16) && decide (60000 ≤ q.wait) && decide (q.wait ≤ 86400000000)
/-- from a room on -/
def run (q : Q) (held now : Int) : Room → List Ev → Int × Int
  | _, [] => if held + q.wait > now then (0, 0) else if q.free = true then (1, held + q.wait) else (2, held + q.wait)
  | r, e :: l =>
    if e.when > now ∨ e.when ≥ held + q.wait then run q held now r l
    else if ((r.apply e).votes (-1) : Int) ≥ q.veto then (2, max held e.when)
    else if ((r.apply e).votes 1 : Int) ≥ q.need then (1, max held e.when)
    else run q held now (r.apply e) l
def decide' (q : Q) (held : Int) (evs : List Ev) (now : Int) : Int × Int :=
  if q.right = false ∨ held < 0 ∨ held > 70368744177664 then (0, 0) else run q held now Room.none evs
def after (evs : List Ev) : Room := evs.foldl Room.apply Room.none

/-! ### what holds of every room -/
structure Room.Fine (r : Room) : Prop where
  nodup : r.keys.Nodup
  zero : ∀ k, k ∉ r.keys → r.of k = Qu.zero
  votes : ∀ k, (r.of k).d = 0 ∨ (r.of k).d = 1 ∨ (r.of k).d = -1
theorem Room.fine_none : Room.none.Fine := ⟨List.nodup_nil, fun _ _ => rfl, fun _ => .inl rfl⟩
theorem turn_d (u : U) (e : Ev) (h : u.d = 0 ∨ u.d = 1 ∨ u.d = -1) : (turn u e).d = 0 ∨ (turn u e).d = 1 ∨ (turn u e).d = -1 := by
  unfold turn
  repeat' split
  all_goals first | exact h | simp
theorem Room.Fine.apply {r : Room} (h : r.Fine) (e : Ev) : (r.apply e).Fine := by
  refine ⟨?_, ?_, ?_⟩
  · unfold Room.apply
    by_cases c : e.user ∈ r.keys
    · simpa [c] using h.nodup
    · simp only [c, if_false]
      rw [List.nodup_append]
      refine ⟨h.nodup, by simp, ?_⟩
      intro a ha b hb e'
      simp at hb
      subst hb; subst e'; exact c ha
  · intro k hk
    unfold Room.apply at hk ⊢
    have hne : k ≠ e.user := by
      intro e'; subst e'
      by_cases c : e.user ∈ r.keys
      · simp [c] at hk
      · simp [c] at hk
    simp only [hne, if_false]
    apply h.zero
    intro c
    apply hk
    by_cases c' : e.user ∈ r.keys
    · simpa [c'] using c
    · simp [c', c]
  · intro k
    unfold Room.apply
    by_cases c : k = e.user
    · simp only [c, if_true]; exact turn_d _ _ (h.votes _)
    · simp only [c, if_false]; exact h.votes k

/-! ### the fuel does not matter -/
theorem filter_le' (p q : ByteArray → Bool) (h : ∀ k, p k = true → q k = true) : ∀ M : List ByteArray, (M.filter p).length ≤ (M.filter q).length
  | [] => Nat.le_refl _
  | a :: M => by
    have ih := filter_le' p q h M
    cases ep : p a
    · cases eq : q a
      · simpa [List.filter_cons, ep, eq] using ih
      · simp only [List.filter_cons, ep, eq, if_true, List.length_cons]
        exact Nat.le_succ_of_le ih
    · have eq := h a ep
      simpa [List.filter_cons, ep, eq] using ih
theorem filter_lt' (p q : ByteArray → Bool) (h : ∀ k, p k = true → q k = true) (y : ByteArray) (hp : p y = false) (hq : q y = true) : ∀ M : List ByteArray, y ∈ M → (M.filter p).length < (M.filter q).length
  | [], hm => by cases hm
  | a :: M, hm => by
    by_cases c : a = y
    · subst c
      have := filter_le' p q h M
      simp only [List.filter_cons, hp, hq, if_true, List.length_cons]
      exact Nat.lt_succ_of_le this
    · have hm' : y ∈ M := by
        rcases List.mem_cons.1 hm with h' | h'
        · exact absurd h'.symm c
        · exact h'
      have ih := filter_lt' p q h y hp hq M hm'
      cases ep : p a
      · cases eq : q a
        · simpa [List.filter_cons, ep, eq] using ih
        · simp only [List.filter_cons, ep, eq, if_true, List.length_cons]
          exact Nat.lt_succ_of_lt ih
      · have eq := h a ep
        simpa [List.filter_cons, ep, eq] using ih
theorem filter_lt {M seen : List ByteArray} {y : ByteArray} (hm : y ∈ M) (hs : y ∉ seen) : (M.filter (fun k => decide (k ∉ y :: seen))).length < (M.filter (fun k => decide (k ∉ seen))).length :=
  filter_lt' _ _ (fun k hk => by simp only [List.mem_cons, not_or, decide_eq_true_eq] at hk ⊢; exact hk.2) y (by simp) (by simpa using hs) M hm
theorem chase_fuel (f : ByteArray → U) (M : List ByteArray) (hM : ∀ k, (f k).m = true → k ∈ M) :
    ∀ (n n' : Nat) (seen : List ByteArray) (y : ByteArray), (M.filter (fun k => decide (k ∉ seen))).length < n → (M.filter (fun k => decide (k ∉ seen))).length < n' → chase f n seen y = chase f n' seen y
  | 0, _, _, _, h, _ => absurd h (by omega)
  | _, 0, _, _, _, h => absurd h (by omega)
  | n + 1, n' + 1, seen, y, h, h' => by
    unfold chase
    by_cases c : y = ⟨#[]⟩ ∨ y ∈ seen ∨ (f y).m = false
    · simp [c]
    · simp only [c, if_false]
      by_cases c' : (f y).d ≠ 0
      · simp [c']
      · simp only [c', if_false]
        have hs : y ∉ seen := fun hh => c (.inr (.inl hh))
        have hm : y ∈ M := hM y (by
          cases e : (f y).m
          · exact absurd (.inr (.inr e)) c
          · rfl)
        have := filter_lt hm hs
        exact chase_fuel f M hM n n' (y :: seen) (f y).t (by omega) (by omega)
theorem vote_zero {r : Room} {k : ByteArray} (h : r.of k = Qu.zero) : r.vote k = 0 := by
  unfold Room.vote
  rw [h]
  simp [Qu.zero]
theorem Room.Fine.mod {r : Room} (h : r.Fine) (k : ByteArray) (hk : (r.of k).m = true) : k ∈ r.keys := by
  by_cases c : k ∈ r.keys
  · exact c
  · rw [h.zero k c] at hk; cases hk
/-- a vote does not depend on the keys -/
theorem vote_of {r r' : Room} (h : r.Fine) (h' : r'.Fine) (hf : r.of = r'.of) (k : ByteArray) : r.vote k = r'.vote k := by
  unfold Room.vote
  rw [← hf]
  by_cases c : (r.of k).d ≠ 0 ∨ (r.of k).m = false
  · simp [c]
  · simp only [c, if_false]
    have key : ∀ n n', r.keys.length < n → r'.keys.length < n' → chase r.of n [k] (r.of k).t = chase r.of n' [k] (r.of k).t := by
      intro n n' hn hn'
      have e1 : chase r.of n [k] (r.of k).t = chase r.of (n + n') [k] (r.of k).t :=
        chase_fuel r.of r.keys (fun k hk => h.mod k hk) _ _ _ _
          (Nat.lt_of_le_of_lt (List.length_filter_le _ _) hn) (Nat.lt_of_le_of_lt (List.length_filter_le _ _) (by omega))
      have e2 : chase r.of n' [k] (r.of k).t = chase r.of (n + n') [k] (r.of k).t :=
        chase_fuel r.of r'.keys (fun k hk => h'.mod k (by rw [← hf]; exact hk)) _ _ _ _
          (Nat.lt_of_le_of_lt (List.length_filter_le _ _) hn') (Nat.lt_of_le_of_lt (List.length_filter_le _ _) (by omega))
      rw [e1, e2]
    exact key _ _ (by omega) (by omega)
theorem votes_of {r r' : Room} (h : r.Fine) (h' : r'.Fine) (hf : r.of = r'.of) (v : Int) (hv : v ≠ 0) : r.votes v = r'.votes v := by
  unfold Room.votes
  apply List.Perm.length_eq
  rw [List.perm_ext_iff_of_nodup (h.nodup.filter _) (h'.nodup.filter _)]
  intro k
  simp only [List.mem_filter, decide_eq_true_eq]
  have e := vote_of h h' hf k
  constructor
  · rintro ⟨_, b⟩
    refine ⟨?_, by rw [← e]; exact b⟩
    by_cases c : k ∈ r'.keys
    · exact c
    · have : r.of k = Qu.zero := by rw [hf]; exact h'.zero k c
      rw [vote_zero this] at b
      exact absurd b.symm hv
  · rintro ⟨_, b⟩
    refine ⟨?_, by rw [e]; exact b⟩
    by_cases c : k ∈ r.keys
    · exact c
    · have : r'.of k = Qu.zero := by rw [← hf]; exact h.zero k c
      rw [vote_zero this] at b
      exact absurd b.symm hv
end Qu
end Go.Proofs.Ytbcldkbacdnpiaa
