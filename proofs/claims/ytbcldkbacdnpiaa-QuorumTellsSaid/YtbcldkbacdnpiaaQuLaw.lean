/- What is decided stays decided; what is late decides nothing: on lists; no program in sight. -/
import Derived.Test.YtbcldkbacdnpiaaQuSpec
namespace Go.Proofs.Ytbcldkbacdnpiaa
namespace Qu
variable (q : Q) (held : Int)
theorem run_nil (now : Int) (r : Room) : run q held now r [] = if held + q.wait > now then (0, 0) else if q.free = true then (1, held + q.wait) else (2, held + q.wait) := rfl
theorem run_cons (now : Int) (r : Room) (e : Ev) (l : List Ev) : run q held now r (e :: l) =
    if e.when > now ∨ e.when ≥ held + q.wait then run q held now r l
    else if ((r.apply e).votes (-1) : Int) ≥ q.veto then (2, max held e.when)
    else if ((r.apply e).votes 1 : Int) ≥ q.need then (1, max held e.when)
    else run q held now (r.apply e) l := rfl
theorem run_out (hw : 0 ≤ q.wait) (now : Int) : ∀ (l : List Ev) (r : Room),
    ((run q held now r l).1 = 0 ∧ (run q held now r l).2 = 0 ∧ now < held + q.wait) ∨
    (((run q held now r l).1 = 1 ∨ (run q held now r l).1 = 2) ∧ held ≤ (run q held now r l).2 ∧ (run q held now r l).2 ≤ held + q.wait ∧ ((run q held now r l).2 ≤ now ∨ (run q held now r l).2 = held))
  | [], r => by
    rw [run_nil]
    by_cases c : held + q.wait > now
    · rw [if_pos c]; exact .inl ⟨rfl, rfl, by omega⟩
    · rw [if_neg c]
      refine .inr ?_
      by_cases f : q.free = true
      · rw [if_pos f]; exact ⟨.inl rfl, show held ≤ held + q.wait by omega, Int.le_refl _, .inl (show held + q.wait ≤ now by omega)⟩
      · rw [if_neg f]; exact ⟨.inr rfl, show held ≤ held + q.wait by omega, Int.le_refl _, .inl (show held + q.wait ≤ now by omega)⟩
  | e :: l, r => by
    rw [run_cons]
    by_cases c : e.when > now ∨ e.when ≥ held + q.wait
    · rw [if_pos c]; exact run_out hw now l r
    · rw [if_neg c]
      by_cases v : ((r.apply e).votes (-1) : Int) ≥ q.veto
      · rw [if_pos v]; exact .inr ⟨.inr rfl, show held ≤ max held e.when by omega, show max held e.when ≤ held + q.wait by omega, show max held e.when ≤ now ∨ max held e.when = held by omega⟩
      · rw [if_neg v]
        by_cases n : ((r.apply e).votes 1 : Int) ≥ q.need
        · rw [if_pos n]; exact .inr ⟨.inl rfl, show held ≤ max held e.when by omega, show max held e.when ≤ held + q.wait by omega, show max held e.when ≤ now ∨ max held e.when = held by omega⟩
        · rw [if_neg n]; exact run_out hw now l _
theorem run_skip (now : Int) (r : Room) : ∀ l : List Ev, (∀ e ∈ l, e.when > now ∨ e.when ≥ held + q.wait) → run q held now r l = run q held now r []
  | [], _ => rfl
  | e :: l, h => by
    have := run_skip now r l (fun e' he' => h e' (List.mem_cons_of_mem _ he'))
    rw [← this, run_cons, if_pos (h e (List.mem_cons_self ..))]
def Asc (l : List Ev) : Prop := l.Pairwise fun a b => a.when ≤ b.when
theorem run_later (now later : Int) (hn : now ≤ later) (more : List Ev) (hmore : ∀ e ∈ more, now ≤ e.when) : ∀ (l : List Ev) (r : Room), Asc (l ++ more) →
    (run q held now r l).1 ≠ 0 → run q held later r (l ++ more) = run q held now r l
  | [], r, _, hp => by
    have hd : held + q.wait ≤ now := by
      by_cases c : held + q.wait > now
      · unfold run at hp; simp [c] at hp
      · omega
    rw [List.nil_append, run_skip q held later r more (fun e he => .inr (by have := hmore e he; omega))]
    rw [run_nil, run_nil, if_neg (show ¬ held + q.wait > later by omega), if_neg (show ¬ held + q.wait > now by omega)]
  | e :: l, r, ha, hp => by
    have ha' : Asc (l ++ more) := (List.pairwise_cons.1 ha).2
    have hle : ∀ e' ∈ l ++ more, e.when ≤ e'.when := (List.pairwise_cons.1 ha).1
    rw [run_cons] at hp
    rw [List.cons_append, run_cons, run_cons]
    by_cases c : e.when ≥ held + q.wait
    · rw [if_pos (.inr c)] at hp
      rw [if_pos (.inr c), if_pos (.inr c)]
      exact run_later now later hn more hmore l r ha' hp
    · by_cases c2 : e.when > now
      · rw [if_pos (.inl c2)] at hp
        exfalso
        rw [run_skip q held now r l (fun e' he' => .inl (by have := hle e' (List.mem_append_left _ he'); omega))] at hp
        unfold run at hp
        rw [if_pos (by omega)] at hp
        exact hp rfl
      · rw [if_neg (show ¬ (e.when > now ∨ e.when ≥ held + q.wait) by omega)] at hp
        rw [if_neg (show ¬ (e.when > later ∨ e.when ≥ held + q.wait) by omega), if_neg (show ¬ (e.when > now ∨ e.when ≥ held + q.wait) by omega)]
        by_cases v : ((r.apply e).votes (-1) : Int) ≥ q.veto
        · rw [if_pos v, if_pos v]
        · rw [if_neg v] at hp
          rw [if_neg v, if_neg v]
          by_cases n : ((r.apply e).votes 1 : Int) ≥ q.need
          · rw [if_pos n, if_pos n]
          · rw [if_neg n] at hp
            rw [if_neg n, if_neg n]
            exact run_later now later hn more hmore l _ ha' hp
theorem run_before (hw : 0 ≤ q.wait) (now : Int) : ∀ (l : List Ev) (r : Room), Asc l → (run q held now r l).1 ≠ 0 → (run q held now r l).2 ≠ held →
    run q held ((run q held now r l).2 - 1) r l = (0, 0)
  | [], r, _, hp, _ => by
    have e : (run q held now r []).2 = held + q.wait := by
      unfold run at hp ⊢
      by_cases c : held + q.wait > now
      · simp [c] at hp
      · simp only [c, if_false]
        split <;> rfl
    rw [e]
    unfold run
    rw [if_pos (by omega)]
  | e :: l, r, ha, hp, hh => by
    have ha' : Asc l := (List.pairwise_cons.1 ha).2
    have hle : ∀ e' ∈ l, e.when ≤ e'.when := (List.pairwise_cons.1 ha).1
    have hb : (run q held now r (e :: l)).2 ≤ held + q.wait := by
      rcases run_out q held hw now (e :: l) r with h | h
      · exact absurd h.1 hp
      · exact h.2.2.1
    -- if e comes after the moment, all do
    have gone : ∀ t : Int, t ≤ held + q.wait → e.when > t - 1 → run q held (t - 1) r (e :: l) = (0, 0) := by
      intro t ht h1
      rw [run_skip q held (t - 1) r (e :: l) (fun e' he' => by
        rcases List.mem_cons.1 he' with rfl | h
        · exact .inl h1
        · exact .inl (by have := hle e' h; omega))]
      unfold run
      rw [if_pos (by omega)]
    by_cases g : e.when > (run q held now r (e :: l)).2 - 1
    · exact gone _ hb g
    · have e1 : run q held now r (e :: l) = (if e.when > now ∨ e.when ≥ held + q.wait then run q held now r l
          else if ((r.apply e).votes (-1) : Int) ≥ q.veto then (2, max held e.when)
          else if ((r.apply e).votes 1 : Int) ≥ q.need then (1, max held e.when)
          else run q held now (r.apply e) l) := run_cons ..
      by_cases c : e.when > now ∨ e.when ≥ held + q.wait
      · by_cases c2 : e.when ≥ held + q.wait
        · rw [if_pos c] at e1
          exfalso; omega
        · exfalso
          rw [if_pos c] at e1
          rw [e1, run_skip q held now r l (fun e' he' => .inl (by have := hle e' he'; omega))] at hp
          unfold run at hp
          rw [if_pos (by omega)] at hp
          exact hp rfl
      · rw [if_neg c] at e1
        by_cases v : ((r.apply e).votes (-1) : Int) ≥ q.veto
        · rw [if_pos v] at e1
          exfalso
          rw [e1] at hh g
          simp only at hh g
          omega
        · rw [if_neg v] at e1
          by_cases n : ((r.apply e).votes 1 : Int) ≥ q.need
          · rw [if_pos n] at e1
            exfalso
            rw [e1] at hh g
            simp only at hh g
            omega
          · rw [if_neg n] at e1
            rw [e1] at hp hh g ⊢
            have := run_before hw now l (r.apply e) ha' hp hh
            rw [run_cons, if_neg (show ¬ (e.when > (run q held now (r.apply e) l).2 - 1 ∨ e.when ≥ held + q.wait) by omega), if_neg v, if_neg n]
            exact this
/-- no vote has decided -/
def Idle (r : Room) : Prop := (r.votes (-1) : Int) < q.veto ∧ (r.votes 1 : Int) < q.need
theorem run_of (now : Int) : ∀ (l : List Ev) (r r' : Room), r.Fine → r'.Fine → r.of = r'.of → run q held now r l = run q held now r' l
  | [], _, _, _, _, _ => rfl
  | e :: l, r, r', h, h', hf => by
    have hf' : (r.apply e).of = (r'.apply e).of := by unfold Room.apply; simp only [hf]
    unfold run
    rw [votes_of (h.apply e) (h'.apply e) hf' (-1) (by decide), votes_of (h.apply e) (h'.apply e) hf' 1 (by decide), run_of now l r r' h h' hf, run_of now l _ _ (h.apply e) (h'.apply e) hf']
theorem turn_unknown (u : U) (e : Ev) (h : e.kind < 0 ∨ 5 ≤ e.kind) : turn u e = u := by
  unfold turn
  rw [if_neg (by omega), if_neg (by omega)]
  split
  · rfl
  · rw [if_neg (by omega), if_neg (by omega), if_neg (by omega)]
theorem apply_unknown (r : Room) (e : Ev) (h : e.kind < 0 ∨ 5 ≤ e.kind) : (r.apply e).of = r.of := by
  unfold Room.apply
  funext k
  simp only [turn_unknown _ e h]
  split <;> rfl
theorem run_late (now : Int) (late : Ev) (hl : late.when > now ∨ late.when ≥ held + q.wait ∨ late.kind < 0 ∨ 5 ≤ late.kind) (l2 : List Ev) : ∀ (l1 : List Ev) (r : Room), r.Fine → Idle q r →
    run q held now r (l1 ++ late :: l2) = run q held now r (l1 ++ l2)
  | [], r, h, hi => by
    rw [List.nil_append, List.nil_append]
    rw [run_cons]
    by_cases c : late.when > now ∨ late.when ≥ held + q.wait
    · rw [if_pos c]
    · have hk : late.kind < 0 ∨ 5 ≤ late.kind := by omega
      have hf := apply_unknown r late hk
      rw [if_neg c, votes_of (h.apply late) h hf (-1) (by decide), votes_of (h.apply late) h hf 1 (by decide), if_neg (by have := hi.1; omega), if_neg (by have := hi.2; omega)]
      exact run_of q held now l2 _ _ (h.apply late) h hf
  | e :: l1, r, h, hi => by
    rw [List.cons_append, List.cons_append, run_cons, run_cons, run_late now late hl l2 l1 r h hi]
    by_cases v : ((r.apply e).votes (-1) : Int) ≥ q.veto
    · rw [if_pos v, if_pos v]
    · by_cases n : ((r.apply e).votes 1 : Int) ≥ q.need
      · rw [if_neg v, if_neg v, if_pos n, if_pos n]
      · rw [if_neg v, if_neg v, if_neg n, if_neg n, run_late now late hl l2 l1 (r.apply e) (h.apply e) ⟨by omega, by omega⟩]
theorem right_parts {q : Q} (h : q.right = true) : 1 ≤ q.need ∧ q.need ≤ 16 ∧ 1 ≤ q.veto ∧ q.veto ≤ 16 ∧ 60000 ≤ q.wait ∧ q.wait ≤ 86400000000 := by
  unfold Q.right at h
  simp only [Bool.and_eq_true, decide_eq_true_eq] at h
  omega
theorem idle_none {q : Q} (h : q.right = true) : Idle q Room.none := by
  have := right_parts h
  unfold Idle Room.votes Room.none
  simp
  omega
/-- the vote from y on, with just enough fuel -/
def chased (r : Room) (seen : List ByteArray) (y : ByteArray) : Int := chase r.of ((r.keys.filter (fun k => decide (k ∉ seen))).length + 1) seen y
theorem vote_direct {r : Room} {k : ByteArray} (h : (r.of k).d ≠ 0 ∨ (r.of k).m = false) : r.vote k = (r.of k).d := by
  unfold Room.vote
  rw [if_pos h]
theorem vote_start {r : Room} (h : r.Fine) {k : ByteArray} (hd : (r.of k).d = 0) (hm : (r.of k).m = true) : r.vote k = chased r [k] (r.of k).t := by
  unfold Room.vote chased
  rw [if_neg (by simp [hd, hm])]
  exact chase_fuel r.of r.keys (fun k hk => h.mod k hk) _ _ _ _ (Nat.lt_succ_of_le (List.length_filter_le _ _)) (Nat.lt_succ_self _)
theorem chased_stop {r : Room} {seen : List ByteArray} {y : ByteArray} (h : y = ⟨#[]⟩ ∨ y ∈ seen ∨ (r.of y).m = false) : chased r seen y = 0 := by
  unfold chased chase
  rw [if_pos h]
theorem chased_found {r : Room} {seen : List ByteArray} {y : ByteArray} (h : ¬ (y = ⟨#[]⟩ ∨ y ∈ seen ∨ (r.of y).m = false)) (hd : (r.of y).d ≠ 0) : chased r seen y = (r.of y).d := by
  unfold chased chase
  rw [if_neg h, if_pos hd]
theorem chased_on {r : Room} (hf : r.Fine) {seen : List ByteArray} {y : ByteArray} (h : ¬ (y = ⟨#[]⟩ ∨ y ∈ seen ∨ (r.of y).m = false)) (hd : (r.of y).d = 0) : chased r seen y = chased r (y :: seen) (r.of y).t := by
  have hs : y ∉ seen := fun hh => h (.inr (.inl hh))
  have hm : y ∈ r.keys := hf.mod y (by
    cases e : (r.of y).m
    · exact absurd (.inr (.inr e)) h
    · rfl)
  have := filter_lt hm hs
  have e1 : chased r seen y = chase r.of (r.keys.filter (fun k => decide (k ∉ seen))).length (y :: seen) (r.of y).t := by
    conv => lhs; unfold chased chase
    rw [if_neg h, if_neg (by simp [hd])]
  rw [e1]
  exact chase_fuel r.of r.keys (fun k hk => hf.mod k hk) _ _ _ _ this (Nat.lt_succ_self _)
theorem left_lt {r : Room} (hf : r.Fine) {seen : List ByteArray} {y : ByteArray} (h : ¬ (y = ⟨#[]⟩ ∨ y ∈ seen ∨ (r.of y).m = false)) :
    (r.keys.filter (fun k => decide (k ∉ y :: seen))).length < (r.keys.filter (fun k => decide (k ∉ seen))).length :=
  filter_lt (hf.mod y (by
    cases e : (r.of y).m
    · exact absurd (.inr (.inr e)) h
    · rfl)) (fun hh => h (.inr (.inl hh)))
end Qu
end Go.Proofs.Ytbcldkbacdnpiaa
