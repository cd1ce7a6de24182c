/- Other names for all users: votes, counts and decisions stay; no program in sight. -/
import Derived.Test.YtbcldkbacdnpiaaQuCounts0
namespace Go.Proofs.Ytbcldkbacdnpiaa
namespace Qu
/-- another name: turned around, behind a sign -/
def ren (s : ByteArray) : ByteArray := ⟨(126 :: s.data.toList.reverse).toArray⟩
/-- an empty name stays -/
def ren0 (s : ByteArray) : ByteArray := if s = ⟨#[]⟩ then s else ren s
theorem ren_inj {a b : ByteArray} (h : ren a = ren b) : a = b := by
  have h2 : (ren a).data.toList = (ren b).data.toList := by rw [h]
  have h3 : (126 : UInt8) :: a.data.toList.reverse = 126 :: b.data.toList.reverse := h2
  exact bytes_ext (List.reverse_inj.1 (List.cons.inj h3).2)
theorem ren_ne (a : ByteArray) : ren a ≠ ⟨#[]⟩ := by
  intro h
  have h2 : (ren a).data.toList = (⟨#[]⟩ : ByteArray).data.toList := by rw [h]
  have h3 : (126 : UInt8) :: a.data.toList.reverse = [] := h2
  cases h3
theorem ren_size (a : ByteArray) : (ren a).size = a.size + 1 := by
  show (126 :: a.data.toList.reverse).length = _
  rw [List.length_cons, List.length_reverse, Array.length_toList]; rfl
theorem ren0_size (a : ByteArray) : (ren0 a).size ≤ a.size + 1 := by
  unfold ren0
  split
  · omega
  · rw [ren_size]; exact Nat.le_refl _
def renU (u : U) : U := ⟨u.m, u.d, ren0 u.t⟩
def renE (e : Ev) : Ev := ⟨e.when, e.kind, ren e.user, ren0 e.name⟩
/-- the rooms are one but for the names -/
structure Twin (r r' : Room) : Prop where
  keys : r'.keys = r.keys.map ren
  of : ∀ k, r'.of (ren k) = renU (r.of k)
theorem Twin.none : Twin Room.none Room.none := ⟨rfl, fun _ => by unfold renU Room.none Qu.zero ren0; simp⟩
theorem turn_ren (u : U) (e : Ev) : turn (renU u) (renE e) = renU (turn u e) := by
  unfold turn renE renU
  simp only
  repeat' split
  all_goals first | rfl | simp_all
theorem Twin.apply {r r' : Room} (h : Twin r r') (e : Ev) : Twin (r.apply e) (r'.apply (renE e)) := by
  have hm : ren e.user ∈ r'.keys ↔ e.user ∈ r.keys := by
    rw [h.keys, List.mem_map]
    exact ⟨fun ⟨a, ha, hh⟩ => ren_inj hh ▸ ha, fun ha => ⟨_, ha, rfl⟩⟩
  refine ⟨?_, fun k => ?_⟩
  · by_cases c : e.user ∈ r.keys
    · rw [keys_in r e c, keys_in r' (renE e) (hm.2 c), h.keys]
    · rw [keys_new r e c, keys_new r' (renE e) (fun x => c (hm.1 x)), h.keys, List.map_append]; rfl
  · show (if ren k = (renE e).user then turn (r'.of (ren k)) (renE e) else r'.of (ren k)) = renU (if k = e.user then turn (r.of k) e else r.of k)
    by_cases c : k = e.user
    · rw [if_pos (show ren k = (renE e).user by rw [c]; rfl), if_pos c, h.of, turn_ren]
    · rw [if_neg (show ¬ ren k = (renE e).user from fun x => c (ren_inj x)), if_neg c, h.of]
theorem twin_foldl (l : List Ev) : ∀ {r r' : Room}, Twin r r' → Twin (l.foldl Room.apply r) ((l.map renE).foldl Room.apply r') := by
  induction l with
  | nil => intro r r' h; exact h
  | cons e l ih => intro r r' h; exact ih (h.apply e)
theorem twin_after (l : List Ev) : Twin (after l) (after (l.map renE)) := twin_foldl l Twin.none
theorem mem_ren (y : ByteArray) (seen : List ByteArray) : ren y ∈ seen.map ren ↔ y ∈ seen := by
  rw [List.mem_map]
  exact ⟨fun ⟨a, ha, hh⟩ => ren_inj hh ▸ ha, fun ha => ⟨_, ha, rfl⟩⟩
theorem chase_ren {f f' : ByteArray → U} (h : ∀ k, f' (ren k) = renU (f k)) : ∀ (n : Nat) (seen : List ByteArray) (y : ByteArray), chase f' n (seen.map ren) (ren0 y) = chase f n seen y
  | 0, _, _ => rfl
  | n + 1, seen, y => by
    unfold chase
    by_cases c0 : y = ⟨#[]⟩
    · have : ren0 y = ⟨#[]⟩ := by unfold ren0; rw [if_pos c0, c0]
      rw [if_pos (.inl this), if_pos (.inl c0)]
    · have e : ren0 y = ren y := by unfold ren0; rw [if_neg c0]
      rw [e, h y]
      by_cases c : y ∈ seen ∨ (f y).m = false
      · rw [if_pos (.inr (c.imp (mem_ren y seen).2 (fun x => x))), if_pos (.inr c)]
      · rw [if_neg (fun x => x.elim (ren_ne y) (fun x => c (x.imp (mem_ren y seen).1 (fun x => x))))]
        have e2 : (if y = ⟨#[]⟩ ∨ y ∈ seen ∨ (f y).m = false then 0 else if (f y).d ≠ 0 then (f y).d else chase f n (y :: seen) (f y).t) = (if (f y).d ≠ 0 then (f y).d else chase f n (y :: seen) (f y).t) := if_neg (fun x => x.elim c0 c)
        rw [e2]
        show (if (f y).d ≠ 0 then (f y).d else chase f' n (ren y :: seen.map ren) (ren0 (f y).t)) = _
        rw [show ren y :: seen.map ren = (y :: seen).map ren from rfl, chase_ren h n (y :: seen) (f y).t]
theorem Twin.vote {r r' : Room} (h : Twin r r') (k : ByteArray) : r'.vote (ren k) = r.vote k := by
  unfold Room.vote
  rw [h.of, h.keys, List.length_map]
  show (if (r.of k).d ≠ 0 ∨ (r.of k).m = false then (r.of k).d else chase r'.of (r.keys.length + 1) ([k].map ren) (ren0 (r.of k).t)) = _
  rw [chase_ren h.of]
theorem Twin.votes {r r' : Room} (h : Twin r r') (v : Int) : r'.votes v = r.votes v := by
  unfold Room.votes
  rw [h.keys, List.filter_map, List.length_map]
  congr 1
  apply List.filter_congr
  intro k _
  simp only [Function.comp, h.vote k]
theorem run_ren (q : Q) (held now : Int) : ∀ (l : List Ev) {r r' : Room}, Twin r r' → run q held now r' (l.map renE) = run q held now r l
  | [], _, _, _ => rfl
  | e :: l, r, r', h => by
    rw [List.map_cons, run_cons, run_cons, (h.apply e).votes, (h.apply e).votes, run_ren q held now l h, run_ren q held now l (h.apply e)]
    rfl
theorem decide_ren (q : Q) (held now : Int) (l : List Ev) : decide' q held (l.map renE) now = decide' q held l now := by
  unfold decide'
  rw [run_ren q held now l Twin.none]
theorem Twin.mods {r r' : Room} (h : Twin r r') : (r'.keys.filter fun k => (r'.of k).m).length = (r.keys.filter fun k => (r.of k).m).length := by
  rw [h.keys, List.filter_map, List.length_map]
  congr 1
  apply List.filter_congr
  intro k _
  simp only [Function.comp, h.of k]; rfl
end Qu
end Go.Proofs.Ytbcldkbacdnpiaa
