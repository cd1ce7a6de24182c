/- apply: the walk. -/
import Derived.Test.YtbcldkbacdnpiaaQuMap
import Derived.Lib.Hide
import Derived.OneCell
namespace Go.Proofs.Ytbcldkbacdnpiaa
open Go.RowKit Go.Maps Qu
def evval (e : Ev) : Value := .agg #[.int .i64 e.when, .int .i64 e.kind, .string e.user, .string e.name]
structure EvOk (e : Ev) : Prop where
  user : e.user.size ≤ maxLen
  name : e.name.size ≤ maxLen
set_option maxHeartbeats 1000000 in
theorem apply_any (b n : Nat) (r : Room) (e : Ev) (w : World) (hr : RoomAt w b r n) (hn : n < maxLen) (he : EvOk e) :
    Calls Try.prog 27 #[.map (some b), evval e] w fun x w' => x = .returned (.tuple #[]) ∧ RoomAt w' b (r.apply e) (n + 1) ∧ w.grownBy w' (some b) := by
  have hu := he.user
  have hb := hr.lt
  obtain ⟨t, k, us, nm⟩ := e
  unfold evval
  simp only at hu ⊢
  rw [apply_set]
  simp only
  obtain ⟨um, ud, ut, hu'⟩ : ∃ um ud ut, r.of us = ⟨um, ud, ut⟩ := ⟨_, _, _, rfl⟩
  rw [hu']
  have HU := Lib.hid hu'
  clear hu'
  go_enter Try.func27, Try.ntmps27
  go_wp2_with (first | (at_lookup; refine wpList_lookup_room _ rfl _ _ rfl b n r rfl (hr.alloc _) us rfl hu um ud ut HU ?_) | (at_mapUpdate; refine wpList_mapUpdate_room _ rfl _ _ _ rfl b n r rfl ((hr.alloc _).alloc _) hn us rfl hu _ _ _ rfl ?_; intro w' hr' hg))
  all_goals
    go_end0
    refine ⟨rfl, ?_, ((World.grownBy_alloc _ _ _).andThen (World.grownBy_alloc _ _ _) (fun j hj => .inr hj)).andThen hg (fun j hj => .inr hj)⟩
  all_goals simp_all [turn]
end Go.Proofs.Ytbcldkbacdnpiaa
