/- after, Count, Effective: the walks. -/
import Derived.Test.YtbcldkbacdnpiaaQuSmall
namespace Go.Proofs.Ytbcldkbacdnpiaa
open Go.RowKit Go.Maps Go.WideShapes Qu
theorem after_snoc (l : List Ev) (k : Nat) (h : k < l.length) : Qu.after (l.take (k + 1)) = (Qu.after (l.take k)).apply l[k] := by
  unfold Qu.after
  rw [List.take_succ_eq_append_getElem h, List.foldl_append]
  rfl
/-- what holds of the room after some events -/
structure Made (r : Room) (n : Nat) : Prop where
  fine : r.Fine
  short : r.Short
  keys : r.keys.length ≤ n
theorem Made.none : Made Room.none 0 := ⟨Room.fine_none, short_none, Nat.le_refl _⟩
theorem Made.apply {r : Room} {n : Nat} (h : Made r n) {e : Ev} (he : EvOk e) : Made (r.apply e) (n + 1) :=
  ⟨h.fine.apply e, h.short.apply he, Nat.le_trans (keys_apply r e) (Nat.succ_le_succ h.keys)⟩
theorem made_take {l : List Ev} (hok : ∀ e ∈ l, EvOk e) : ∀ k, k ≤ l.length → Made (Qu.after (l.take k)) k
  | 0, _ => by simpa [Qu.after] using Made.none
  | k + 1, h => by
    rw [after_snoc l k h]
    exact (made_take hok k (by omega)).apply (hok _ (List.getElem_mem h))
theorem made_after {l : List Ev} (hok : ∀ e ∈ l, EvOk e) : Made (Qu.after l) l.length := by
  have := made_take hok l.length (Nat.le_refl _)
  rwa [List.take_length] at this
set_option maxHeartbeats 2000000 in
theorem after_any (l : List Ev) (p : Option Addr) (cap : Nat) (w : World) (hl : EvsAt w p l) (hlen : l.length ≤ 1000) :
    Calls Try.prog 29 #[.slice p l.length cap] w fun x w' => x = .returned (.map (some w.heap.size)) ∧ RoomAt w' w.heap.size (Qu.after l) l.length ∧ Below w.heap.size w w' := by
  have HL := Lib.hid hl
  have hmm := @run_makeMap Try.prog
  have hroom := RoomAt.made w
  clear hl
  go_enter Try.func29, Try.ntmps29
  go_wp2_with fail
  go_loopw [9] (fun i wr => ∃ k : Nat, k ≤ l.length ∧ i = .int .i64 k ∧ RoomAt wr w.heap.size (Qu.after (l.take k)) k ∧ Below w.heap.size w wr) (fun i _ => l.length - (intOf i).toNat)
  case atStart => exact ⟨0, Nat.zero_le _, rfl, hroom, (Below.refl _ _).alloc (Nat.le_refl _) _⟩
  case round =>
    obtain ⟨k, hk, rfl, hrm, hbl⟩ := hrel
    have HB := Lib.hid hbl
    have hsz := hrm.lt
    clear hbl hroom
    by_cases hlt : k < l.length
    · obtain ⟨ab, ao, rfl, hrow⟩ : ∃ b o, p = some ⟨b, o, none⟩ ∧ EvsRow wr b o l := (HL.out.below HB.out (Nat.le_refl _)).resolve_left (fun e => by simp [e] at hlt)
      have c0 := hrow.when k hlt
      have c1 := hrow.kind k hlt
      have c2 := hrow.user k hlt
      have c3 := hrow.name k hlt
      have hok := hrow.ok _ (List.getElem_mem hlt)
      have ha := after_snoc l k hlt
      obtain ⟨e, he⟩ : ∃ e, l[k] = e := ⟨_, rfl⟩
      rw [he] at c0 c1 c2 c3 hok ha
      have HA := Lib.hid ha
      have hadd : (⟨ab, ao, none⟩ : Addr).add (k * 4) = ⟨ab, ao + k * 4, none⟩ := add_plain _ _ _
      have hap := apply_any w.heap.size k (Qu.after (l.take k)) e _ (hrm.alloc (.cells #[.int .i64 e.when, .int .i64 e.kind, .string e.user, .string e.name] 31)) (by unfold maxLen; omega) hok
      clear ha he hrow
      go_wp2_with fail
      refine hap.mono ?_
      rintro x w3 ⟨rfl, hr3, hg3⟩
      have HR3 := Lib.hid hr3
      have HB3 := Lib.hid ((HB.out.alloc HB.out.size (.cells #[.int .i64 e.when, .int .i64 e.kind, .string e.user, .string e.name] 31)).trans (below_of_grown hg3 (Nat.le_refl _) (by simp; omega)))
      clear hap hr3 hg3
      go_wp2
      go_roundw
      case rel => exact ⟨k + 1, by omega, by go_num, by rw [HA.out]; exact HR3.out, HB3.out⟩
      case measure => simp [intOf]; omega
    · obtain rfl : k = l.length := by omega
      rw [List.take_length] at hrm
      have HRM := Lib.hid hrm
      clear hrm
      go_wp2
      go_ret
      exact ⟨rfl, HRM.out, HB.out⟩
theorem quorum_count_any (l : List Ev) (p : Option Addr) (cap : Nat) (w : World) (hl : EvsAt w p l) (hlen : l.length ≤ 1000) :
    Calls Try.prog 16 #[.slice p l.length cap] w fun x w' => x = .returned (.tuple #[.int .i64 ((Qu.after l).votes 1), .int .i64 ((Qu.after l).votes (-1))]) ∧ Below w.heap.size w w' := by
  have hm := made_after hl.okAll
  have ha := after_any l p cap w hl hlen
  have hc := fun w' (hr : RoomAt w' w.heap.size (Qu.after l) l.length) => count_any w.heap.size l.length (Qu.after l) w' hr hm.fine (by have := hm.keys; unfold maxLen; omega) hm.short
  clear hl hm
  generalize (Qu.after l) = r at ha hc ⊢
  go_enter Try.func16, Try.ntmps16
  go_wp2_with fail
  refine ha.mono ?_
  rintro x w1 ⟨rfl, hr1, hb1⟩
  have hc1 := hc w1 hr1
  have HB := Lib.hid hb1
  clear hr1 hb1 hc ha
  go_wp2_with fail
  refine hc1.mono ?_
  rintro x w2 ⟨rfl, hb2⟩
  have HB2 := Lib.hid (HB.out.trans (hb2.mono HB.out.size))
  clear hb2
  go_wp2
  go_ret2
  exact ⟨rfl, HB2.out⟩
theorem effective_any (l : List Ev) (p : Option Addr) (cap : Nat) (k : ByteArray) (w : World) (hl : EvsAt w p l) (hlen : l.length ≤ 1000) (hk : k.size ≤ maxLen) :
    Calls Try.prog 20 #[.slice p l.length cap, .string k] w fun x w' => x = .returned (.int .i64 ((Qu.after l).vote k)) ∧ Below w.heap.size w w' := by
  have hm := made_after hl.okAll
  have ha := after_any l p cap w hl hlen
  have hc := fun w' (hr : RoomAt w' w.heap.size (Qu.after l) l.length) => vote_any w.heap.size l.length (Qu.after l) k w' hr hm.fine (by have := hm.keys; unfold maxLen; omega) hk hm.short
  clear hl hm
  generalize (Qu.after l) = r at ha hc ⊢
  go_enter Try.func20, Try.ntmps20
  go_wp2_with fail
  refine ha.mono ?_
  rintro x w1 ⟨rfl, hr1, hb1⟩
  have hc1 := hc w1 hr1
  have HB := Lib.hid hb1
  clear hr1 hb1 hc ha
  go_wp2_with fail
  refine hc1.mono ?_
  rintro x w2 ⟨rfl, hb2⟩
  have HB2 := Lib.hid (HB.out.trans (hb2.mono HB.out.size))
  clear hb2
  go_wp2
  go_ret
  exact ⟨rfl, HB2.out⟩
end Go.Proofs.Ytbcldkbacdnpiaa
