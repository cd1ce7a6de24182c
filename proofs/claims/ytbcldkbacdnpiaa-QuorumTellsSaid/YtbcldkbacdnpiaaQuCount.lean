/- count: the walk. -/
import Derived.Test.YtbcldkbacdnpiaaQuVote
namespace Go.Proofs.Ytbcldkbacdnpiaa
open Go.RowKit Go.Maps Qu
/-- the votes v of the users that have come -/
def done (r : Room) (left : Lit → Bool) (v : Int) : Nat := (r.keys.filter fun k => !left (.string k.data.toList) && decide (r.vote k = v)).length
theorem done_start (r : Room) (left : Lit → Bool) (v : Int) (h : ∀ k ∈ r.keys, left (.string k.data.toList) = true) : done r left v = 0 := by
  unfold done
  rw [List.length_eq_zero_iff, List.filter_eq_nil_iff]
  intro k hk
  rw [h k hk]; simp
theorem done_end (r : Room) (left : Lit → Bool) (v : Int) (h : ∀ kl, left kl = false) : done r left v = r.votes v := by
  unfold done Room.votes
  congr 1
  apply List.filter_congr
  intro k _
  rw [h]; simp
theorem filter_one_more (p q : ByteArray → Bool) (x : ByteArray) (hp : p x = false) (hq : ∀ k, k ≠ x → q k = p k) : ∀ l : List ByteArray, l.Nodup → x ∈ l → (l.filter q).length = (l.filter p).length + (if q x = true then 1 else 0)
  | [], _, h => by cases h
  | a :: l, hn, h => by
    have hn' := List.nodup_cons.1 hn
    by_cases c : a = x
    · subst c
      have e : l.filter q = l.filter p := List.filter_congr fun k hk => hq k (fun e => hn'.1 (e ▸ hk))
      cases eq : q a
      · simp [hp, eq, e]
      · simp [hp, eq, e]
    · have h' : x ∈ l := by
        rcases List.mem_cons.1 h with h' | h'
        · exact absurd h'.symm c
        · exact h'
      have ih := filter_one_more p q x hp hq l hn'.2 h'
      have e := hq a c
      cases ep : p a
      · rw [ep] at e
        simp only [List.filter_cons, ep, e, Bool.false_eq_true, if_false]
        exact ih
      · rw [ep] at e
        simp only [List.filter_cons, ep, e, if_true, List.length_cons]
        omega
theorem done_step {r : Room} (hf : r.Fine) {left : Lit → Bool} {x : ByteArray} (hx : x ∈ r.keys) (hl : left (.string x.data.toList) = true) (v : Int) :
    done r (fun z => left z && !z.sameKey (.string x.data.toList)) v = done r left v + (if r.vote x = v then 1 else 0) := by
  unfold done
  rw [filter_one_more (fun k => !left (.string k.data.toList) && decide (r.vote k = v)) _ x (by simp [hl]) (fun k hk => by
    have : (Lit.string k.data.toList).sameKey (.string x.data.toList) = false := Maps.sameKey_ne (key_ne hk)
    simp [this]) r.keys hf.nodup hx]
  have : (Lit.string x.data.toList).sameKey (.string x.data.toList) = true := WideAt.sameKey_self (isKey _)
  simp [this]
theorem keyOf_string_inv {key : Value} {kl : Lit} (h : keyOf Try.prog 9 key = some kl) : ∃ s : ByteArray, key = .string s ∧ kl = .string s.data.toList ∧ s.size ≤ maxLen := by
  cases key <;> simp [keyOf, Try.underlying9, mapKey] at h
  exact ⟨_, rfl, h.2.symm, h.1⟩
theorem votes_le (r : Room) (v : Int) (left : Lit → Bool) : done r left v ≤ r.keys.length := List.length_filter_le _ _
set_option maxHeartbeats 1000000 in
theorem count_any (b n : Nat) (r : Room) (w : World) (hr : RoomAt w b r n) (hf : r.Fine) (hn : r.keys.length + 1 < maxLen) (hs : r.Short) :
    Calls Try.prog 28 #[.map (some b)] w fun x w' => x = .returned (.tuple #[.int .i64 (r.votes 1), .int .i64 (r.votes (-1))]) ∧ Below w.heap.size w w' := by
  obtain ⟨D, hown, hsays⟩ := hr
  have hb := hown.lt
  have SY := Lib.hid hsays
  clear hsays
  unfold maxLen at hn
  go_enter Try.func28, Try.ntmps28
  go_wp2_with (first | (at_range; refine wpList_range_own _ rfl _ _ rfl 9 51 law_s Try.underlying45 uelem b n D rfl hown ?_; intro w0 hrg0 hg0 hs0))
  go_frame
  go_loopw [2, 3] (fun y z wr => ∃ (left : Lit → Bool) (cnt : Nat), wr.ranges Try.prog 9 uelem b w.heap.size n D left cnt ∧ Below w.heap.size w wr ∧ w.heap.size < wr.heap.size ∧ y = .int .i64 (done r left 1) ∧ z = .int .i64 (done r left (-1)))
    (fun _ _ wr => wr.rangeLeft b w.heap.size)
  case atStart =>
    have hst : ∀ k ∈ r.keys, Maps.has D (.string k.data.toList) = true := fun k hk => by rw [SY.out.has]; simpa using hk
    refine ⟨_, _, hrg0, ⟨hg0.os, hg0.tape, hg0.output, hg0.size, fun i hi => hg0.block i hi (by simp)⟩, by omega, ?_, ?_⟩
    · rw [done_start r _ 1 hst]; rfl
    · rw [done_start r _ (-1) hst]; rfl
  case round =>
    obtain ⟨left, cnt, hrg, hbl, hsz, rfl, rfl⟩ := hrel
    have l1 := votes_le r 1 left
    have l2 := votes_le r (-1) left
    go_wp2_with (first | (at_next; refine wpList_next_ranges _ rfl _ rfl 9 law_s uelem Value.string uval (fun key kl h => by obtain ⟨s, h, _⟩ := keyOf_string_inv h; exact ⟨s, h⟩) (fun v y h => by obtain ⟨u, h, _⟩ := uelem_inv h; exact ⟨u, h⟩) b w.heap.size n D left cnt rfl hrg ?_ ?_))
    · intro h0 hl0
      go_wp2
      go_ret2
      exact ⟨by rw [done_end r left 1 hl0, done_end r left (-1) hl0]; rfl, hbl⟩
    · intro x c kl y ps w1 cnt1 hk hlk hy hat hrg1 hlt hg1 hs1 hen
      obtain ⟨x', ex, hkl, hxs⟩ := keyOf_string_inv hk
      obtain rfl : x = x' := by simpa using ex
      have hxk : x ∈ r.keys := by
        have := Maps.has_true_of_atKey hat
        rw [hkl, SY.out.has] at this
        simpa using this
      have d1 := done_step hf hxk (hkl ▸ hlk) 1
      have d2 := done_step hf hxk (hkl ▸ hlk) (-1)
      rw [hkl] at hrg1
      have hr1 : RoomAt w1 b r n := ⟨D, hrg1.owns, SY.out⟩
      have hbl1 : Below w.heap.size w w1 := hbl.trans (below_of_grown hg1 (Nat.le_refl _) (by omega))
      have hv := vote_any b n r x w1 hr1 hf (by unfold maxLen; omega) hxs hs
      have hvs : r.vote x = 1 ∨ r.vote x = -1 ∨ (r.vote x ≠ 1 ∧ r.vote x ≠ -1) := by omega
      have m1 := hrg.left_eq
      have HM := Lib.hid m1
      have HRG := Lib.hid hrg1
      have HLT := Lib.hid hlt
      have hsz1 : w.heap.size < w1.heap.size := by omega
      clear m1 hlk hat hk hy hkl ex hg1 hs1 hg0 hs0 hrg0 hrg1 hlt
      obtain ⟨vx, hvx⟩ : ∃ vx, r.vote x = vx := ⟨_, rfl⟩
      rw [hvx] at d1 d2 hv hvs
      have D1 := Lib.hid d1
      have D2 := Lib.hid d2
      clear d1 d2 hvx
      rcases hvs with rfl | rfl | ⟨n1, n2⟩
      · skip
        go_wp2_with fail
        refine hv.mono ?_
        rintro e w2 ⟨rfl, hb2⟩
        have HB2 := Lib.hid hb2
        have hsz2 := Nat.lt_of_lt_of_le hsz1 hb2.size
        have R2 := Lib.hid (HRG.out.kept (w' := w2) (row := none) ⟨hb2.os, hb2.tape, hb2.output, hb2.size, fun i hi _ => hb2.block i hi⟩ (by simp) (by simp))
        clear hb2
        go_wp2
        go_roundw
        case rel =>
          refine ⟨_, cnt1, R2.out, hbl1.trans (HB2.out.mono (by omega)), hsz2, ?_, ?_⟩
          · rw [D1.out]; go_num
          · rw [D2.out]; go_num
        case measure => rw [R2.out.left_eq, HM.out]; exact HLT.out
      · skip
        go_wp2_with fail
        refine hv.mono ?_
        rintro e w2 ⟨rfl, hb2⟩
        have HB2 := Lib.hid hb2
        have hsz2 := Nat.lt_of_lt_of_le hsz1 hb2.size
        have R2 := Lib.hid (HRG.out.kept (w' := w2) (row := none) ⟨hb2.os, hb2.tape, hb2.output, hb2.size, fun i hi _ => hb2.block i hi⟩ (by simp) (by simp))
        clear hb2
        go_wp2
        go_roundw
        case rel =>
          refine ⟨_, cnt1, R2.out, hbl1.trans (HB2.out.mono (by omega)), hsz2, ?_, ?_⟩
          · rw [D1.out]; go_num
          · rw [D2.out]; go_num
        case measure => rw [R2.out.left_eq, HM.out]; exact HLT.out
      · have e1 : (vx == 1) = false := by simpa using n1
        have e2 : (vx == -1) = false := by simpa using n2
        have N1 := Lib.hid n1
        have N2 := Lib.hid n2
        clear n1 n2
        go_wp2_with fail
        refine hv.mono ?_
        rintro e w2 ⟨rfl, hb2⟩
        have HB2 := Lib.hid hb2
        have hsz2 := Nat.lt_of_lt_of_le hsz1 hb2.size
        have R2 := Lib.hid (HRG.out.kept (w' := w2) (row := none) ⟨hb2.os, hb2.tape, hb2.output, hb2.size, fun i hi _ => hb2.block i hi⟩ (by simp) (by simp))
        clear hb2
        go_wp2
        go_roundw
        case rel =>
          refine ⟨_, cnt1, R2.out, hbl1.trans (HB2.out.mono (by omega)), hsz2, ?_, ?_⟩
          · rw [D1.out]; rw [if_neg N1.out]; go_num
          · rw [D2.out]; rw [if_neg N2.out]; go_num
        case measure => rw [R2.out.left_eq, HM.out]; exact HLT.out
end Go.Proofs.Ytbcldkbacdnpiaa
