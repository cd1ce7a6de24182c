/- The reference's To, in, Right, Effective: the walks. -/
import Derived.Test.YtbcldkbacdnpiaaQuCountsW
namespace Go.Proofs.Ytbcldkbacdnpiaa
open Go.RowKit Go.Maps Go.WideShapes Qu
theorem t_step (r : Room) (e : Ev) (u : ByteArray) : ((r.apply e).of u).t = (if u = e.user ∧ e.kind = 2 ∧ (r.of u).m = true then e.name else (r.of u).t) := by
  unfold Room.apply
  simp only
  by_cases c : u = e.user
  · simp only [c, if_true, true_and]
    unfold turn
    by_cases k0 : e.kind = 0
    · simp [k0]
    · by_cases k1 : e.kind = 1
      · simp [k1]
      · cases hm : (r.of e.user).m
        · simp [k0, k1]
        · by_cases k2 : e.kind = 2
          · simp [k2]
          · by_cases k3 : e.kind = 3
            · simp [k3]
            · by_cases k4 : e.kind = 4
              · simp [k4]
              · simp [k0, k1, k2, k3, k4]
  · simp [c]
set_option maxHeartbeats 2000000 in
theorem ref_to_any (l : List Ev) (p : Option Addr) (n cap : Nat) (u : ByteArray) (w : World) (hl : EvsAt w p l) (hn : l.length = n) (hlen : n ≤ 1000) (hcap : n ≤ cap) :
    Calls Try.prog 37 #[.slice p n cap, .string u] w fun x w' => x = .returned (.string ((Qu.after l).of u).t) ∧ w = w' := by
  have HL := Lib.hid hl
  subst hn
  obtain ⟨v, hv⟩ : ∃ v, ((Qu.after l).of u).t = v := ⟨_, rfl⟩
  rw [hv]
  have HV := Lib.hid hv
  clear hv hl
  go_enter Try.func37, Try.ntmps37
  go_wp2_with fail
  go_loop [5, 6] (fun b i => ∃ k : Nat, k ≤ l.length ∧ i = .int .i64 k ∧ b = .string ((Qu.after (l.take k)).of u).t) (fun _ i => l.length - (intOf i).toNat)
  case atStart => exact ⟨0, Nat.zero_le _, rfl, rfl⟩
  case round =>
    obtain ⟨k, hk, rfl, rfl⟩ := hrel
    by_cases hlt : k < l.length
    · obtain ⟨ab, ao, rfl, hrow⟩ : ∃ b o, p = some ⟨b, o, none⟩ ∧ EvsRow w b o l := HL.out.resolve_left (fun e => by simp [e] at hlt)
      have c1 := hrow.kind k hlt
      have c2 := hrow.user k hlt
      have c3 := hrow.name k hlt
      have ha := t_step (Qu.after (l.take k)) l[k] u
      rw [← after_snoc l k hlt] at ha
      obtain ⟨e, he⟩ : ∃ e, l[k] = e := ⟨_, rfl⟩
      rw [he] at c1 c2 c3 ha
      have hadd : (⟨ab, ao, none⟩ : Addr).add (k * 4) = ⟨ab, ao + k * 4, none⟩ := add_plain _ _ _
      have htake := HL.out.take k cap
      have hs2 := run_upto (some ⟨ab, ao, none⟩) l.length cap k (by omega)
      obtain ⟨p2, hp2⟩ : ∃ p2, (if cap = 0 then some (⟨ab, ao, none⟩ : Addr) else (some (⟨ab, ao, none⟩ : Addr)).map (·.add (0 * 4))) = p2 := ⟨_, rfl⟩
      rw [hp2] at hs2 htake
      have HT := Lib.hid htake
      have htl : (l.take k).length = k := by simp; omega
      have HTL := Lib.hid htl
      obtain ⟨d0, hd0⟩ : ∃ d0, ((Qu.after (l.take k)).of u).t = d0 := ⟨_, rfl⟩
      rw [hd0] at ha ⊢
      have HA := Lib.hid ha
      clear ha hd0 he hrow htake hp2 htl
      by_cases hu : e.user.toList = u.toList
      · have HU := Lib.hid (str_eq hu)
        by_cases k2 : e.kind = 2
        · rw [k2] at c1
          have K2 := Lib.hid k2
          clear k2
          cases hm : ((Qu.after (l.take k)).of u).m
          · have hM := ref_moderator_no (l.take k) p2 k cap u w HT.out HTL.out (by omega) hm
            have HM := Lib.hid hm
            clear hm
            go_wp2_with (go_at_call 35; refine hM.mono ?_; rintro x w' ⟨rfl, rfl⟩)
            all_goals
              go_round
              case rel =>
                refine ⟨k + 1, by omega, by go_num, ?_⟩
                rw [HA.out, HM.out]
                simp
              case measure => simp [intOf]; omega
          · have hM := ref_moderator_yes (l.take k) p2 k cap u w HT.out HTL.out (by omega) hm
            have HM := Lib.hid hm
            clear hm
            go_wp2_with (go_at_call 35; refine hM.mono ?_; rintro x w' ⟨rfl, rfl⟩)
            all_goals
              go_round
              case rel =>
                refine ⟨k + 1, by omega, by go_num, ?_⟩
                rw [HA.out, HM.out, if_pos ⟨HU.out, K2.out, rfl⟩]
              case measure => simp [intOf]; omega
        · have e2 : (e.kind == 2) = false := by simpa using k2
          have K2 := Lib.hid k2
          clear k2
          go_wp2_with fail
          all_goals
            go_round
            case rel =>
              refine ⟨k + 1, by omega, by go_num, ?_⟩
              rw [HA.out, if_neg (fun c => K2.out c.2.1)]
            case measure => simp [intOf]; omega
      · go_wp2_with fail
        all_goals
          go_round
          case rel =>
            refine ⟨k + 1, by omega, by go_num, ?_⟩
            rw [HA.out, if_neg (fun c => str_ne hu c.1)]
          case measure => simp [intOf]; omega
    · obtain rfl : k = l.length := by omega
      rw [List.take_length, HV.out]
      go_wp2
      go_ret
      exact ⟨rfl, rfl⟩
set_option maxHeartbeats 1000000 in
theorem ref_in_any (sn : List ByteArray) (p : Option Addr) (cap : Nat) (u : ByteArray) (w : World) (hs : StrAt w p sn) (hlen : sn.length ≤ 1000) :
    Calls Try.prog 38 #[.slice p sn.length cap, .string u] w fun x w' => x = .returned (.bool (decide (u ∈ sn))) ∧ w = w' := by
  have HSS := Lib.hid hs
  obtain ⟨v, hv⟩ : ∃ v, decide (u ∈ sn) = v := ⟨_, rfl⟩
  rw [hv]
  have HV := Lib.hid hv
  clear hs hv
  go_enter Try.func38, Try.ntmps38
  go_wp2_with fail
  go_loop [5] (fun i => ∃ j : Nat, j ≤ sn.length ∧ i = .int .i64 j ∧ Hid (u ∉ sn.take j)) (fun i => sn.length - (intOf i).toNat)
  case atStart => exact ⟨0, Nat.zero_le _, rfl, Lib.hid (by simp)⟩
  case round =>
    obtain ⟨j, hj, rfl, hno⟩ := hrel
    by_cases hjl : j < sn.length
    · obtain ⟨sb, so, rfl, hsrow⟩ : ∃ b o, p = some ⟨b, o, none⟩ ∧ StrRow w b o sn := HSS.out.resolve_left (fun e => by simp [e] at hjl)
      have s0 := hsrow.cell j hjl
      have hadd2 : (⟨sb, so, none⟩ : Addr).add j = ⟨sb, so + j, none⟩ := add_plain _ _ _
      have ht := take_mem_snoc sn j hjl
      have hmem : sn[j] ∈ sn := List.getElem_mem hjl
      obtain ⟨m, hm⟩ : ∃ m, sn[j] = m := ⟨_, rfl⟩
      rw [hm] at s0 ht hmem
      have HTk := Lib.hid ht
      have HMem := Lib.hid hmem
      clear ht hsrow hm hmem
      by_cases he : m.toList = u.toList
      · have hv1 : v = true := by rw [← HV.out, decide_eq_true_eq, str_eq he]; exact HMem.out
        subst hv1
        go_wp2
        go_ret
        exact ⟨rfl, rfl⟩
      · have eb : (m.toList == u.toList) = false := by simpa using he
        go_wp2_with fail
        go_round
        case rel => exact ⟨j + 1, by omega, by go_num, Lib.hid (by rw [HTk.out]; simp only [List.mem_append, List.mem_singleton, not_or]; exact ⟨hno.out, str_ne he⟩)⟩
        case measure => simp [intOf]; omega
    · obtain rfl : j = sn.length := by omega
      have hv0 : v = false := by rw [← HV.out, decide_eq_false_iff_not]; have := hno.out; rwa [List.take_length] at this
      subst hv0
      clear hno
      go_wp2
      go_ret
      exact ⟨rfl, rfl⟩
set_option maxHeartbeats 1000000 in
theorem ref_right_any (q : Q) (w : World) : Calls Try.prog 19 #[qval q] w fun x w' => x = .returned (.bool q.right) ∧ Below w.heap.size w w' := by
  unfold Q.right
  obtain ⟨a, v, t, f⟩ := q
  unfold qval
  simp only
  have fin : ∀ o, Below w.heap.size w (w.alloc o) := fun o => (Below.refl _ _).alloc (Nat.le_refl _) o
  by_cases h1 : 1 ≤ a
  · by_cases h2 : a ≤ 16
    · by_cases h3 : 1 ≤ v
      · by_cases h4 : v ≤ 16
        · by_cases h5 : 60000 ≤ t
          · rw [decide_eq_true h1, decide_eq_true h2, decide_eq_true h3, decide_eq_true h4, decide_eq_true h5]
            simp only [Bool.true_and]
            go_enter Try.func19, Try.ntmps19
            go_wp2
            go_ret
            exact ⟨rfl, fin _⟩
          · rw [decide_eq_false h5]
            simp only [Bool.and_false, Bool.false_and]
            go_enter Try.func19, Try.ntmps19
            go_wp2
            go_ret
            exact ⟨rfl, fin _⟩
        · rw [decide_eq_false h4]
          simp only [Bool.and_false, Bool.false_and]
          go_enter Try.func19, Try.ntmps19
          go_wp2
          go_ret
          exact ⟨rfl, fin _⟩
      · rw [decide_eq_false h3]
        simp only [Bool.and_false, Bool.false_and]
        go_enter Try.func19, Try.ntmps19
        go_wp2
        go_ret
        exact ⟨rfl, fin _⟩
    · rw [decide_eq_false h2]
      simp only [Bool.and_false, Bool.false_and]
      go_enter Try.func19, Try.ntmps19
      go_wp2
      go_ret
      exact ⟨rfl, fin _⟩
  · rw [decide_eq_false h1]
    simp only [Bool.false_and]
    go_enter Try.func19, Try.ntmps19
    go_wp2
    go_ret
    exact ⟨rfl, fin _⟩
end Go.Proofs.Ytbcldkbacdnpiaa
