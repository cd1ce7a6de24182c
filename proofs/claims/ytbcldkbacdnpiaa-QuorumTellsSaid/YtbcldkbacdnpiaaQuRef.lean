/- The reference's Moderator and Direct: the walks. -/
import Derived.Test.YtbcldkbacdnpiaaQuMods
import Derived.Test.YtbcldkbacdnpiaaQuLateW
namespace Go.Proofs.Ytbcldkbacdnpiaa
open Go.RowKit Go.Maps Go.WideShapes Qu
theorem mod_step (r : Room) (e : Ev) (u : ByteArray) : ((r.apply e).of u).m = (if u = e.user ∧ e.kind = 0 then true else if u = e.user ∧ e.kind = 1 then false else (r.of u).m) := by
  unfold Room.apply
  simp only
  by_cases c : u = e.user
  · simp only [c, if_true, true_and]
    unfold turn
    split
    · rfl
    · split
      · rfl
      · repeat' split
        all_goals rfl
  · simp [c]
theorem d_step (r : Room) (e : Ev) (u : ByteArray) : ((r.apply e).of u).d = (if u = e.user ∧ (e.kind = 3 ∨ e.kind = 4) ∧ (r.of u).m = true then (if e.kind = 4 then -1 else 1) else (r.of u).d) := by
  unfold Room.apply
  simp only
  by_cases c : u = e.user
  · simp only [c, if_true, true_and]
    unfold turn
    by_cases k0 : e.kind = 0
    · simp [k0]
    · by_cases k1 : e.kind = 1
      · simp [k1]
      · cases hm : (r.of e.user).m
        · simp [k0, k1]
        · by_cases k2 : e.kind = 2
          · simp [k2]
          · by_cases k3 : e.kind = 3
            · simp [k3]
            · by_cases k4 : e.kind = 4
              · simp [k4]
              · simp [k0, k1, k2, k3, k4]
  · simp [c]
theorem str_eq {a b : ByteArray} (h : a.toList = b.toList) : b = a := by
  rw [ByteArray.toList_eq, ByteArray.toList_eq] at h
  exact bytes_ext h.symm
theorem str_ne {a b : ByteArray} (h : ¬ a.toList = b.toList) : ¬ b = a := fun e => h (by rw [e])
theorem modA {e : Ev} {u : ByteArray} {m : Bool} (h : e.user.toList = u.toList) (h0 : (e.kind == 0) = true) : Value.bool true = Value.bool (if u = e.user ∧ e.kind = 0 then true else if u = e.user ∧ e.kind = 1 then false else m) := by
  rw [if_pos ⟨str_eq h, by simpa using h0⟩]
theorem modB {e : Ev} {u : ByteArray} {m : Bool} (h : e.user.toList = u.toList) (h0 : (e.kind == 0) = false) (h1 : (e.kind == 1) = true) : Value.bool false = Value.bool (if u = e.user ∧ e.kind = 0 then true else if u = e.user ∧ e.kind = 1 then false else m) := by
  rw [if_neg (by simp at h0; simp [h0]), if_pos ⟨str_eq h, by simpa using h1⟩]
theorem modC {e : Ev} {u : ByteArray} {m : Bool} (h0 : (e.kind == 0) = false) (h1 : (e.kind == 1) = false) : Value.bool m = Value.bool (if u = e.user ∧ e.kind = 0 then true else if u = e.user ∧ e.kind = 1 then false else m) := by
  rw [if_neg (by simp at h0; simp [h0]), if_neg (by simp at h1; simp [h1])]
theorem modD {e : Ev} {u : ByteArray} {m : Bool} (h : ¬ e.user.toList = u.toList) : Value.bool m = Value.bool (if u = e.user ∧ e.kind = 0 then true else if u = e.user ∧ e.kind = 1 then false else m) := by
  rw [if_neg (fun c => str_ne h c.1), if_neg (fun c => str_ne h c.1)]
theorem dirA {e : Ev} {u : ByteArray} {m : Bool} {d : Int} (h : ¬ e.user.toList = u.toList) : Value.int .i64 d = Value.int .i64 (if u = e.user ∧ (e.kind = 3 ∨ e.kind = 4) ∧ m = true then (if e.kind = 4 then -1 else 1) else d) := by
  rw [if_neg (fun c => str_ne h c.1)]
set_option maxHeartbeats 1000000 in
theorem ref_moderator_any (l : List Ev) (p : Option Addr) (n cap : Nat) (u : ByteArray) (w : World) (hl : EvsAt w p l) (hn : l.length = n) (hlen : n ≤ 1000) :
    Calls Try.prog 35 #[.slice p n cap, .string u] w fun x w' => x = .returned (.bool ((Qu.after l).of u).m) ∧ w = w' := by
  have HL := Lib.hid hl
  subst hn
  clear hl
  obtain ⟨v, hv⟩ : ∃ v, ((Qu.after l).of u).m = v := ⟨_, rfl⟩
  rw [hv]
  have HV := Lib.hid hv
  clear hv
  go_enter Try.func35, Try.ntmps35
  go_wp2_with fail
  go_loop [5, 6] (fun b i => ∃ k : Nat, k ≤ l.length ∧ i = .int .i64 k ∧ b = .bool ((Qu.after (l.take k)).of u).m) (fun _ i => l.length - (intOf i).toNat)
  case atStart => exact ⟨0, Nat.zero_le _, rfl, rfl⟩
  case round =>
    obtain ⟨k, hk, rfl, rfl⟩ := hrel
    by_cases hlt : k < l.length
    · obtain ⟨ab, ao, rfl, hrow⟩ : ∃ b o, p = some ⟨b, o, none⟩ ∧ EvsRow w b o l := HL.out.resolve_left (fun e => by simp [e] at hlt)
      have c1 := hrow.kind k hlt
      have c2 := hrow.user k hlt
      have ha := mod_step (Qu.after (l.take k)) l[k] u
      rw [← after_snoc l k hlt] at ha
      obtain ⟨e, he⟩ : ∃ e, l[k] = e := ⟨_, rfl⟩
      rw [he] at c1 c2 ha
      have hadd : (⟨ab, ao, none⟩ : Addr).add (k * 4) = ⟨ab, ao + k * 4, none⟩ := add_plain _ _ _
      obtain ⟨m0, hm0⟩ : ∃ m0, ((Qu.after (l.take k)).of u).m = m0 := ⟨_, rfl⟩
      rw [hm0] at ha ⊢
      have HA := Lib.hid ha
      clear ha hm0 he hrow
      go_wp2_with fail
      all_goals
        go_round
        case rel =>
          refine ⟨k + 1, by omega, by go_num, ?_⟩
          rw [HA.out]
          first | exact modD ‹_› | exact modA ‹_› ‹_› | exact modB ‹_› ‹_› ‹_› | exact modC ‹_› ‹_›
        case measure => simp [intOf]; omega
    · obtain rfl : k = l.length := by omega
      rw [List.take_length, HV.out]
      go_wp2
      go_ret
      exact ⟨rfl, rfl⟩
theorem ref_moderator_yes (l : List Ev) (p : Option Addr) (n cap : Nat) (u : ByteArray) (w : World) (hl : EvsAt w p l) (hn : l.length = n) (hlen : n ≤ 1000) (h : ((Qu.after l).of u).m = true) :
    Calls Try.prog 35 #[.slice p n cap, .string u] w fun x w' => x = .returned (.bool true) ∧ w = w' := by
  have := ref_moderator_any l p n cap u w hl hn hlen; rw [h] at this; exact this
theorem ref_moderator_no (l : List Ev) (p : Option Addr) (n cap : Nat) (u : ByteArray) (w : World) (hl : EvsAt w p l) (hn : l.length = n) (hlen : n ≤ 1000) (h : ((Qu.after l).of u).m = false) :
    Calls Try.prog 35 #[.slice p n cap, .string u] w fun x w' => x = .returned (.bool false) ∧ w = w' := by
  have := ref_moderator_any l p n cap u w hl hn hlen; rw [h] at this; exact this
set_option maxHeartbeats 2000000 in
theorem ref_direct_any (l : List Ev) (p : Option Addr) (n cap : Nat) (u : ByteArray) (w : World) (hl : EvsAt w p l) (hn : l.length = n) (hlen : n ≤ 1000) (hcap : n ≤ cap) :
    Calls Try.prog 24 #[.slice p n cap, .string u] w fun x w' => x = .returned (.int .i64 ((Qu.after l).of u).d) ∧ w = w' := by
  have HL := Lib.hid hl
  subst hn
  obtain ⟨v, hv⟩ : ∃ v, ((Qu.after l).of u).d = v := ⟨_, rfl⟩
  rw [hv]
  have HV := Lib.hid hv
  clear hv hl
  go_enter Try.func24, Try.ntmps24
  go_wp2_with fail
  go_loop [5, 6] (fun b i => ∃ k : Nat, k ≤ l.length ∧ i = .int .i64 k ∧ b = .int .i64 ((Qu.after (l.take k)).of u).d) (fun _ i => l.length - (intOf i).toNat)
  case atStart => exact ⟨0, Nat.zero_le _, rfl, rfl⟩
  case round =>
    obtain ⟨k, hk, rfl, rfl⟩ := hrel
    by_cases hlt : k < l.length
    · obtain ⟨ab, ao, rfl, hrow⟩ : ∃ b o, p = some ⟨b, o, none⟩ ∧ EvsRow w b o l := HL.out.resolve_left (fun e => by simp [e] at hlt)
      have c1 := hrow.kind k hlt
      have c2 := hrow.user k hlt
      have ha := d_step (Qu.after (l.take k)) l[k] u
      rw [← after_snoc l k hlt] at ha
      obtain ⟨e, he⟩ : ∃ e, l[k] = e := ⟨_, rfl⟩
      rw [he] at c1 c2 ha
      have hadd : (⟨ab, ao, none⟩ : Addr).add (k * 4) = ⟨ab, ao + k * 4, none⟩ := add_plain _ _ _
      have htake := HL.out.take k cap
      have hs2 := run_upto (some ⟨ab, ao, none⟩) l.length cap k (by omega)
      obtain ⟨p2, hp2⟩ : ∃ p2, (if cap = 0 then some (⟨ab, ao, none⟩ : Addr) else (some (⟨ab, ao, none⟩ : Addr)).map (·.add (0 * 4))) = p2 := ⟨_, rfl⟩
      rw [hp2] at hs2 htake
      have HT := Lib.hid htake
      have htl : (l.take k).length = k := by simp; omega
      have HTL := Lib.hid htl
      obtain ⟨d0, hd0⟩ : ∃ d0, ((Qu.after (l.take k)).of u).d = d0 := ⟨_, rfl⟩
      rw [hd0] at ha ⊢
      have HA := Lib.hid ha
      clear ha hd0 he hrow htake hp2 htl
      by_cases hu : e.user.toList = u.toList
      · cases hm : ((Qu.after (l.take k)).of u).m
        · have hM := ref_moderator_no (l.take k) p2 k cap u w HT.out HTL.out (by omega) hm
          have HM := Lib.hid hm
          clear hm
          go_wp2_with (go_at_call 35; refine hM.mono ?_; rintro x w' ⟨rfl, rfl⟩)
          all_goals
            go_round
            case rel =>
              refine ⟨k + 1, by omega, by go_num, ?_⟩
              rw [HA.out, HM.out]
              simp
            case measure => simp [intOf]; omega
        · have hM := ref_moderator_yes (l.take k) p2 k cap u w HT.out HTL.out (by omega) hm
          have HM := Lib.hid hm
          have HU := Lib.hid (str_eq hu)
          clear hm
          by_cases k3 : e.kind = 3
          · rw [k3] at c1
            have K3 := Lib.hid k3
            clear k3
            go_wp2_with (go_at_call 35; refine hM.mono ?_; rintro x w' ⟨rfl, rfl⟩)
            all_goals
              go_round
              case rel =>
                refine ⟨k + 1, by omega, by go_num, ?_⟩
                rw [HA.out, HM.out, if_pos ⟨HU.out, .inl K3.out, rfl⟩, if_neg (by rw [K3.out]; decide)]
              case measure => simp [intOf]; omega
          · by_cases k4 : e.kind = 4
            · rw [k4] at c1
              have K4 := Lib.hid k4
              clear k4 k3
              go_wp2_with (go_at_call 35; refine hM.mono ?_; rintro x w' ⟨rfl, rfl⟩)
              all_goals
                go_round
                case rel =>
                  refine ⟨k + 1, by omega, by go_num, ?_⟩
                  rw [HA.out, HM.out, if_pos ⟨HU.out, .inr K4.out, rfl⟩, if_pos K4.out]
                case measure => simp [intOf]; omega
            · have e3 : (e.kind != 3) = true := by simpa using k3
              have e4 : (e.kind != 4) = true := by simpa using k4
              have K3 := Lib.hid k3
              have K4 := Lib.hid k4
              clear k3 k4
              go_wp2_with fail
              all_goals
                go_round
                case rel =>
                  refine ⟨k + 1, by omega, by go_num, ?_⟩
                  rw [HA.out, if_neg (fun c => c.2.1.elim K3.out K4.out)]
                case measure => simp [intOf]; omega
      · go_wp2_with fail
        all_goals
          go_round
          case rel =>
            refine ⟨k + 1, by omega, by go_num, ?_⟩
            rw [HA.out]
            exact dirA hu
          case measure => simp [intOf]; omega
    · obtain rfl : k = l.length := by omega
      rw [List.take_length, HV.out]
      go_wp2
      go_ret
      exact ⟨rfl, rfl⟩
end Go.Proofs.Ytbcldkbacdnpiaa
