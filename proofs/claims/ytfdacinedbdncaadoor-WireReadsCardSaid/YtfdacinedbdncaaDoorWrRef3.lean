/- missiveref02: the reader: Open, fail, close, Left, Done, Back. -/
import Derived.Test.YtfdacinedbdncaaDoorWrRef1
import Derived.Test.YtfdacinedbdncaaDoorWrWalk3
namespace Go.Proofs.YtfdacinedbdncaaDoor
open Go.RowKit
namespace Wr
/-- the first byte is c -/
def headIs (c : UInt8) (l : List UInt8) : Bool := match l with | x :: _ => x == c | [] => false
abbrev RR (w : World) (b : Nat) (s : St) : Prop := Rd 56 w b s
theorem ropen_any (s : ByteArray) (w : World) :
    Calls Tryd.prog 22 #[.string s] w fun e w' => e = .returned (.pointer (some ⟨w.heap.size, 0, none⟩)) ∧ RR w' w.heap.size ⟨s.data.toList, false⟩ ∧ Below w.heap.size w w' := by
  go_enter Tryd.func22, Tryd.ntmps22
  go_wp2
  go_ret
  refine ⟨rfl, ?_, (Below.refl _ _).alloc (Nat.le_refl _) _⟩
  unfold RR Rd
  rw [bs_self]
  exact heap_alloc_new w _
set_option maxRecDepth 100000 in
theorem rfail_any (b : Nat) (s : St) (w : World) (h : RR w b s) :
    Calls Tryd.prog 51 #[.pointer (some ⟨b, 0, none⟩)] w fun e w' => e = .returned (.int .i64 0) ∧ RR w' b .fail ∧ Fr (· = b) w w' := by
  have c0 := h.c0
  have c1 := h.c1
  have f0 := h.f0
  have f1 := h.f1
  have H := Lib.hid h
  clear h
  go_enter Tryd.func51, Tryd.ntmps51
  go_wp2
  go_ret
  exact ⟨rfl, (H.out.set0 []).set1 true, (((Fr.refl (· = b) w).setCell (p := ⟨b, 0, none⟩) (fun _ => rfl) _).setCell (p := ⟨b, 1, none⟩) (fun _ => rfl) _)⟩
theorem rleft_any (b : Nat) (s : St) (w : World) (h : RR w b s) :
    Calls Tryd.prog 37 #[.pointer (some ⟨b, 0, none⟩)] w fun e w' => e = .returned (.int .i64 s.rest.length) ∧ w = w' := by
  have c0 := h.c0
  have hz : (bs s.rest).size = s.rest.length := bs_size _
  obtain ⟨r, hr⟩ : ∃ r, r = bs s.rest := ⟨_, rfl⟩
  rw [← hr] at c0 hz
  have HZ := Lib.hid hz
  clear h hr hz
  go_enter Tryd.func37, Tryd.ntmps37
  go_wp2
  go_ret
  exact ⟨congrArg (fun n : Nat => Ending.returned (Value.int .i64 (n : Int))) HZ.out, rfl⟩
theorem rdone_any (b : Nat) (s : St) (w : World) (h : RR w b s) :
    Calls Tryd.prog 39 #[.pointer (some ⟨b, 0, none⟩)] w fun e w' => e = .returned (.bool (rdone s)) ∧ w = w' := by
  have c0 := h.c0
  have c1 := h.c1
  obtain ⟨l, bd⟩ := s
  simp only at c0 c1
  unfold rdone
  cases bd with
  | true =>
    clear h
    go_enter Tryd.func39, Tryd.ntmps39
    go_wp2
    go_ret
    exact ⟨rfl, rfl⟩
  | false =>
    cases l with
    | nil =>
      clear h
      go_enter Tryd.func39, Tryd.ntmps39
      go_wp2
      go_ret
      exact ⟨rfl, rfl⟩
    | cons x t =>
      have hne : ((bs (x :: t)).toList == (⟨#[]⟩ : ByteArray).toList) = false := eq_str_no (by simp)
      have hne2 : (bs (x :: t)).toList ≠ [] := by rw [ByteArray.toList_eq]; simp
      have hne3 : ((bs (x :: t)).toList == []) = false := by rw [ByteArray.toList_eq]; simp
      have hne4 : (bs (x :: t)).toList.isEmpty = false := by rw [ByteArray.toList_eq]; simp
      obtain ⟨r, hr⟩ : ∃ r, r = bs (x :: t) := ⟨_, rfl⟩
      rw [← hr] at c0 hne hne2 hne3 hne4
      clear h hr
      go_enter Tryd.func39, Tryd.ntmps39
      go_wp2
      go_ret
      exact ⟨rfl, rfl⟩
set_option maxRecDepth 100000 in
set_option maxHeartbeats 1000000 in
/-- close reads a byte, and says whether it was there -/
theorem rclose_any (c : UInt8) (b : Nat) (s : St) (w : World) (h : RR w b s) (hl : s.rest.length ≤ 140737488355328) :
    Calls Tryd.prog 52 #[.pointer (some ⟨b, 0, none⟩), .int .u8 c.toNat] w fun e w' => e = .returned (.bool (headIs c s.rest)) ∧ RR w' b (rclose c s) ∧ Fr (· = b) w w' := by
  have c0 := h.c0
  have f0 := h.f0
  obtain ⟨l, bd⟩ := s
  simp only at c0 hl
  cases l with
  | nil =>
    have hrc : Hid (rclose c ⟨[], bd⟩ = .fail) := rfl
    have H := Lib.hid h
    clear h
    go_enter Tryd.func52, Tryd.ntmps52
    go_wp2_with fail
    refine (rfail_any b _ w H.out).mono ?_
    rintro e w1 ⟨rfl, h1, f1⟩
    go_wp2
    go_ret
    rw [hrc.out]
    exact ⟨rfl, h1, f1⟩
  | cons x t =>
    have hz : (bs (x :: t)).size = t.length + 1 := by rw [bs_size]; rfl
    have hx : ∀ hh, (bs (x :: t))[0]'hh = x := fun hh => rfl
    have hdrop : (bs (x :: t)).extract 1 (bs (x :: t)).size = bs t := from_eq (x :: t) 1
    simp only [List.length_cons] at hl
    obtain ⟨r, hr⟩ : ∃ r, r = bs (x :: t) := ⟨_, rfl⟩
    rw [← hr] at c0 hz hdrop
    have hx2 : ∀ hh, r[0]'hh = x := by subst hr; exact hx
    have hzp : 1 ≤ r.size := by omega
    have hzq : r.size ≤ 140737488355328 := by omega
    have HD := Lib.hid hdrop
    have H := Lib.hid h
    clear h hz hr hx hdrop
    by_cases hxc : x = c
    · have hrc : Hid (rclose c ⟨x :: t, bd⟩ = ⟨t, bd⟩) := by show _ = _; simp [rclose, hxc]
      have hbc : (x == c) = true := by rw [hxc]; simp
      subst hxc
      go_enter Tryd.func52, Tryd.ntmps52
      go_wp2
      go_ret
      rw [hrc.out, HD.out]
      exact ⟨congrArg (fun b => Ending.returned (Value.bool b)) hbc.symm, H.out.set0 t, (Fr.refl (· = b) w).setCell (p := ⟨b, 0, none⟩) (fun _ => rfl) _⟩
    · have hrc : Hid (rclose c ⟨x :: t, bd⟩ = .fail) := by show _ = _; simp [rclose, hxc]
      have hbc : (x == c) = false := beq_false_of_ne hxc
      have hn1 : ((x.toNat : Int) == (c.toNat : Int)) = false := beq_false_of_ne (fun e => hxc (UInt8.toNat_inj.1 (by omega)))
      have hn2 : ((x.toNat : Int) != (c.toNat : Int)) = true := by simp [bne, hn1]
      go_enter Tryd.func52, Tryd.ntmps52
      go_wp2_with fail
      refine (rfail_any b _ w H.out).mono ?_
      rintro e w1 ⟨rfl, h1, f1⟩
      go_wp2
      go_ret
      rw [hrc.out]
      exact ⟨congrArg (fun b => Ending.returned (Value.bool b)) hbc.symm, h1, f1⟩
end Wr
end Go.Proofs.YtfdacinedbdncaaDoor
