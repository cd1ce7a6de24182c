/- (*wire.Reader).Num, Int, Text, Left, Done; Open. -/
import Derived.Test.YtlegmhmmoadggaaDoorWrWalk2
namespace Go.Proofs.YtlegmhmmoadggaaDoor
open Go.RowKit
namespace Wr
theorem cutAt_len {c : UInt8} {l h t : List UInt8} (e : cutAt c l = some (h, t)) : h.length + t.length + 1 = l.length := by
  rw [(cutAt_some e).1]; simp; omega
theorem rnum_le (c : UInt8) (least : Int) (s : St) : (rnum c least s).2.rest.length ≤ s.rest.length := by
  unfold rnum
  split
  · simp [St.fail]
  · rename_i a t hc
    have := cutAt_len hc
    split
    · simp [St.fail]
    · split
      · simp [St.fail]
      · simp only; omega
theorem rnum_lt (c : UInt8) (least : Int) (s : St) (h : (rnum c least s).2.bad = false) : (rnum c least s).2.rest.length < s.rest.length := by
  obtain ⟨_, e, _⟩ := rnum_good (n := (rnum c least s).1) (s' := (rnum c least s).2) rfl h
  rw [e]; simp; omega
theorem rclose_le (c : UInt8) (s : St) : (rclose c s).rest.length ≤ s.rest.length := by
  unfold rclose
  split
  · simp [St.fail]
  · rename_i x t hx
    split
    · rw [hx]; simp
    · simp [St.fail]
theorem rnum_i64 (c : UInt8) (least : Int) (s : St) : I64 (rnum c least s).1 := by
  unfold rnum
  split
  · exact ⟨by omega, by omega⟩
  · split
    · exact ⟨by omega, by omega⟩
    · rename_i n hn
      split
      · exact ⟨by omega, by omega⟩
      · split at hn
        · exact (dec_some hn).2
        · cases hn
theorem rnum_ge (c : UInt8) (s : St) : 0 ≤ (rnum c 0 s).1 := by
  unfold rnum
  split
  · exact Int.le_refl _
  · split
    · exact Int.le_refl _
    · split
      · exact Int.le_refl _
      · simp only; omega
theorem rint_ok {s : St} (h : s.Ok) : (rint s).2.Ok := rnum_ok h
theorem rint_lt (s : St) (h : (rint s).2.bad = false) : (rint s).2.rest.length < s.rest.length := rnum_lt 59 _ s h
theorem rtext_ok {s : St} (h : s.Ok) : (rtext s).2.Ok := by
  unfold rtext
  simp only
  split
  · exact fail_ok
  · have h1 : (rclose 44 ⟨(rnum 58 0 s).2.rest.drop (rnum 58 0 s).1.toNat, (rnum 58 0 s).2.bad⟩).Ok := rclose_ok (fun hb => by
      have := rnum_ok (c := 58) (least := 0) h hb
      simp only at this ⊢
      rw [this]; simp)
    split
    · exact h1
    · exact h1
theorem rtext_lt (s : St) (h : (rtext s).2.bad = false) : (rtext s).2.rest.length < s.rest.length := by
  obtain ⟨_, e⟩ := rtext_good h
  rw [e]; simp [etext]; omega
/-- what a method of the reader does -/
def Does {α : Type} (enc : α → Value) (f : St → α × St) (b : Nat) (s : St) (w : World) (e : Ending) (w' : World) : Prop :=
  e = .returned (enc (f s).1) ∧ Rd 54 w' b (f s).2 ∧ Fr (· = b) w w'
abbrev vi (n : Int) : Value := .int .i64 n
abbrev vs (l : List UInt8) : Value := .string (bs l)
theorem rdNum_any (b : Nat) (s : St) (w : World) (h : Rd 54 w b s) (hE : Env w) (hl : s.rest.length ≤ 140737488355328) :
    Calls Tryd.prog 17 #[.pointer (some ⟨b, 0, none⟩)] w (Does vi (rnum 59 0) b s w) := by
  have HC := Lib.hid (number_any 59 0 b s w h hE hl)
  clear h hE hl
  go_enter Tryd.func17, Tryd.ntmps17
  go_wp2_with fail
  refine HC.out.mono ?_
  rintro e w1 ⟨rfl, h1, hf1⟩
  go_wp2
  go_ret
  exact ⟨rfl, h1, hf1⟩
def rdone (s : St) : Bool := !s.bad && s.rest.isEmpty
theorem done_any (b : Nat) (s : St) (w : World) (h : Rd 54 w b s) :
    Calls Tryd.prog 19 #[.pointer (some ⟨b, 0, none⟩)] w fun e w' => e = .returned (.bool (rdone s)) ∧ w = w' := by
  have c0 := h.c0
  have c1 := h.c1
  obtain ⟨l, bd⟩ := s
  simp only at c0 c1
  unfold rdone
  cases bd with
  | true =>
    clear h
    go_enter Tryd.func19, Tryd.ntmps19
    go_wp2
    go_ret
    exact ⟨rfl, rfl⟩
  | false =>
    cases l with
    | nil =>
      clear h
      go_enter Tryd.func19, Tryd.ntmps19
      go_wp2
      go_ret
      exact ⟨rfl, rfl⟩
    | cons x t =>
      have hne : ((bs (x :: t)).toList == (⟨#[]⟩ : ByteArray).toList) = false := eq_str_no (by simp)
      have hne2 : (bs (x :: t)).toList ≠ [] := by rw [ByteArray.toList_eq]; simp
      have hne3 : ((bs (x :: t)).toList == []) = false := by rw [ByteArray.toList_eq]; simp
      have hne4 : (bs (x :: t)).toList.isEmpty = false := by rw [ByteArray.toList_eq]; simp
      obtain ⟨r, hr⟩ : ∃ r, r = bs (x :: t) := ⟨_, rfl⟩
      rw [← hr] at c0 hne hne2 hne3 hne4
      clear h hr
      go_enter Tryd.func19, Tryd.ntmps19
      go_wp2
      go_ret
      exact ⟨rfl, rfl⟩
theorem open_any (s : ByteArray) (w : World) :
    Calls Tryd.prog 16 #[.string s] w fun e w' => e = .returned (.pointer (some ⟨w.heap.size, 0, none⟩)) ∧ Rd 54 w' w.heap.size ⟨s.data.toList, false⟩ ∧ Below w.heap.size w w' := by
  go_enter Tryd.func16, Tryd.ntmps16
  go_wp2
  go_ret
  refine ⟨rfl, ?_, (Below.refl _ _).alloc (Nat.le_refl _) _⟩
  unfold Rd
  rw [bs_self]
  exact heap_alloc_new w _
end Wr
end Go.Proofs.YtlegmhmmoadggaaDoor
