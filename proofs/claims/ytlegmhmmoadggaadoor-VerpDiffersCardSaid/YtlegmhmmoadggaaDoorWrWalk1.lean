/- (*wire.Reader).fail, close, number. -/
import Derived.Test.YtlegmhmmoadggaaDoorWrMem
import Derived.WalkSpells
import Derived.WalkLawsBesides
import Derived.Lib.Hide
import Derived.BigQuiet
import Derived.Deep.QuietTactic
import Derived.Deep.RegionHeld3
namespace Go.Proofs.YtlegmhmmoadggaaDoor
open Go.RowKit
namespace Wr
set_option maxRecDepth 100000 in
theorem fail_any (b : Nat) (s : St) (w : World) (h : Rd 54 w b s) :
    Calls Tryd.prog 29 #[.pointer (some ⟨b, 0, none⟩)] w fun e w' => e = .returned (.tuple #[]) ∧ Rd 54 w' b .fail ∧ Fr (· = b) w w' := by
  have c0 := h.c0
  have c1 := h.c1
  have f0 := h.f0
  have f1 := h.f1
  go_enter Tryd.func29, Tryd.ntmps29
  go_wp2
  go_end0
  exact ⟨rfl, (h.set0 []).set1 true, (((Fr.refl (· = b) w).setCell (p := ⟨b, 0, none⟩) (fun _ => rfl) _).setCell (p := ⟨b, 1, none⟩) (fun _ => rfl) _)⟩
theorem pre1 (l : List UInt8) (c : UInt8) : Lib.hasPrefix l [c] = (match l with | x :: _ => x == c | [] => false) := by
  cases l with
  | nil => rfl
  | cons x t => simp only [Lib.hasPrefix, List.isPrefixOf, Bool.and_true]; rw [Bool.beq_comm]

theorem close_no (c : UInt8) (s : St) (h : Lib.hasPrefix s.rest [c] = false) : rclose c s = .fail := by
  rw [pre1] at h
  unfold rclose
  split
  · rfl
  · rename_i x t hx
    rw [hx] at h
    simp only [beq_eq_false_iff_ne, ne_eq] at h
    rw [if_neg h]
set_option maxRecDepth 100000 in
theorem close_any (c : UInt8) (b : Nat) (s : St) (w : World) (h : Rd 54 w b s) :
    Calls Tryd.prog 30 #[.pointer (some ⟨b, 0, none⟩), .string (bs [c])] w fun e w' => e = .returned (.tuple #[]) ∧ Rd 54 w' b (rclose c s) ∧ Fr (· = b) w w' := by
  have c0 := h.c0
  have f0 := h.f0
  cases hp : Lib.hasPrefix s.rest [c] with
  | true =>
    obtain ⟨t, ht⟩ : ∃ t, s.rest = c :: t := by
      rw [pre1] at hp
      cases hr : s.rest with
      | nil => rw [hr] at hp; cases hp
      | cons x t => rw [hr] at hp; simp only [beq_iff_eq] at hp; exact ⟨t, by rw [hp]⟩
    have hq : rclose c s = ⟨t, s.bad⟩ := by simp [rclose, ht]
    have htr : Lib.trimPrefix s.rest [c] = t := by unfold Lib.trimPrefix; rw [hp, ht]; rfl
    rw [hq]
    have hc := Tryd.strings_CutPrefix (bs s.rest) (bs [c]) w
    rw [hp, htr] at hc
    have HC := Lib.hid hc
    have H := Lib.hid h
    clear hc hq htr hp ht h
    go_enter Tryd.func30, Tryd.ntmps30
    go_wp2_with (go_at_call 39; refine HC.out.mono ?_; rintro e w' ⟨rfl, rfl⟩)
    go_end0
    exact ⟨rfl, H.out.set0 t, (Fr.refl (· = b) _).setCell (p := ⟨b, 0, none⟩) (fun _ => rfl) _⟩
  | false =>
    rw [close_no c s hp]
    have htr : Lib.trimPrefix s.rest [c] = s.rest := by unfold Lib.trimPrefix; rw [hp]; rfl
    have hc := Tryd.strings_CutPrefix (bs s.rest) (bs [c]) w
    rw [hp, htr] at hc
    have HC := Lib.hid hc
    have H := Lib.hid h
    clear hc htr hp h
    go_enter Tryd.func30, Tryd.ntmps30
    go_wp2_with (go_at_call 39; refine HC.out.mono ?_; rintro e w' ⟨rfl, rfl⟩)
    go_wp2_with fail
    refine (fail_any b ⟨s.rest, s.bad⟩ _ (H.out.set0 s.rest)).mono ?_
    rintro e w1 ⟨rfl, h1, hf1⟩
    go_wp2
    go_end0
    exact ⟨rfl, h1, ((Fr.refl (· = b) _).setCell (p := ⟨b, 0, none⟩) (fun _ => rfl) _).trans hf1 (fun _ _ e => e)⟩
end Wr
end Go.Proofs.YtlegmhmmoadggaaDoor
