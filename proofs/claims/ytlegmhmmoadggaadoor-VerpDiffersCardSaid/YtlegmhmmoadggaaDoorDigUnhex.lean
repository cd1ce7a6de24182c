/- digest.Unhex. -/
import Derived.Test.YtlegmhmmoadggaaDoorDigHex
import Derived.Deep.QuietTactic
import Derived.BigQuiet
namespace Go.Proofs.YtlegmhmmoadggaaDoor
open Go.RowKit Dg
/-- the number of a digit, or -1 -/
def ixB (l : List UInt8) (c : UInt8) : Int := Lib.indexByte l c
theorem ixB_idx (l : List UInt8) (c : UInt8) : (ixB l c = -1 ∧ idx l c = none) ∨ ∃ x : Nat, x < l.length ∧ ixB l c = (x : Int) ∧ idx l c = some x := by
  induction l with
  | nil => exact .inl ⟨rfl, rfl⟩
  | cons b l ih =>
    simp only [ixB, Lib.indexByte, idx, List.findIdx?_cons]
    by_cases hb : (b == c) = true
    · exact .inr ⟨0, by simp, by simp [hb], by simp [hb]⟩
    · rcases ih with ⟨h1, h2⟩ | ⟨x, hx, h1, h2⟩
      · left; simp only [ixB, idx] at h1 h2; simp [hb, h1, h2]
      · right; refine ⟨x + 1, by simp; omega, ?_, ?_⟩
        · simp only [ixB] at h1; simp [hb, h1]
        · simp only [idx] at h2; simp [hb, h2]
theorem index_any (s : ByteArray) (c : UInt8) (w : World) :
    Calls Tryd.prog 25 #[.string s, .int .u8 c.toNat] w fun e w' => e = .returned (.int .i64 (ixB s.data.toList c)) ∧ w = w' :=
  (Tryd.strings_IndexByte s (c.toNat : Int) w).mono fun e w' ⟨h1, h2⟩ => ⟨by rw [h1]; simp [ixB], h2.symm⟩
theorem drop_two (s : ByteArray) (k : Nat) (h : k + 1 < s.size) : s.data.toList.drop k = s[k] :: s[k + 1] :: s.data.toList.drop (k + 2) := by
  rw [List.drop_eq_getElem_cons (by simpa using Nat.lt_of_succ_lt h), List.drop_eq_getElem_cons (by simpa using h)]; rfl
/-- what a list reads as, in a result of two parts -/
def optS (o : Option (List UInt8)) : Value := .tuple #[.string (bs (o.getD [])), .bool o.isSome]
theorem unhexL_odd (l : List UInt8) : l.length % 2 = 1 → unhexL l = none := by
  fun_induction unhexL l with
  | case1 => intro h; simp at h
  | case2 => intro _; rfl
  | case3 a b l x y h1 h2 ih => intro h; rw [ih (by simp at h; omega)]; rfl
  | case4 => intro _; rfl
end Go.Proofs.YtlegmhmmoadggaaDoor
