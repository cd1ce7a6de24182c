/- wire.Int, Num, Text. -/
import Derived.Test.YtlegmhmmoadggaaDoorWrRow
namespace Go.Proofs.YtlegmhmmoadggaaDoor
open Go.RowKit
namespace Wr
theorem bs_add (a b : List UInt8) : bs a ++ bs b = bs (a ++ b) := by
  apply ByteArray.ext
  rw [ByteArray.data_append]
  simp
theorem size_add1 (t : ByteArray) (c : UInt8) : (t ++ (⟨#[c]⟩ : ByteArray)).size = t.size + 1 := by rw [ByteArray.size_append]; rfl
theorem Bld_below {b : Nat} {l : List UInt8} {w w' : World} (h : Bld b l w) (hb : Below w.heap.size w w') : Bld b l w' := by
  have hg : w.grownBy w' none := ⟨hb.os, hb.tape, hb.output, hb.size, fun k hk _ => hb.block k hk⟩
  have go : ∀ p, Lib.BuilderAtF 47 5 b b p (Lib.byteCells l) w → Lib.BuilderAtF 47 5 b b p (Lib.byteCells l) w' := by
    rintro p ⟨hB, v, hbk, hown, hne⟩
    refine ⟨hB, v, (hb.block b (lt_block hbk)).trans hbk, hown.kept hg ?_, hne⟩
    cases hv : v.ownBlock with
    | none => exact .inl rfl
    | some g => exact .inr (by simp)
  rcases h with h | h
  · exact .inl (go _ h)
  · exact .inr (go _ h)
set_option maxRecDepth 100000 in
theorem wInt_any (n : Int) (hn : I64 n) (w : World) (hE : Env w) :
    Calls Tryd.prog 33 #[.int .i64 n] w fun e w' => e = .returned (.string (bs (eint n))) ∧ Below w.heap.size w w' := by
  have HC := Lib.hid (itoa_any n hn w hE)
  have hz : (bs (Lib.itoa n)).size ≤ 20 := by rw [bs_size]; exact itoa_len n hn
  obtain ⟨t, ht⟩ : ∃ t, t = bs (Lib.itoa n) := ⟨_, rfl⟩
  rw [← ht] at HC hz
  have HT := Lib.hid ht
  clear ht hE
  go_enter Tryd.func33, Tryd.ntmps33
  go_wp2_with fail
  refine HC.out.mono ?_
  rintro e w1 ⟨rfl, hb1⟩
  go_wp2
  go_ret
  refine ⟨?_, hb1⟩
  rw [HT.out]
  exact congrArg (fun x => Ending.returned (Value.string x)) (bs_add _ _)
theorem wNum_any (n : Int) (hn : I64 n) (w : World) (hE : Env w) :
    Calls Tryd.prog 22 #[.int .i64 n] w fun e w' => e = .returned (.string (bs (enum n))) ∧ Below w.heap.size w w' := by
  have HC := Lib.hid (wInt_any n hn w hE)
  by_cases h : n < 0
  · have hd : decide (n < 0) = true := decide_eq_true h
    have HR : Hid (enum n = []) := if_pos h
    go_enter Tryd.func22, Tryd.ntmps22
    go_wp2
    go_ret
    rw [HR.out]
    exact ⟨rfl, Below.refl _ _⟩
  · have hd : decide (n < 0) = false := decide_eq_false h
    have HR : Hid (enum n = eint n) := if_neg h
    go_enter Tryd.func22, Tryd.ntmps22
    go_wp2_with fail
    refine HC.out.mono ?_
    rintro e w1 ⟨rfl, hb1⟩
    go_wp2
    go_ret
    rw [HR.out]
    exact ⟨rfl, hb1⟩
set_option maxRecDepth 100000 in
theorem wText_any (s : ByteArray) (hs : s.size ≤ 10000000000) (w : World) (hE : Env w) :
    Calls Tryd.prog 23 #[.string s] w fun e w' => e = .returned (.string (bs (etext s.data.toList))) ∧ Below w.heap.size w w' := by
  have hn : I64 (s.size : Int) := ⟨by omega, by omega⟩
  have HC := Lib.hid (itoa_any s.size hn w hE)
  have hz : (bs (Lib.itoa (s.size : Int))).size ≤ 20 := by rw [bs_size]; exact itoa_len _ hn
  obtain ⟨t, ht⟩ : ∃ t, t = bs (Lib.itoa (s.size : Int)) := ⟨_, rfl⟩
  rw [← ht] at HC hz
  have HT := Lib.hid ht
  clear ht hE hn
  go_enter Tryd.func23, Tryd.ntmps23
  go_wp2_with fail
  refine HC.out.mono ?_
  rintro e w1 ⟨rfl, hb1⟩
  go_wp2
  go_ret
  refine ⟨?_, hb1⟩
  rw [HT.out]
  have e : bs (Lib.itoa (s.size : Int)) ++ bs [58] ++ s ++ bs [44] = bs (etext s.data.toList) := by
    have h1 : s.data.toList.length = s.size := Array.length_toList
    unfold etext
    rw [h1]
    apply ByteArray.ext
    apply Array.toList_inj.1
    simp only [ByteArray.data_append, Array.toList_append, List.append_assoc, List.cons_append, List.nil_append]
  exact congrArg (fun x => Ending.returned (Value.string x)) e
end Wr
end Go.Proofs.YtlegmhmmoadggaaDoor
