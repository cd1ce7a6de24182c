/- digest.Hex. -/
import Derived.Test.YtmloabphhebioaaDoorBldW
import Derived.Test.YtmloabphhebioaaDoorShelf
import Derived.Test.YtmloabphhebioaaDoorDigCrc
namespace Go.Proofs.YtmloabphhebioaaDoor
open Go.RowKit Dg
theorem hexL_snoc (l : List UInt8) (c : UInt8) : hexL (l ++ [c]) = hexL l ++ [hexDigits.getD (c.toNat / 16) 0] ++ [hexDigits.getD (c.toNat % 16) 0] := by
  simp [hexL, List.flatMap_append]
theorem hexL_len (l : List UInt8) : (hexL l).length = 2 * l.length := by
  induction l with
  | nil => rfl
  | cons a l ih => simp only [hexL, List.flatMap_cons, List.length_append, List.length_cons, List.length_nil] at *; omega
theorem hexGet (n : Nat) (h : n < (⟨#[48, 49, 50, 51, 52, 53, 54, 55, 56, 57, 97, 98, 99, 100, 101, 102]⟩ : ByteArray).size) :
    (⟨#[48, 49, 50, 51, 52, 53, 54, 55, 56, 57, 97, 98, 99, 100, 101, 102]⟩ : ByteArray)[n] = hexDigits.getD n 0 := by
  rw [List.getD_eq_getElem?_getD, List.getElem?_eq_getElem (by exact h)]; rfl
set_option maxHeartbeats 1000000 in
theorem hex_any (s : ByteArray) (w : World) (hs : s.size ≤ 1000000) :
    Calls Tryd.prog 11 #[.string s] w fun e w' => e = .returned (.string (bs (hexL s.data.toList))) ∧ Below w.heap.size w w' := by
  go_enter Tryd.func11, Tryd.ntmps11
  go_wp2
  go_loopw [4, 7] (fun _ i wr => ∃ k : Nat, k ≤ s.size ∧ i = .int .i64 k ∧ Bld w.heap.size (hexL (s.data.toList.take k)) wr ∧ Below w.heap.size w wr) (fun _ i _ => s.size - (intOf i).toNat)
  case atStart => exact ⟨0, Nat.zero_le _, rfl, bld_new w, (Below.refl _ _).alloc (Nat.le_refl _) _⟩
  case round =>
    obtain ⟨k, hk, rfl, hB, hb⟩ := hrel
    by_cases hlt : k < s.size
    · have ht := take_snoc s k hlt
      have HS : Hid (hexL (s.data.toList.take (k + 1)) = hexL (s.data.toList.take k) ++ [hexDigits.getD (s[k].toNat / 16) 0] ++ [hexDigits.getD (s[k].toNat % 16) 0]) := by
        show _ = _; rw [ht, hexL_snoc]
      have hL : (hexL (s.data.toList.take k)).length ≤ 2 * s.size := by rw [hexL_len, List.length_take]; simp; omega
      obtain ⟨l, hl⟩ : ∃ l, l = hexL (s.data.toList.take k) := ⟨_, rfl⟩
      rw [← hl] at HS hL hB
      clear hl ht
      have hb8 := w8_lt s[k]
      have HBd := Lib.hid hB
      have HBe := Lib.hid hb
      clear hB hb
      go_wp2_with fail
      refine (writeByte_any w.heap.size l _ wr HBd.out (by omega) HBe.out.size).mono ?_
      rintro e w1 ⟨rfl, hB1, hb1, _⟩
      have HB1 := Lib.hid hB1
      have Hb1 := Lib.hid (HBe.out.trans hb1)
      clear hB1 hb1
      go_wp2_with fail
      refine (writeByte_any w.heap.size _ _ w1 HB1.out (by simp; omega) Hb1.out.size).mono ?_
      rintro e w2 ⟨rfl, hB2, hb2, _⟩
      have HB2 := Lib.hid hB2
      have Hb2 := Lib.hid (Hb1.out.trans hb2)
      clear hB2 hb2
      go_wp2
      go_roundw
      case rel => exact ⟨k + 1, by omega, by go_num, by rw [HS.out, ← hexGet, ← hexGet]; exact HB2.out, Hb2.out⟩
      case measure => simp [intOf]; omega
    · have HB : Hid (Bld w.heap.size (hexL s.data.toList) wr) := by
        have e : k = s.size := by omega
        rw [e, take_all] at hB; exact hB
      have Hb := Lib.hid hb
      clear hB hb
      go_wp2_with (go_at_call 29; refine (Tryd.Builder_String_any_k w.heap.size w.heap.size _ wr HB.out Hb.out.size).mono ?_; rintro e w1 ⟨rfl, _, h1, _⟩)
      go_ret
      exact ⟨rfl, Hb.out.trans h1⟩
end Go.Proofs.YtmloabphhebioaaDoor
