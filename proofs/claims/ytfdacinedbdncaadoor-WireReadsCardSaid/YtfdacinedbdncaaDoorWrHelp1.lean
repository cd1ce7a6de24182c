/- missivelaw02.small, kind, number. -/
import Derived.Test.YtfdacinedbdncaaDoorWrItems1
import Derived.Test.YtfdacinedbdncaaDoorWrItems2
import Derived.Test.YtfdacinedbdncaaDoorWrEnc2
import Derived.Test.YtfdacinedbdncaaDoorWrEnc3
namespace Go.Proofs.YtfdacinedbdncaaDoor
open Go.RowKit
namespace Wr
theorem dec3 (u : Nat) (h1 : ¬ u < 100) (h2 : u < 1000) : Lib.decDigits u = [UInt8.ofNat (48 + u / 100), UInt8.ofNat (48 + u / 10 % 10), UInt8.ofNat (48 + u % 10)] := by
  rw [Lib.decDigits, dif_neg (by omega), Lib.decDigits_two (by omega) (by omega)]
  simp [Nat.div_div_eq_div_mul]
theorem it0 : Lib.itoa 0 = [48] := by unfold Lib.itoa; rw [if_neg (by decide)]; exact Lib.decDigits_one (by decide)
theorem it1 : Lib.itoa 1 = [49] := by unfold Lib.itoa; rw [if_neg (by decide)]; exact Lib.decDigits_one (by decide)
theorem it2 : Lib.itoa 2 = [50] := by unfold Lib.itoa; rw [if_neg (by decide)]; exact Lib.decDigits_one (by decide)
theorem it3 : Lib.itoa 3 = [51] := by unfold Lib.itoa; rw [if_neg (by decide)]; exact Lib.decDigits_one (by decide)
theorem it7 : Lib.itoa 7 = [55] := by unfold Lib.itoa; rw [if_neg (by decide)]; exact Lib.decDigits_one (by decide)
theorem itm7 : Lib.itoa (-7) = [45, 55] := by unfold Lib.itoa; rw [if_pos (by decide)]; congr 1; exact Lib.decDigits_one (by decide)
theorem itm1 : Lib.itoa (-1) = [45, 49] := by unfold Lib.itoa; rw [if_pos (by decide)]; congr 1; exact Lib.decDigits_one (by decide)
theorem it300 : Lib.itoa 300 = [51, 48, 48] := by unfold Lib.itoa; rw [if_neg (by decide)]; exact dec3 300 (by decide) (by decide)
theorem e0 : enum 0 = [48, 59] := by unfold enum eint; rw [it0]; rfl
theorem e300 : enum 300 = [51, 48, 48, 59] := by unfold enum eint; rw [it300]; rfl
theorem em1 : enum (-1) = [] := rfl
theorem em7 : eint (-7) = [45, 55, 59] := by unfold eint; rw [itm7]; rfl
theorem e7 : eint 7 = [55, 59] := by unfold eint; rw [it7]; rfl
theorem ea : etext [97, 44, 98] = [51, 58, 97, 44, 98, 44] := by unfold etext; show Lib.itoa 3 ++ _ = _; rw [it3]; rfl
theorem el1 : elist eint [1, -1] = [50, 91, 49, 59, 45, 49, 59, 93] := by
  unfold elist; show Lib.itoa 2 ++ _ = _; rw [it2]; simp only [List.flatMap_cons, List.flatMap_nil, eint]; rw [it1, itm1]; rfl
theorem el0 : elist etext [] = [48, 91, 93] := by unfold elist; show Lib.itoa 0 ++ _ = _; rw [it0]; rfl
theorem rd007 : rnum 59 0 ⟨[48, 48, 55, 59], false⟩ = (0, .fail) := by
  have h : dec [48, 48, 55] = none := by
    unfold dec
    have : Lib.atoiAll [48, 48, 55] = .ok 7 := by decide +kernel
    rw [this]
    simp only
    rw [it7]; rfl
  unfold rnum
  have hc : cutAt 59 [48, 48, 55, 59] = some ([48, 48, 55], []) := by decide +kernel
  rw [hc]
  simp [h]
theorem two_lv (w : World) : LV vi (w.alloc (.cells #[.int .i64 1, .int .i64 (-1)] 3)) (.slice (some ⟨w.heap.size, 0, none⟩) 2 2) [1, -1] := by
  refine ⟨_, 2, rfl, by decide, by unfold maxLen; omega, .inr ⟨w.heap.size, 0, rfl, fun i x hx => ?_⟩⟩
  have hh := heap_alloc_new w (.cells #[.int .i64 1, .int .i64 (-1)] 3)
  match i, hx with
  | 0, hx => simp at hx; subst hx; rw [Lib.cell_of_heap hh]; rfl
  | 1, hx => simp at hx; subst hx; rw [Lib.cell_of_heap hh]; rfl
set_option maxRecDepth 100000 in
set_option maxHeartbeats 2000000 in
theorem small_any (w : World) (hE : Env w) : Calls Tryd.prog 9 #[] w fun e w' => e = .returned (.bool true) ∧ Below w.heap.size w w' := by
  have HES : Hid (∀ w', Below w.heap.size w w' → Env w') := fun w' hb => hE.below hb hE.lt
  have C1 : Hid (∀ W, Env W → Calls Tryd.prog 11 #[.int .i64 0] W fun e w' => e = .returned (.string ⟨#[48, 59]⟩) ∧ Below W.heap.size W w') := fun W h => by
    have := wNum_any 0 ⟨by omega, by omega⟩ W h; rw [e0] at this; exact this
  have C2 : Hid (∀ W, Env W → Calls Tryd.prog 11 #[.int .i64 300] W fun e w' => e = .returned (.string ⟨#[51, 48, 48, 59]⟩) ∧ Below W.heap.size W w') := fun W h => by
    have := wNum_any 300 ⟨by omega, by omega⟩ W h; rw [e300] at this; exact this
  have C3 : Hid (∀ W, Env W → Calls Tryd.prog 11 #[.int .i64 (-1)] W fun e w' => e = .returned (.string ⟨#[]⟩) ∧ Below W.heap.size W w') := fun W h => by
    have := wNum_any (-1) ⟨by omega, by omega⟩ W h; rw [em1] at this; exact this
  have C4 : Hid (∀ W, Env W → Calls Tryd.prog 13 #[.int .i64 (-7)] W fun e w' => e = .returned (.string ⟨#[45, 55, 59]⟩) ∧ Below W.heap.size W w') := fun W h => by
    have := wInt_any (-7) ⟨by omega, by omega⟩ W h; rw [em7] at this; exact this
  have C5 : Hid (∀ W, Env W → Calls Tryd.prog 13 #[.int .i64 7] W fun e w' => e = .returned (.string ⟨#[55, 59]⟩) ∧ Below W.heap.size W w') := fun W h => by
    have := wInt_any 7 ⟨by omega, by omega⟩ W h; rw [e7] at this; exact this
  have C6 : Hid (∀ W, Env W → Calls Tryd.prog 15 #[.string ⟨#[97, 44, 98]⟩] W fun e w' => e = .returned (.string ⟨#[51, 58, 97, 44, 98, 44]⟩) ∧ Below W.heap.size W w') := fun W h => by
    have := wText_any ⟨#[97, 44, 98]⟩ (by show 3 ≤ 10000000000; omega) W h; rw [show (⟨#[97, 44, 98]⟩ : ByteArray).data.toList = [97, 44, 98] from rfl, ea] at this; exact this
  have C7 : Hid (∀ W, Env W → Calls Tryd.prog 17 #[.slice (some ⟨W.heap.size, 0, none⟩) 2 2] (W.alloc (.cells #[.int .i64 1, .int .i64 (-1)] 3)) fun e w' => e = .returned (.string ⟨#[50, 91, 49, 59, 45, 49, 59, 93]⟩) ∧ Below (W.alloc (.cells #[.int .i64 1, .int .i64 (-1)] 3)).heap.size (W.alloc (.cells #[.int .i64 1, .int .i64 (-1)] 3)) w') := fun W h => by
    have := wNums_any _ [1, -1] _ (two_lv W) (by intro x hx; simp at hx; rcases hx with rfl | rfl <;> exact ⟨by omega, by omega⟩) (h.below ((Below.refl W.heap.size W).alloc (Nat.le_refl _) (.cells #[.int .i64 1, .int .i64 (-1)] 3)) h.lt) (by rw [el1]; simp)
    rw [el1] at this; exact this
  have C8 : Hid (∀ W, Env W → Calls Tryd.prog 19 #[.slice none 0 0] W fun e w' => e = .returned (.string ⟨#[48, 91, 93]⟩) ∧ Below W.heap.size W w') := fun W h => by
    have := wTexts_any _ [] W (LV.nil W) (by simp) h (by rw [el0]; simp); rw [el0] at this; exact this
  have HE := Lib.hid hE
  clear hE
  go_enter Tryd.func9, Tryd.ntmps9
  go_wp2_with fail
  refine (C1.out _ HE.out).mono ?_
  rintro e w1 ⟨rfl, b⟩
  have B1 := Lib.hid b
  clear b
  go_wp2_with fail
  refine (C2.out _ (HES.out _ B1.out)).mono ?_
  rintro e w2 ⟨rfl, b⟩
  have B2 := Lib.hid (B1.out.trans (b.mono B1.out.size))
  clear b
  go_wp2_with fail
  refine (C3.out _ (HES.out _ B2.out)).mono ?_
  rintro e w3 ⟨rfl, b⟩
  have B3 := Lib.hid (B2.out.trans (b.mono B2.out.size))
  clear b
  go_wp2_with fail
  refine (C4.out _ (HES.out _ B3.out)).mono ?_
  rintro e w4 ⟨rfl, b⟩
  have B4 := Lib.hid (B3.out.trans (b.mono B3.out.size))
  clear b
  go_wp2_with fail
  refine (C5.out _ (HES.out _ B4.out)).mono ?_
  rintro e w5 ⟨rfl, b⟩
  have B5 := Lib.hid (B4.out.trans (b.mono B4.out.size))
  clear b
  go_wp2_with fail
  refine (C6.out _ (HES.out _ B5.out)).mono ?_
  rintro e w6 ⟨rfl, b⟩
  have B6 := Lib.hid (B5.out.trans (b.mono B5.out.size))
  clear b
  go_wp2_with fail
  refine (C7.out _ (HES.out _ B6.out)).mono ?_
  rintro e w7 ⟨rfl, b⟩
  have B7 := Lib.hid ((B6.out.alloc B6.out.size _).trans (b.mono (Nat.le_trans B6.out.size (by simp))))
  clear b
  go_wp2_with fail
  refine (C8.out _ (HES.out _ B7.out)).mono ?_
  rintro e w8 ⟨rfl, b⟩
  have B8 := Lib.hid (B7.out.trans (b.mono B7.out.size))
  clear b
  go_wp2_with fail
  refine (open_any _ _).mono ?_
  rintro e w9 ⟨rfl, r, b⟩
  have B9 := Lib.hid (B8.out.trans (b.mono B8.out.size))
  have R9 := Lib.hid r
  have HEn : Hid (Env w9) := HES.out _ B9.out
  have hNG : Hid (NG ≤ w8.heap.size) := Nat.le_trans HE.out.lt B8.out.size
  have HSZ : Hid (w.heap.size ≤ w8.heap.size) := B8.out.size
  obtain ⟨bk, hbk⟩ : ∃ bk, bk = w8.heap.size := ⟨_, rfl⟩
  rw [← hbk] at R9 hNG HSZ ⊢
  clear b r hbk
  go_wp2_with fail
  refine (rdNum_any bk _ w9 R9.out HEn.out (by simp)).mono ?_
  rintro e w10 ⟨he, r, f⟩
  have h7 := rd007
  rw [h7] at he r
  have he2 : e = .returned (.int .i64 0) := he
  clear he
  subst he2
  have R10 := Lib.hid r
  have B10 : Hid (Below w.heap.size w w10) := B9.out.trans (f.below (Nat.le_trans B9.out.size (Nat.le_refl _)) (fun i hi e => by have := HSZ.out; omega))
  clear r f h7
  go_wp2_with fail
  refine (left_any bk _ w10 R10.out).mono ?_
  rintro e w11 ⟨rfl, rfl⟩
  go_wp2_with fail
  refine (done_any bk _ _ R10.out).mono ?_
  rintro e w12 ⟨rfl, rfl⟩
  go_wp2
  go_ret
  exact ⟨rfl, B10.out⟩
end Wr
end Go.Proofs.YtfdacinedbdncaaDoor
