/- missiveref02: digits, Int, Num, Text. -/
import Derived.Test.YtfdacinedbdncaaDoorWrEnc1
import Derived.IntWalk
namespace Go.Proofs.YtfdacinedbdncaaDoor
open Go.RowKit
namespace Wr
theorem digit_str (w : World) (t : Int) (h0 : t ≤ 0) (h1 : -10 < t) : (convert 64 9 (.slice (some ⟨w.heap.size, 0, none⟩) 1 1)).run Tryd.prog (w.alloc (.cells #[.int .u8 (48 - t)] 5)) = .ok (.string (bs [UInt8.ofNat (48 + (-t).toNat)])) (w.alloc (.cells #[.int .u8 (48 - t)] 5)) := by
  refine run_str_cells (w.alloc (.cells #[.int .u8 (48 - t)] 5)) 64 5 9 Tryd.underlying64 Tryd.underlying5 Tryd.underlying9 w.heap.size 0 1 1 [UInt8.ofNat (48 + (-t).toNat)] rfl (fun i hi => ?_)
  have e : i = 0 := by omega
  subst e
  rw [Lib.cell_of_heap (heap_alloc_new w _)]
  have e : (48 - t : Int) = (((UInt8.ofNat (48 + (-t).toNat)).toNat : Nat) : Int) := by rw [UInt8.toNat_ofNat']; omega
  simp only [Lib.byteCells, List.map_cons, List.map_nil, List.getElem?_cons_zero]
  rw [← e]; rfl
set_option maxRecDepth 100000 in
/-- digits(-u): the numeral of u -/
theorem digits_any (u : Nat) : ∀ (w : World) (N : Int), N = -(u : Int) → u ≤ 9223372036854775808 →
    Calls Tryd.prog 43 #[.int .i64 N] w fun e w' => e = .returned (.string (bs (Lib.decDigits u))) ∧ Below w.heap.size w w' := by
  induction u using Nat.strongRecOn with
  | _ u ih =>
    intro w N hN hu
    obtain ⟨t, ht⟩ : ∃ t, N.tmod 10 = t := ⟨_, rfl⟩
    obtain ⟨q, hq⟩ : ∃ q, N.tdiv 10 = q := ⟨_, rfl⟩
    have ht2 : t = -((u % 10 : Nat) : Int) := by
      rw [← ht, hN, Int.neg_tmod, Int.tmod_eq_emod_of_nonneg (by omega)]; rfl
    have hq2 : q = -((u / 10 : Nat) : Int) := by
      rw [← hq, hN, Int.neg_tdiv, Int.tdiv_eq_ediv_of_nonneg (by omega)]; rfl
    have t0 : t ≤ 0 := by omega
    have t1 : -10 < t := by omega
    have hN0 : N ≤ 0 := by omega
    have hN1 : -9223372036854775808 ≤ N := by omega
    have hcv := digit_str w t t0 t1
    obtain ⟨D, hD⟩ : ∃ D, D = bs [UInt8.ofNat (48 + (-t).toNat)] := ⟨_, rfl⟩
    rw [← hD] at hcv
    have hD2 : Hid (D = bs [UInt8.ofNat (48 + u % 10)]) := by
      show _ = _
      have e : (-t).toNat = u % 10 := by omega
      rw [hD, e]
    have hDz : D.size = 1 := by rw [hD]; rfl
    have HDZ : Hid (D.size ≤ 1) := by show _ ≤ _; omega
    by_cases hlt : -10 < N
    · have hd : decide (-10 < N) = true := decide_eq_true hlt
      have hres : Hid (bs (Lib.decDigits u) = D) := by
        show _ = _
        have e : u % 10 = u := by omega
        rw [Lib.decDigits_one (by omega), hD2.out, e]
      clear ih hN hq hq2 ht2 hD hDz
      go_enter Tryd.func43, Tryd.ntmps43
      go_wp2
      go_ret
      rw [hres.out]
      exact ⟨rfl, (Below.refl _ _).alloc (Nat.le_refl _) _⟩
    · have hd : decide (-10 < N) = false := decide_eq_false hlt
      have HI := Lib.hid (ih (u / 10) (by omega) (w.alloc (.cells #[.int .u8 (48 - t)] 5)) q hq2 (by omega))
      have hres : Hid (bs (Lib.decDigits u) = bs (Lib.decDigits (u / 10)) ++ D) := by
        show _ = _
        rw [Lib.decDigits, dif_neg (by omega), hD2.out, bs_add]
      have hl : (bs (Lib.decDigits (u / 10))).size ≤ 20 := by
        rw [bs_size, Lib.decDigits_length]
        exact Lib.nDigits_le20 _ (by omega)
      obtain ⟨E, hE⟩ : ∃ E, E = bs (Lib.decDigits (u / 10)) := ⟨_, rfl⟩
      rw [← hE] at HI hres hl
      have hwq : wrap64 q = q := IntWalk.wrap64_in _ (by omega)
      clear ih hN hq2 ht2 hD hDz hE
      go_enter Tryd.func43, Tryd.ntmps43
      go_wp2_with fail
      refine HI.out.mono ?_
      rintro e w1 ⟨rfl, b1⟩
      have B1 := Lib.hid (((Below.refl w.heap.size w).alloc (Nat.le_refl _) (.cells #[.int .u8 (48 - t)] 5)).trans (b1.mono (by simp)))
      have hD1 := HDZ.out
      clear b1
      go_wp2
      go_ret
      rw [hres.out]
      exact ⟨rfl, B1.out⟩
theorem neg_nat (n : Int) (h : n ≤ 0) : n = -((n.natAbs : Nat) : Int) := by omega
set_option maxRecDepth 100000 in
theorem rInt_any (n : Int) (hn : I64 n) (w : World) :
    Calls Tryd.prog 14 #[.int .i64 n] w fun e w' => e = .returned (.string (bs (eint n))) ∧ Below w.heap.size w w' := by
  obtain ⟨h0, h1⟩ := hn
  by_cases hneg : n < 0
  · have hd : decide (n < 0) = true := decide_eq_true hneg
    have HC := Lib.hid (digits_any n.natAbs w n (neg_nat n (by omega)) (by omega))
    have hl : (bs (Lib.decDigits n.natAbs)).size ≤ 20 := by rw [bs_size, Lib.decDigits_length]; exact Lib.nDigits_le20 _ (by omega)
    obtain ⟨E, hE⟩ : ∃ E, E = bs (Lib.decDigits n.natAbs) := ⟨_, rfl⟩
    rw [← hE] at HC hl
    have hres : Hid (bs (eint n) = bs [45] ++ E ++ bs [59]) := by
      show _ = _
      unfold eint Lib.itoa
      rw [if_pos hneg, hE, bs_add, bs_add]; rfl
    clear hE
    go_enter Tryd.func14, Tryd.ntmps14
    go_wp2_with fail
    refine HC.out.mono ?_
    rintro e w1 ⟨rfl, b1⟩
    go_wp2
    go_ret
    rw [hres.out]
    exact ⟨rfl, b1⟩
  · have hd : decide (n < 0) = false := decide_eq_false hneg
    have HC := Lib.hid (digits_any n.natAbs w (-n) (by omega) (by omega))
    have hl : (bs (Lib.decDigits n.natAbs)).size ≤ 20 := by rw [bs_size, Lib.decDigits_length]; exact Lib.nDigits_le20 _ (by omega)
    obtain ⟨E, hE⟩ : ∃ E, E = bs (Lib.decDigits n.natAbs) := ⟨_, rfl⟩
    rw [← hE] at HC hl
    have hres : Hid (bs (eint n) = E ++ bs [59]) := by
      show _ = _
      unfold eint Lib.itoa
      rw [if_neg hneg, hE, bs_add]
      have e : n.toNat = n.natAbs := by omega
      rw [e]
    clear hE
    go_enter Tryd.func14, Tryd.ntmps14
    go_wp2_with fail
    refine HC.out.mono ?_
    rintro e w1 ⟨rfl, b1⟩
    go_wp2
    go_ret
    rw [hres.out]
    exact ⟨rfl, b1⟩
theorem rNum_any (n : Int) (hn : I64 n) (w : World) :
    Calls Tryd.prog 12 #[.int .i64 n] w fun e w' => e = .returned (.string (bs (enum n))) ∧ Below w.heap.size w w' := by
  have HC := Lib.hid (rInt_any n hn w)
  by_cases h : n < 0
  · have hd : decide (n < 0) = true := decide_eq_true h
    have HR : Hid (enum n = []) := if_pos h
    go_enter Tryd.func12, Tryd.ntmps12
    go_wp2
    go_ret
    rw [HR.out]
    exact ⟨rfl, Below.refl _ _⟩
  · have hd : decide (n < 0) = false := decide_eq_false h
    have HR : Hid (enum n = eint n) := if_neg h
    go_enter Tryd.func12, Tryd.ntmps12
    go_wp2_with fail
    refine HC.out.mono ?_
    rintro e w1 ⟨rfl, hb1⟩
    go_wp2
    go_ret
    rw [HR.out]
    exact ⟨rfl, hb1⟩
set_option maxRecDepth 100000 in
theorem rText_any (s : ByteArray) (hs : s.size ≤ 10000000000) (w : World) :
    Calls Tryd.prog 16 #[.string s] w fun e w' => e = .returned (.string (bs (etext s.data.toList))) ∧ Below w.heap.size w w' := by
  have HC := Lib.hid (digits_any s.size w (-(s.size : Int)) rfl (by omega))
  have hl : (bs (Lib.decDigits s.size)).size ≤ 20 := by rw [bs_size, Lib.decDigits_length]; exact Lib.nDigits_le20 _ (by omega)
  obtain ⟨E, hE⟩ : ∃ E, E = bs (Lib.decDigits s.size) := ⟨_, rfl⟩
  rw [← hE] at HC hl
  have hres : Hid (bs (etext s.data.toList) = E ++ bs [58] ++ s ++ bs [44]) := by
    show _ = _
    have h1 : s.data.toList.length = s.size := Array.length_toList
    unfold etext
    rw [h1, Lib.itoa_nonneg, hE]
    apply ByteArray.ext
    apply Array.toList_inj.1
    simp only [ByteArray.data_append, Array.toList_append, List.append_assoc, List.cons_append, List.nil_append]
  clear hE
  go_enter Tryd.func16, Tryd.ntmps16
  go_wp2_with fail
  refine HC.out.mono ?_
  rintro e w1 ⟨rfl, b1⟩
  go_wp2
  go_ret
  rw [hres.out]
  exact ⟨rfl, b1⟩
end Wr
end Go.Proofs.YtfdacinedbdncaaDoor
