/- missiveref02: Nums, Texts. -/
import Derived.Test.YtfdacinedbdncaaDoorWrRef1
import Derived.Test.YtfdacinedbdncaaDoorWrEnc2
import Derived.Test.YtfdacinedbdncaaDoorWrEnc3
namespace Go.Proofs.YtfdacinedbdncaaDoor
open Go.RowKit
namespace Wr
set_option maxRecDepth 100000 in
set_option maxHeartbeats 2000000 in
theorem rNums_any (v : Value) (l : List Int) (w : World) (hv : LV vi w v l) (hx : ∀ x ∈ l, I64 x) (hl : (elist eint l).length ≤ 5000000000) :
    Calls Tryd.prog 18 #[v] w fun e w' => e = .returned (.string (bs (elist eint l))) ∧ Below w.heap.size w w' := by
  obtain ⟨b, o, cap, p, rfl, hc1, hc2, hp, hcell⟩ := hv.parts
  have htk := elist_take_int l
  have hlen : l.length ≤ 5000000000 := by
    have := htk l.length
    have h2 : ∀ l : List Int, l.length ≤ (l.flatMap eint).length := by
      intro l
      induction l with
      | nil => simp
      | cons x t ih =>
        simp only [List.flatMap_cons, List.length_append, List.length_cons]
        have : 1 ≤ (eint x).length := by unfold eint; simp
        omega
    have := h2 l
    rw [List.take_length] at *
    omega
  unfold maxLen at hc2
  have HC := Lib.hid (digits_any l.length w (-(l.length : Int)) rfl (by omega))
  obtain ⟨N, hN⟩ : ∃ N, N = l.length := ⟨_, rfl⟩
  rw [← hN] at HC hlen hp hc1 ⊢
  have HN := Lib.hid hN
  have HCELL := Lib.hid hcell
  have HX := Lib.hid hx
  have HHL := Lib.hid hl
  have HTK := Lib.hid htk
  obtain ⟨tN, htN⟩ : ∃ t, t = bs (Lib.decDigits N) := ⟨_, rfl⟩
  rw [← htN] at HC
  have hz : tN.size ≤ 20 := by rw [htN, bs_size, Lib.decDigits_length]; exact Lib.nDigits_le20 _ (by omega)
  have HT := Lib.hid htN
  clear hN hcell hx htN hv hl htk
  have HLV : Hid (∀ w', Below w.heap.size w w' → ∀ k x, l[k]? = some x → w'.cell? ⟨b, o + k, none⟩ = some (vi x)) := fun w' hb k x hk => by
    have hc := HCELL.out k x hk
    have hlt : b < w.heap.size := cell_in (a := ⟨b, o + k, none⟩) hc
    exact (World.cell?_of_block (w := w) (a := ⟨b, o + k, none⟩) (hb.block b hlt)).trans hc
  have HPRE : Hid (tN ++ bs [91] = bs (Lib.itoa l.length ++ [91])) := by
    show _ = _
    rw [HT.out, bs_add, HN.out, Lib.itoa_nonneg]
  go_enter Tryd.func18, Tryd.ntmps18
  go_wp2_with fail
  refine HC.out.mono ?_
  rintro e w1 ⟨rfl, hb1⟩
  have HB1 := Lib.hid hb1
  clear hb1
  go_wp2_with fail
  go_loopw [3, 4] (fun s i wr => ∃ (k : Nat) (S : ByteArray), k ≤ N ∧ i = .int .i64 k ∧ s = .string S ∧ S = bs (Lib.itoa l.length ++ [91] ++ (l.take k).flatMap eint) ∧ Below w.heap.size w wr) (fun _ i _ => N - (intOf i).toNat)
  case atStart => exact ⟨0, _, Nat.zero_le _, rfl, rfl, by rw [show (⟨#[91]⟩ : ByteArray) = bs [91] from rfl, HPRE.out]; simp, HB1.out⟩
  case round =>
    obtain ⟨k, S, hk, rfl, rfl, hS, hb⟩ := hrel
    have HBw := Lib.hid hb
    have hSz : S.size ≤ 5000000000 := by
      rw [hS, bs_size]
      have h1 := HTK.out k
      have h2 := HHL.out
      simp only [List.length_append, List.length_cons, List.length_nil]
      omega
    have HS := Lib.hid hS
    clear hb hS
    by_cases hlt : k < N
    · obtain ⟨x, hkx⟩ : ∃ x, l[k]? = some x := ⟨_, List.getElem?_eq_getElem (by rw [← HN.out]; exact hlt)⟩
      have hcx := HLV.out wr HBw.out k x hkx
      have hpp := hp (by omega)
      subst hpp
      have hxm := HX.out x (List.mem_of_getElem? hkx)
      have e : (l.take (k + 1)).flatMap eint = (l.take k).flatMap eint ++ eint x := by
        rw [List.take_add_one, hkx]; simp
      have htk := HTK.out (k + 1)
      rw [e] at htk
      have HEQ := Lib.hid e
      have HONE := Lib.hid (rInt_any x hxm wr)
      obtain ⟨Y, hY⟩ : ∃ Y, Y = bs (eint x) := ⟨_, rfl⟩
      have hYz : Y.size ≤ 5000000000 := by
        rw [hY, bs_size]
        have h2 := HHL.out
        simp only [List.length_append] at htk
        omega
      rw [show bs (eint x) = Y from hY.symm] at HONE
      have HY := Lib.hid hY
      clear hkx e htk hxm hY
      go_wp2_with fail
      refine HONE.out.mono ?_
      rintro e w3 ⟨rfl, hb3⟩
      have HB3 := Lib.hid (HBw.out.trans (hb3.mono HBw.out.size))
      clear hb3
      go_wp2
      go_roundw
      case rel => exact ⟨k + 1, S ++ Y, by omega, by go_num, rfl, by rw [HS.out, HY.out, bs_add, HEQ.out, List.append_assoc], HB3.out⟩
      case measure => simp [intOf]; omega
    · have HSe : Hid (S ++ bs [93] = bs (elist eint l)) := by
        show _ = _
        have e : k = N := by omega
        rw [HS.out, e, HN.out, List.take_length, bs_add]
        unfold elist; simp
      go_wp2
      go_ret
      exact ⟨congrArg (fun x => Ending.returned (Value.string x)) HSe.out, HBw.out⟩
set_option maxRecDepth 100000 in
set_option maxHeartbeats 2000000 in
theorem rTexts_any (v : Value) (l : List (List UInt8)) (w : World) (hv : LV vs w v l) (hx : ∀ x ∈ l, x.length ≤ 5000000000) (hl : (elist etext l).length ≤ 5000000000) :
    Calls Tryd.prog 20 #[v] w fun e w' => e = .returned (.string (bs (elist etext l))) ∧ Below w.heap.size w w' := by
  obtain ⟨b, o, cap, p, rfl, hc1, hc2, hp, hcell⟩ := hv.parts
  have htk := elist_take_string l
  have hlen : l.length ≤ 5000000000 := by
    have := htk l.length
    have h2 : ∀ l : List (List UInt8), l.length ≤ (l.flatMap etext).length := by
      intro l
      induction l with
      | nil => simp
      | cons x t ih =>
        simp only [List.flatMap_cons, List.length_append, List.length_cons]
        have : 1 ≤ (etext x).length := by unfold etext; simp; omega
        omega
    have := h2 l
    rw [List.take_length] at *
    omega
  unfold maxLen at hc2
  have HC := Lib.hid (digits_any l.length w (-(l.length : Int)) rfl (by omega))
  obtain ⟨N, hN⟩ : ∃ N, N = l.length := ⟨_, rfl⟩
  rw [← hN] at HC hlen hp hc1 ⊢
  have HN := Lib.hid hN
  have HCELL := Lib.hid hcell
  have HX := Lib.hid hx
  have HHL := Lib.hid hl
  have HTK := Lib.hid htk
  obtain ⟨tN, htN⟩ : ∃ t, t = bs (Lib.decDigits N) := ⟨_, rfl⟩
  rw [← htN] at HC
  have hz : tN.size ≤ 20 := by rw [htN, bs_size, Lib.decDigits_length]; exact Lib.nDigits_le20 _ (by omega)
  have HT := Lib.hid htN
  clear hN hcell hx htN hv hl htk
  have HLV : Hid (∀ w', Below w.heap.size w w' → ∀ k x, l[k]? = some x → w'.cell? ⟨b, o + k, none⟩ = some (vs x)) := fun w' hb k x hk => by
    have hc := HCELL.out k x hk
    have hlt : b < w.heap.size := cell_in (a := ⟨b, o + k, none⟩) hc
    exact (World.cell?_of_block (w := w) (a := ⟨b, o + k, none⟩) (hb.block b hlt)).trans hc
  have HPRE : Hid (tN ++ bs [91] = bs (Lib.itoa l.length ++ [91])) := by
    show _ = _
    rw [HT.out, bs_add, HN.out, Lib.itoa_nonneg]
  go_enter Tryd.func20, Tryd.ntmps20
  go_wp2_with fail
  refine HC.out.mono ?_
  rintro e w1 ⟨rfl, hb1⟩
  have HB1 := Lib.hid hb1
  clear hb1
  go_wp2_with fail
  go_loopw [3, 4] (fun s i wr => ∃ (k : Nat) (S : ByteArray), k ≤ N ∧ i = .int .i64 k ∧ s = .string S ∧ S = bs (Lib.itoa l.length ++ [91] ++ (l.take k).flatMap etext) ∧ Below w.heap.size w wr) (fun _ i _ => N - (intOf i).toNat)
  case atStart => exact ⟨0, _, Nat.zero_le _, rfl, rfl, by rw [show (⟨#[91]⟩ : ByteArray) = bs [91] from rfl, HPRE.out]; simp, HB1.out⟩
  case round =>
    obtain ⟨k, S, hk, rfl, rfl, hS, hb⟩ := hrel
    have HBw := Lib.hid hb
    have hSz : S.size ≤ 5000000000 := by
      rw [hS, bs_size]
      have h1 := HTK.out k
      have h2 := HHL.out
      simp only [List.length_append, List.length_cons, List.length_nil]
      omega
    have HS := Lib.hid hS
    clear hb hS
    by_cases hlt : k < N
    · obtain ⟨x, hkx⟩ : ∃ x, l[k]? = some x := ⟨_, List.getElem?_eq_getElem (by rw [← HN.out]; exact hlt)⟩
      have hcx := HLV.out wr HBw.out k x hkx
      have hpp := hp (by omega)
      subst hpp
      have hxm := HX.out x (List.mem_of_getElem? hkx)
      have e : (l.take (k + 1)).flatMap etext = (l.take k).flatMap etext ++ etext x := by
        rw [List.take_add_one, hkx]; simp
      have htk := HTK.out (k + 1)
      rw [e] at htk
      have HEQ := Lib.hid e
      have HONE := Lib.hid (rText_any (bs x) (by rw [bs_size]; omega) wr)
      obtain ⟨Y, hY⟩ : ∃ Y, Y = bs (etext x) := ⟨_, rfl⟩
      have hYz : Y.size ≤ 5000000000 := by
        rw [hY, bs_size]
        have h2 := HHL.out
        simp only [List.length_append] at htk
        omega
      rw [show bs (etext x) = Y from hY.symm] at HONE
      have HY := Lib.hid hY
      clear hkx e htk hxm hY
      go_wp2_with fail
      refine HONE.out.mono ?_
      rintro e w3 ⟨rfl, hb3⟩
      have HB3 := Lib.hid (HBw.out.trans (hb3.mono HBw.out.size))
      clear hb3
      go_wp2
      go_roundw
      case rel => exact ⟨k + 1, S ++ Y, by omega, by go_num, rfl, by rw [HS.out, HY.out, bs_add, HEQ.out, List.append_assoc], HB3.out⟩
      case measure => simp [intOf]; omega
    · have HSe : Hid (S ++ bs [93] = bs (elist etext l)) := by
        show _ = _
        have e : k = N := by omega
        rw [HS.out, e, HN.out, List.take_length, bs_add]
        unfold elist; simp
      go_wp2
      go_ret
      exact ⟨congrArg (fun x => Ending.returned (Value.string x)) HSe.out, HBw.out⟩
end Wr
end Go.Proofs.YtfdacinedbdncaaDoor
