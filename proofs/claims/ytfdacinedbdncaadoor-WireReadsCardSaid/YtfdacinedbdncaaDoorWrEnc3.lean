/- wire.list[string] and wire.Texts. -/
import Derived.Test.YtfdacinedbdncaaDoorWrEnc1
namespace Go.Proofs.YtfdacinedbdncaaDoor
open Go.RowKit
namespace Wr
theorem elist_take_string (l : List (List UInt8)) (k : Nat) : ((l.take k).flatMap etext).length + (Lib.itoa l.length).length + 2 ≤ (elist etext l).length := by
  have e : l.flatMap etext = (l.take k).flatMap etext ++ (l.drop k).flatMap etext := by rw [← List.flatMap_append, List.take_append_drop]
  unfold elist
  rw [e]
  simp only [List.length_append, List.length_cons, List.length_nil]
  omega
set_option maxRecDepth 100000 in
set_option maxHeartbeats 2000000 in
theorem liststring_any (v : Value) (l : List (List UInt8)) (w : World) (hv : LV vs w v l) (hx : ∀ x ∈ l, x.length ≤ 5000000000) (hE : Env w) (hl : (elist etext l).length ≤ 5000000000) :
    Calls Tryd.prog 45 #[v, .func (.func 15) #[] #[]] w fun e w' => e = .returned (.string (bs (elist etext l))) ∧ Below w.heap.size w w' := by
  obtain ⟨b, o, cap, p, rfl, hc1, hc2, hp, hcell⟩ := hv.parts
  have hlen : l.length ≤ 5000000000 := by
    have := elist_take_string l l.length
    have h2 : ∀ l : List (List UInt8), l.length ≤ (l.flatMap etext).length := by
      intro l
      induction l with
      | nil => simp
      | cons x t ih =>
        simp only [List.flatMap_cons, List.length_append, List.length_cons]
        have : 1 ≤ (etext x).length := by unfold etext; simp; omega
        omega
    have := h2 l
    rw [List.take_length] at *
    omega
  have hn : I64 (l.length : Int) := ⟨by omega, by omega⟩
  have HC := Lib.hid (itoa_any l.length hn (w.alloc (.cells #[.pointer none, .slice none 0 0] 67)) (hE.below ((Below.refl w.heap.size w).alloc (Nat.le_refl _) _) hE.lt))
  have HTK := Lib.hid (elist_take_string l)
  obtain ⟨N, hN⟩ : ∃ N, N = l.length := ⟨_, rfl⟩
  rw [← hN] at HC hlen hp hc1 ⊢
  have HN := Lib.hid hN
  have HCELL := Lib.hid hcell
  have HX := Lib.hid hx
  have HE := Lib.hid hE
  have HHL := Lib.hid hl
  obtain ⟨tN, htN⟩ : ∃ t, t = bs (Lib.itoa (N : Int)) := ⟨_, rfl⟩
  rw [← htN] at HC
  have hz : tN.size ≤ 20 := by rw [htN, bs_size, hN]; exact itoa_len _ hn
  have HT := Lib.hid htN
  clear hN hcell hx hE htN hn hv hl
  have HLV : Hid (∀ w', Below w.heap.size w w' → ∀ k x, l[k]? = some x → w'.cell? ⟨b, o + k, none⟩ = some (vs x)) := fun w' hb k x hk => by
    have hc := HCELL.out k x hk
    have hlt : b < w.heap.size := cell_in (a := ⟨b, o + k, none⟩) hc
    exact (World.cell?_of_block (w := w) (a := ⟨b, o + k, none⟩) (hb.block b hlt)).trans hc
  have HES : Hid (∀ w', Below w.heap.size w w' → Env w') := fun w' hb => HE.out.below hb HE.out.lt
  go_enter Tryd.func45, Tryd.ntmps45
  go_wp2_with fail
  refine HC.out.mono ?_
  rintro e w1 ⟨rfl, hb1⟩
  have HB1 := Lib.hid (((Below.refl w.heap.size w).alloc (Nat.le_refl _) (.cells #[.pointer none, .slice none 0 0] 67)).trans (hb1.mono (by simp)))
  have HBd : Hid (Bld w.heap.size [] w1) := by
    have hk : w1.heap[w.heap.size]? = some (.cells #[.pointer none, .slice none 0 0] 67 (0, 0)) := (hb1.block _ (by simp)).trans (heap_alloc_new w _)
    exact .inl ⟨Nat.le_refl _, .slice none 0 0, hk, ⟨by simp [Lib.byteCells], .inl ⟨rfl, rfl⟩⟩, by simp [Value.ownBlock]⟩
  clear hb1
  go_wp2_with fail
  refine (writeString_any w.heap.size [] _ w1 HBd.out (by rw [size_add1]; simp only [List.length_nil]; omega) HB1.out.size).mono ?_
  rintro e w2 ⟨rfl, hbd2, hb2, _⟩
  have HB2 := Lib.hid (HB1.out.trans hb2)
  have HBd2 : Hid (Bld w.heap.size (Lib.itoa l.length ++ [91] ++ (l.take 0).flatMap etext) w2) := by
    have e : Lib.itoa l.length ++ [91] ++ (l.take 0).flatMap etext = [] ++ (tN ++ (⟨#[91]⟩ : ByteArray)).data.toList := by rw [HT.out, HN.out]; simp [ByteArray.data_append]
    rw [e]; exact hbd2
  clear hbd2 hb2
  go_wp2_with fail
  go_loopw [7, 15] (fun _ i wr => ∃ k : Nat, k ≤ N ∧ i = .int .i64 k ∧ Bld w.heap.size (Lib.itoa l.length ++ [91] ++ (l.take k).flatMap etext) wr ∧ Below w.heap.size w wr) (fun _ i _ => N - (intOf i).toNat)
  case atStart => exact ⟨0, Nat.zero_le _, rfl, HBd2.out, HB2.out⟩
  case round =>
    obtain ⟨k, hk, rfl, hB, hb⟩ := hrel
    have HBw := Lib.hid hb
    have HBB := Lib.hid hB
    clear hb hB HBd2 HB2
    by_cases hlt : k < N
    · obtain ⟨x, hkx⟩ : ∃ x, l[k]? = some x := ⟨_, List.getElem?_eq_getElem (by rw [← HN.out]; exact hlt)⟩
      have hcx := HLV.out wr HBw.out k x hkx
      have hpp := hp (by omega)
      subst hpp
      have HKX := Lib.hid hkx
      have hxm := HX.out x (List.mem_of_getElem? hkx)
      have htk := HTK.out (k + 1)
      have e : (l.take (k + 1)).flatMap etext = (l.take k).flatMap etext ++ etext x := by
        rw [List.take_add_one, hkx]; simp
      rw [e] at htk
      have HTK1 := Lib.hid htk
      have HEQ := Lib.hid e
      have HONE := Lib.hid (wText_any (bs x) (by rw [bs_size]; omega) wr (HES.out _ HBw.out))
      clear hkx e htk hxm
      go_wp2_with fail
      refine HONE.out.mono ?_
      rintro e w3 ⟨rfl, hb3⟩
      have HB3 := Lib.hid hb3
      have HBB3 : Hid (Bld w.heap.size (Lib.itoa l.length ++ [91] ++ (l.take k).flatMap etext) w3) := Bld_below HBB.out hb3
      clear hb3
      go_wp2_with fail
      refine (writeString_any w.heap.size _ (bs (etext x)) w3 HBB3.out (by have := HTK1.out; have := HHL.out; have := HN.out; simp only [List.length_append, List.length_cons, List.length_nil, bs_size] at *; omega) (Nat.le_trans HBw.out.size HB3.out.size)).mono ?_
      rintro e w4 ⟨rfl, hbd4, hb4, _⟩
      have HBd4 : Hid (Bld w.heap.size (Lib.itoa l.length ++ [91] ++ (l.take (k + 1)).flatMap etext) w4) := by
        rw [HEQ.out, ← List.append_assoc]; exact hbd4
      have HB4 := Lib.hid ((HBw.out.trans (HB3.out.mono HBw.out.size)).trans hb4)
      clear hbd4 hb4
      go_wp2
      go_roundw
      case rel => exact ⟨k + 1, by omega, by go_num, HBd4.out, HB4.out⟩
      case measure => simp [intOf]; omega
    · have HBe : Hid (Bld w.heap.size (Lib.itoa l.length ++ [91] ++ l.flatMap etext) wr) := by
        have e : k = N := by omega
        have hB := HBB.out
        rw [e, HN.out, List.take_length] at hB; exact hB
      go_wp2_with fail
      refine (Tryd.Builder_String_any_k w.heap.size w.heap.size _ wr HBe.out HBw.out.size).mono ?_
      rintro e w3 ⟨rfl, _, hb3, _⟩
      have HB3 := Lib.hid hb3
      have hzz : (⟨(Lib.itoa l.length ++ [91] ++ l.flatMap etext).toArray⟩ : ByteArray).size ≤ 5000000000 := by
        have h1 := HTK.out l.length
        have h2 := HHL.out
        rw [List.take_length] at h1
        show (bs _).size ≤ _
        rw [bs_size]
        simp only [List.length_append, List.length_cons, List.length_nil] at *
        omega
      obtain ⟨y, hy⟩ : ∃ y : ByteArray, y = ⟨(Lib.itoa l.length ++ [91] ++ l.flatMap etext).toArray⟩ := ⟨_, rfl⟩
      rw [← hy] at hzz ⊢
      have HY := Lib.hid hy
      clear hb3 hy
      go_wp2
      go_ret
      refine ⟨?_, HBw.out.trans HB3.out⟩
      rw [HY.out]
      have e : (⟨(Lib.itoa l.length ++ [91] ++ l.flatMap etext).toArray⟩ : ByteArray) ++ bs [93] = bs (elist etext l) := by
        show bs _ ++ bs _ = _
        rw [bs_add]; unfold elist; simp
      exact congrArg (fun x => Ending.returned (Value.string x)) e
set_option maxRecDepth 100000 in
theorem wTexts_any (v : Value) (l : List (List UInt8)) (w : World) (hv : LV vs w v l) (hx : ∀ x ∈ l, x.length ≤ 5000000000) (hE : Env w) (hl : (elist etext l).length ≤ 5000000000) :
    Calls Tryd.prog 19 #[v] w fun e w' => e = .returned (.string (bs (elist etext l))) ∧ Below w.heap.size w w' := by
  have HC := Lib.hid (liststring_any v l w hv hx hE hl)
  clear hv hx hE hl
  go_enter Tryd.func19, Tryd.ntmps19
  go_wp2_with fail
  refine HC.out.mono ?_
  rintro e w1 ⟨rfl, hb1⟩
  go_wp2
  go_ret
  exact ⟨rfl, hb1⟩
end Wr
end Go.Proofs.YtfdacinedbdncaaDoor
