/- text.Lower, text.Upper. -/
import Derived.Test.YtlegmhmmoadggaaDoorOwnStep
import Derived.Test.YtlegmhmmoadggaaDoorWrEnc1
import Derived.Test.YtlegmhmmoadggaaDoorVpSpec
import Derived.IntWalk
import Derived.WalkSmall
import Derived.BigQuiet
namespace Go.Proofs.YtlegmhmmoadggaaDoor
open Go.RowKit Dg Vp
namespace Vp
/-- a byte between two bytes, shifted -/
def shiftB (a b : UInt8) (by_ : Int) (c : UInt8) : UInt8 := if a.toNat ≤ c.toNat ∧ c.toNat ≤ b.toNat then UInt8.ofNat ((c.toNat : Int) + by_).toNat else c
def shifted (a b : UInt8) (d : Int) (l : List UInt8) (k : Nat) : List UInt8 := (l.take k).map (shiftB a b d) ++ l.drop k
theorem shifted_len (a b : UInt8) (d : Int) (l : List UInt8) (k : Nat) : (shifted a b d l k).length = l.length := by
  unfold shifted; simp; omega
theorem shifted_step (a b : UInt8) (d : Int) (l : List UInt8) (k : Nat) (h : k < l.length) : shifted a b d l (k + 1) = (shifted a b d l k).set k (shiftB a b d l[k]) := by
  unfold shifted
  have e : (l.take k).length = k := by simp; omega
  rw [List.set_append_right _ _ (by simp; omega), List.length_map, e, Nat.sub_self, List.drop_eq_getElem_cons h, List.set_cons_zero, List.take_succ_eq_append_getElem h, List.map_append]
  simp
theorem shifted_at (a b : UInt8) (d : Int) (l : List UInt8) (k : Nat) (h : k < l.length) (h2 : k < (shifted a b d l k).length) : (shifted a b d l k)[k] = l[k] := by
  have e : ((l.take k).map (shiftB a b d)).length = k := by simp; omega
  have h3 : (shifted a b d l k)[k]? = some l[k] := by
    unfold shifted
    rw [List.getElem?_append_right (by omega), e, Nat.sub_self, List.getElem?_drop, Nat.add_zero, List.getElem?_eq_getElem h]
  rw [List.getElem?_eq_getElem h2] at h3
  exact Option.some.inj h3
theorem shifted_all (a b : UInt8) (d : Int) (l : List UInt8) : shifted a b d l l.length = l.map (shiftB a b d) := by simp [shifted]
theorem shifted_zero (a b : UInt8) (d : Int) (l : List UInt8) : shifted a b d l 0 = l := by simp [shifted]
end Vp
set_option maxHeartbeats 4000000 in
theorem mapped_any (s : ByteArray) (a b : UInt8) (d : Int) (w : World) (hs : s.size ≤ 1000000) (hd : -128 ≤ d ∧ d ≤ 128) (hn : ∀ c : UInt8, a.toNat ≤ c.toNat → c.toNat ≤ b.toNat → 0 ≤ (c.toNat : Int) + d ∧ (c.toNat : Int) + d < 256) :
    Calls Tryd.prog 21 #[.string s, .int .u8 a.toNat, .int .u8 b.toNat, .int .i64 d] w fun e w' => e = .returned (.string (bs (s.data.toList.map (shiftB a b d)))) ∧ Below w.heap.size w w' := by
  have HD := Lib.hid hd
  have HN := Lib.hid hn
  clear hd hn
  go_enter Tryd.func21, Tryd.ntmps21
  go_wp2_with (refine wpList_to_bytes_row rfl 9 45 5 _ rfl s rfl Tryd.underlying9 Tryd.underlying45 Tryd.underlying5 (by unfold maxLen; omega) ?_; intro cap w1 hc1 hc2 hr1 hb1)
  have HR1 := Lib.hid hr1
  have HB1 := Lib.hid hb1
  clear hr1 hb1
  go_loopw [16] (fun i wr => ∃ (k : Nat) (l : List UInt8), k ≤ s.size ∧ i = .int .i64 k ∧ l.length ≤ s.size ∧ s.size ≤ l.length ∧ Hid (l = shifted a b d s.data.toList k) ∧ RowB wr w.heap.size 5 l ∧ Below w.heap.size w wr) (fun i _ => s.size - (intOf i).toNat)
  case atStart => exact ⟨0, s.data.toList, by omega, rfl, by simp, by simp, (shifted_zero _ _ _ _).symm, HR1.out, HB1.out⟩
  case round =>
    clear HR1 HB1
    obtain ⟨k, l, hk, rfl, hl1, hl2, hf, hr, hbe⟩ := hrel
    have HR := Lib.hid hr
    have HB := Lib.hid hbe
    clear hr hbe
    by_cases hlt : k < s.size
    · have hkl : k < l.length := by omega
      have c1 := HR.out.cell _ hkl
      have f1 := HR.out.frozen _ hkl
      have hkd : k < s.data.toList.length := by simpa using hlt
      have HN1 : Hid (shifted a b d s.data.toList (k + 1) = l.set k (shiftB a b d (l.getD k 0))) := by
        have h2 : k < (shifted a b d s.data.toList k).length := by rw [shifted_len]; exact hkd
        have e : l[k] = s.data.toList[k] := by
          have h3 : l[k]? = (shifted a b d s.data.toList k)[k]? := by rw [hf.out]
          rw [List.getElem?_eq_getElem hkl, List.getElem?_eq_getElem h2] at h3
          exact (Option.some.inj h3).trans (shifted_at a b d _ k hkd h2)
        have e2 : l.getD k 0 = s.data.toList[k] := by rw [List.getD_eq_getElem?_getD, List.getElem?_eq_getElem hkl, e]; rfl
        show _ = _
        rw [shifted_step a b d _ k hkd, e2, hf.out]
      clear hf
      have h8 := w8_lt (l.getD k 0)
      obtain ⟨c, hc⟩ : ∃ c, c = l.getD k 0 := ⟨_, rfl⟩
      rw [← hc] at c1 HN1 h8
      have HC := Lib.hid hc
      clear hc hkd
      by_cases hin : a.toNat ≤ c.toNat ∧ c.toNat ≤ b.toNat
      · obtain ⟨hi1, hi2⟩ := hin
        have hdd := HD.out
        have hnn := HN.out c hi1 hi2
        have hw1 : (decide ((a.toNat : Int) ≤ (c.toNat : Int))) = true := decide_eq_true (by omega)
        have hw2 : (decide ((c.toNat : Int) ≤ (b.toNat : Int))) = true := decide_eq_true (by omega)
        have HV : Hid (∃ y : UInt8, y = shiftB a b d c ∧ ((c.toNat : Int) + d) = (y.toNat : Int)) := by
          refine ⟨_, rfl, ?_⟩
          unfold shiftB
          rw [if_pos ⟨hi1, hi2⟩, UInt8.toNat_ofNat']
          omega
        go_wp2
        refine ⟨⟨k + 1, l.set k (shiftB a b d c), by omega, by go_num, by rw [List.length_set]; exact hl1, by rw [List.length_set]; exact hl2, HN1.out.symm, ?_, ?_⟩, ?_⟩
        · obtain ⟨y, hy, hv⟩ := HV.out
          rw [hv, ← hy]; exact HR.out.stored k y
        · exact HB.out.setCell (p := ⟨w.heap.size, k, none⟩) (Nat.le_refl _) _
        · simp [intOf]; omega
      · have hw : (if (decide ((a.toNat : Int) ≤ (c.toNat : Int))) = true then decide ((c.toNat : Int) ≤ (b.toNat : Int)) else false) = false := by
          by_cases h1 : a.toNat ≤ c.toNat
          · rw [if_pos (decide_eq_true (by omega))]; exact decide_eq_false (by omega)
          · rw [if_neg (by simp; omega)]
        have HL : Hid (l = shifted a b d s.data.toList (k + 1)) := by
          show _ = _
          have hsh : shiftB a b d c = c := by unfold shiftB; rw [if_neg hin]
          rw [HN1.out, hsh, HC.out, List.getD_eq_getElem?_getD, List.getElem?_eq_getElem hkl]
          exact (List.set_getElem_self hkl).symm
        go_wp2
        all_goals
          refine ⟨⟨k + 1, l, by omega, by go_num, hl1, hl2, HL.out, HR.out, HB.out⟩, ?_⟩
          simp [intOf]; omega
    · obtain rfl : k = s.size := by omega
      have HS : Hid (l = s.data.toList.map (shiftB a b d)) := hf.out.trans (shifted_all a b d s.data.toList)
      have hcv : (convert 45 9 (.slice (some ⟨w.heap.size, 0, none⟩) s.size cap)).run Tryd.prog wr = .ok (.string (bs l)) wr :=
        run_str_cells (P := Tryd.prog) wr 45 5 9 Tryd.underlying45 Tryd.underlying5 Tryd.underlying9 w.heap.size 0 s.size cap l (by omega) (fun i hi => by rw [Nat.zero_add]; exact HR.out.cells i (by omega))
      clear hf
      go_wp2
      go_ret
      exact ⟨by rw [← HS.out]; rfl, HB.out⟩
theorem lowB_shift (c : UInt8) : shiftB 65 90 32 c = lowB c := by
  unfold shiftB lowB
  have h1 : (65 : UInt8).toNat = 65 := rfl
  have h2 : (90 : UInt8).toNat = 90 := rfl
  rw [h1, h2]
  by_cases h : 65 ≤ c.toNat ∧ c.toNat ≤ 90
  · rw [if_pos h, if_pos h]; congr 1
  · rw [if_neg h, if_neg h]
theorem upB_shift (c : UInt8) : shiftB 97 122 (-32) c = upB c := by
  unfold shiftB upB
  have h1 : (97 : UInt8).toNat = 97 := rfl
  have h2 : (122 : UInt8).toNat = 122 := rfl
  rw [h1, h2]
  by_cases h : 97 ≤ c.toNat ∧ c.toNat ≤ 122
  · rw [if_pos h, if_pos h]
    congr 1
    omega
  · rw [if_neg h, if_neg h]
theorem lower_any (s : ByteArray) (w : World) (hs : s.size ≤ 1000000) :
    Calls Tryd.prog 9 #[.string s] w fun e w' => e = .returned (.string (bs (lower s.data.toList))) ∧ Below w.heap.size w w' := by
  have HM := Lib.hid (mapped_any s 65 90 32 w hs (by omega) (fun c h1 h2 => by have : (90 : UInt8).toNat = 90 := rfl; omega))
  go_enter Tryd.func9, Tryd.ntmps9
  go_wp2_with fail
  refine HM.out.mono ?_
  rintro e w1 ⟨rfl, hb⟩
  have HB := Lib.hid hb
  clear hb
  go_wp2
  go_ret
  refine ⟨?_, HB.out⟩
  have e : s.data.toList.map (shiftB 65 90 32) = lower s.data.toList := by unfold lower; exact List.map_congr_left fun c _ => lowB_shift c
  rw [← e]; rfl
theorem upper_any (s : ByteArray) (w : World) (hs : s.size ≤ 1000000) :
    Calls Tryd.prog 10 #[.string s] w fun e w' => e = .returned (.string (bs (upper s.data.toList))) ∧ Below w.heap.size w w' := by
  have HM := Lib.hid (mapped_any s 97 122 (-32) w hs (by omega) (fun c h1 h2 => by have : (97 : UInt8).toNat = 97 := rfl; have := w8_lt c; omega))
  go_enter Tryd.func10, Tryd.ntmps10
  go_wp2_with fail
  refine HM.out.mono ?_
  rintro e w1 ⟨rfl, hb⟩
  have HB := Lib.hid hb
  clear hb
  go_wp2
  go_ret
  refine ⟨?_, HB.out⟩
  have e : s.data.toList.map (shiftB 97 122 (-32)) = upper s.data.toList := by unfold upper; exact List.map_congr_left fun c _ => upB_shift c
  rw [← e]; rfl
end Go.Proofs.YtlegmhmmoadggaaDoor
