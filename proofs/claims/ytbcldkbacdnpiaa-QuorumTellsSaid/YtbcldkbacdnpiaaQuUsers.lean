/- The reference's users: the walk. -/
import Derived.Test.YtbcldkbacdnpiaaQuStrs
import Derived.WalkLawsBesides
import Derived.Sort.Walk0
import Derived.WalkSpells
import Derived.Laws.DeepStrings4
namespace Go.Proofs.Ytbcldkbacdnpiaa
open Go.RowKit Go.Maps Go.WideShapes Qu
/-- the order of strings -/
def SLt (a b : ByteArray) : Prop := a.toList < b.toList
theorem SLt.trans {a b c : ByteArray} (h : SLt a b) (h2 : SLt b c) : SLt a c := List.lt_trans h h2
theorem ins_sorted {sn : List ByteArray} {u : ByteArray} {at_ : Nat} (hs : sn.Pairwise SLt) (hat : at_ ≤ sn.length) (h1 : ∀ x ∈ sn.drop at_, SLt u x) (h2 : at_ = 0 ∨ ∃ h : at_ - 1 < sn.length, SLt sn[at_ - 1] u) : (sn.take at_ ++ u :: sn.drop at_).Pairwise SLt := by
  have hlt : ∀ a ∈ sn.take at_, SLt a u := by
    intro a ha
    obtain ⟨i, hi, rfl⟩ := List.getElem_of_mem ha
    have hi2 : i < at_ := by simp at hi; omega
    rcases h2 with h2 | ⟨h, h2⟩
    · omega
    · rw [List.getElem_take]
      by_cases e : i = at_ - 1
      · subst e; exact h2
      · exact SLt.trans (List.pairwise_iff_getElem.1 hs i (at_ - 1) (by omega) h (by omega)) h2
  rw [List.pairwise_append]
  refine ⟨hs.sublist (List.take_sublist _ _), List.pairwise_cons.2 ⟨h1, hs.sublist (List.drop_sublist _ _)⟩, fun a ha b hb => ?_⟩
  rcases List.mem_cons.1 hb with rfl | hb
  · exact hlt a ha
  · exact (hlt a ha).trans (h1 b hb)
theorem ins_perm (sn : List ByteArray) (u : ByteArray) (at_ : Nat) : (sn.take at_ ++ u :: sn.drop at_).Perm (sn ++ [u]) := by
  refine List.perm_middle.trans ?_
  rw [List.take_append_drop]
  exact (List.perm_append_singleton u sn).symm
theorem gtr_slt {m u : ByteArray} (h1 : Op.bytesLess m.toList u.toList = false) (h2 : ¬ m.toList = u.toList) : SLt u m := by
  rw [bytesLess_eq, decide_eq_false_iff_not] at h1
  exact (List.le_iff_lt_or_eq.1 (List.not_lt.1 h1)).resolve_right (fun e => h2 e.symm)
theorem less_slt {m u : ByteArray} (h1 : Op.bytesLess m.toList u.toList = true) : SLt m u := by
  rw [bytesLess_eq, decide_eq_true_eq] at h1
  exact h1
structure Usr (w wr : World) (l : List Ev) (k : Nat) (sn : List ByteArray) (v : Value) : Prop where
  b : Below w.heap.size w wr
  own : Own wr w.heap.size 9 1 v sn.length (sn.map Value.string)
  perm : sn.Perm (Qu.after (l.take k)).keys
  sorted : sn.Pairwise SLt
  len : sn.length ≤ k
theorem usr_cell {w3 w4 : World} {ab ao B : Nat} {l : List Ev} {k : Nat} {hlt : k < l.length} {u : ByteArray} (he : EvsRow w3 ab ao l) (hb : Below B w3 w4) (hab : ab < B) (hu : l[k].user = u) : w4.cell? ⟨ab, ao + k * 4 + 2, none⟩ = some (.string u) := by
  rw [← hu]
  exact (he.block (hb.block ab hab)).user k hlt
theorem usr_next {w wo w3 wn : World} {l : List Ev} {k : Nat} {sn T : List ByteArray} {v v' : Value} {u : ByteArray} {j : Nat} (h : Usr w wo l k sn v) (_hlt : k < l.length) (hb : Below w3.heap.size w3 wn) (hb0 : Below wo.heap.size wo w3) (ho : Own wn w3.heap.size 9 1 v' T.length (T.map Value.string))
    (hT : T = (sn.take j ++ [u]) ++ sn.drop j) (hs : (sn.take j ++ u :: sn.drop j).Pairwise SLt) (hk : (Qu.after (l.take (k + 1))).keys = (Qu.after (l.take k)).keys ++ [u]) : Usr w wn l (k + 1) T v' := by
  have hT2 : T = sn.take j ++ u :: sn.drop j := by rw [hT]; simp
  have hp : T.Perm (sn ++ [u]) := hT2 ▸ ins_perm sn u j
  have h1 := h.b.trans (hb0.mono h.b.size)
  refine ⟨h1.trans (hb.mono h1.size), ho.mono h1.size, ?_, hT2 ▸ hs, ?_⟩
  · rw [hk]; exact hp.trans (h.perm.append_right [u])
  · have := hp.length_eq; have := h.len; simp only [List.length_append, List.length_cons, List.length_nil] at *; omega
def UsrPost (w : World) (l : List Ev) (x : Ending) (w' : World) : Prop :=
  ∃ (sn : List ByteArray) (v : Value), x = .returned v ∧ Own w' w.heap.size 9 1 v sn.length (sn.map Value.string) ∧ sn.Perm (Qu.after l).keys ∧ sn.Pairwise SLt ∧ sn.length ≤ l.length ∧ Below w.heap.size w w'
set_option maxHeartbeats 2000000 in
theorem ref_users_any (l : List Ev) (p : Option Addr) (cap : Nat) (w : World) (hl : EvsAt w p l) (hlen : l.length ≤ 900) :
    Calls Try.prog 34 #[.slice p l.length cap] w (UsrPost w l) := by
  have HL := Lib.hid hl
  clear hl
  go_enter Try.func34, Try.ntmps34
  go_wp2_with fail
  go_loopw [3, 4, 5, 6] (fun v i _ _ wr => ∃ (k : Nat) (sn : List ByteArray), k ≤ l.length ∧ i = .int .i64 k ∧ Usr w wr l k sn v) (fun _ i _ _ _ => l.length - (intOf i).toNat)
  case atStart => exact ⟨0, [], by omega, rfl, ⟨Below.refl _ _, Own.nil _ _ _ _, by simp [Qu.after, Room.none], List.Pairwise.nil, Nat.le_refl _⟩⟩
  case round =>
    obtain ⟨k, sn, hk, rfl, he⟩ := hrel
    obtain ⟨wo, hwo⟩ : ∃ y, y = wr := ⟨_, rfl⟩
    subst hwo
    have HE := Lib.hid he
    obtain ⟨ps, cs, hv6, hss⟩ := own_strs he.own
    have hcs : sn.length ≤ cs := by
      obtain ⟨p', c', e, hc', _⟩ := he.own.shape'
      rw [hv6] at e; cases e; exact hc'
    have HSS := Lib.hid hss
    have hsl := he.len
    clear he hss
    subst hv6
    by_cases hlt : k < l.length
    · obtain ⟨ab, ao, rfl, hrow⟩ : ∃ b o, p = some ⟨b, o, none⟩ ∧ EvsRow wo b o l := (HL.out.below HE.out.b (Nat.le_refl _)).resolve_left (fun e => by simp [e] at hlt)
      have c2 := hrow.user k hlt
      have ha := after_snoc l k hlt
      have hki := keys_in (Qu.after (l.take k)) l[k]
      have hkn := keys_new (Qu.after (l.take k)) l[k]
      rw [← ha] at hki hkn
      obtain ⟨u, hu⟩ : ∃ u, l[k].user = u := ⟨_, rfl⟩
      rw [hu] at c2 hki hkn
      have HKI := Lib.hid hki; have HKN := Lib.hid hkn
      have hadd : (⟨ab, ao, none⟩ : Addr).add (k * 4) = ⟨ab, ao + k * 4, none⟩ := add_plain _ _ _
      have HEV := Lib.hid hrow; have HLTB := Lib.hid (cell_lt c2); have HU := Lib.hid hu
      clear ha hki hkn hu hrow
      have hI := ref_in_any sn ps cs u wo HSS.out (by omega)
      by_cases hin : u ∈ sn
      · rw [decide_eq_true hin] at hI
        have HIN := Lib.hid hin
        clear hin
        go_wp2_with fail
        refine hI.mono ?_
        rintro e w' ⟨rfl, rfl⟩
        go_wp2_with fail
        go_roundw
        case rel => exact ⟨k + 1, sn, by omega, by go_num, ⟨HE.out.b, HE.out.own, by rw [HKI.out (HE.out.perm.mem_iff.1 HIN.out)]; exact HE.out.perm, HE.out.sorted, by omega⟩⟩
        case measure => simp [intOf]; omega
      · rw [decide_eq_false hin] at hI
        have HIN := Lib.hid hin
        clear hin
        go_wp2_with fail
        refine hI.mono ?_
        rintro e w' ⟨rfl, rfl⟩
        go_wp2_with fail
        go_loopw [5] (fun a wx => ∃ j : Nat, j ≤ sn.length ∧ a = .int .i64 j ∧ Hid (∀ x ∈ sn.drop j, SLt u x) ∧ Below wo.heap.size wo wx) (fun a _ => (intOf a).toNat)
        case atStart => exact ⟨sn.length, Nat.le_refl _, by go_num, Lib.hid (by rw [List.drop_length]; intro x hx; cases hx), Below.refl _ _⟩
        case round =>
          obtain ⟨wx, hwx⟩ : ∃ y, y = wr := ⟨_, rfl⟩
          subst hwx
          obtain ⟨j, hj, rfl, hbig, hbx⟩ := hrel
          have HBX := Lib.hid hbx
          clear hbx hI
          have hrow := (HEV.out.block (HBX.out.block ab HLTB.out))
          have c2 := hrow.user k hlt
          rw [HU.out] at c2
          clear hrow
          by_cases hj0 : 0 < j
          · obtain ⟨sb, so, hps, hsrow⟩ : ∃ b o, ps = some ⟨b, o, none⟩ ∧ StrRow wx b o sn := (HSS.out.below HBX.out (Nat.le_refl _)).resolve_left (fun e => by simp [e] at hj; omega)
            obtain ⟨q, hjq⟩ : ∃ q, j = q + 1 := ⟨j - 1, by omega⟩
            have s0 := hsrow.cell q (by omega)
            have hdr : sn.drop q = sn[q] :: sn.drop (q + 1) := List.drop_eq_getElem_cons (by omega)
            have hq : SLt sn[q] u → Hid (j = 0 ∨ ∃ h : j - 1 < sn.length, SLt sn[j - 1] u) := fun h => Lib.hid (.inr ⟨by omega, by subst hjq; exact h⟩)
            have hadd2 : (⟨sb, so, none⟩ : Addr).add q = ⟨sb, so + q, none⟩ := add_plain _ _ _
            have hmem : sn[q] ∈ sn := List.getElem_mem (by omega)
            obtain ⟨m, hm⟩ : ∃ m, sn[q] = m := ⟨_, rfl⟩
            rw [hm] at s0 hdr hq hmem
            have HDR := Lib.hid hdr; have HQ := Lib.hid hq; have HMEM := Lib.hid hmem; have HPS := Lib.hid hps
            clear hdr hq hm hsrow hmem
            cases hl : Op.bytesLess m.toList u.toList
            · by_cases heq : m.toList = u.toList
              · exact absurd (str_eq heq ▸ HMEM.out) HIN.out
              · have heq2 : (m.toList == u.toList) = false := by simpa using heq
                have HGT := Lib.hid (gtr_slt hl heq)
                clear heq
                subst hjq hps
                go_wp2_with fail
                go_quiet (fail)
                go_wp2_with fail
                go_roundw
                case rel => exact ⟨q, by omega, by go_num, Lib.hid (by rw [HDR.out]; intro x hx; rcases List.mem_cons.1 hx with rfl | hx; exact HGT.out; exact hbig.out x hx), below_drewN HBX.out _⟩
                case measure => simp [intOf] <;> omega
            · have HJ := HQ.out (less_slt hl)
              subst hjq hps
              go_wp2_with fail
              go_quiet (fail)
              obtain ⟨wy, hwy⟩ : ∃ wy, wx.drewN nq = wy := ⟨_, rfl⟩
              have HBY := Lib.hid (show Below wo.heap.size wo wy by rw [← hwy]; exact below_drewN HBX.out _)
              rw [hwy]
              obtain ⟨j, hjq⟩ : ∃ j, q + 1 = j := ⟨_, rfl⟩
              have hjc : (q : Int) + 1 = (j : Int) := by omega
              obtain ⟨ps, hps⟩ : ∃ y, (some ⟨sb, so, none⟩ : Option Addr) = y := ⟨_, rfl⟩
              rw [hps] at HSS HE ⊢
              rw [hjc]
              rw [hjq] at hj hbig HJ
              clear hj0 s0 hl hadd2 hps hjc hjq hwy HQ HDR HPS
              have HSS2 := HSS.out.below HBY.out (Nat.le_refl _)
              obtain ⟨p1, hp1⟩ : ∃ y, (if cs = j then ps else ps.map (·.add (j * 1))) = y := ⟨_, rfl⟩
              obtain ⟨p2, hp2⟩ : ∃ y, (if cs = 0 then ps else ps.map (·.add (0 * 1))) = y := ⟨_, rfl⟩
              have hs1 := run_from_s ps sn.length cs j hj
              have hs2 := run_upto_s ps sn.length cs j (Nat.le_trans hj hcs)
              rw [hp1] at hs1
              rw [hp2] at hs2
              have hE1 := HSS2.drop j cs hcs
              have hE2 := HSS2.take j cs
              rw [hp1] at hE1
              rw [hp2] at hE2
              obtain ⟨R1, hR1⟩ : ∃ R1, R1 = sn.drop j := ⟨_, rfl⟩
              obtain ⟨T1, hT1⟩ : ∃ T, T = sn.take j := ⟨_, rfl⟩
              rw [← hR1] at hE1
              rw [← hT1] at hE2
              have HRL : Hid (R1.length = sn.length - j) := Lib.hid (by rw [hR1]; simp)
              have HTL : Hid (T1.length = j) := Lib.hid (by rw [hT1]; simp; omega)
              have HR1 := Lib.hid hR1
              have HT1 := Lib.hid hT1
              have HE1 := Lib.hid hE1
              have HE2 := Lib.hid hE2
              clear HSS2 hE1 hE2 hR1 hT1 hp1 hp2
              go_upto_region 10 with (at_builtin; refine wpList_append_strs rfl _ _ rfl wy.heap.size _ [] R1 rfl (own_empty_s (heap_alloc_new wy _) (Nat.le_refl _)) p1 (sn.length - j) (cs - j) rfl HRL.out (HE1.out.below ((Below.refl wy.heap.size wy).alloc (Nat.le_refl _) (.cells #[] 9)) (Nat.le_refl _)) (by rw [HRL.out]; simp; omega) (by simp) R1 (Lib.hid rfl) ?_; intro p3 k3 w3 ho3 hg3)
              have B3 := Lib.hid (below_one hg3 (Nat.le_refl _))
              have B03 := Lib.hid (HBY.out.trans (B3.out.mono HBY.out.size))
              have ER3 := Lib.hid (own_str_at ho3)
              have ET1 : Hid (StrAt w3 p2 T1) := Lib.hid (HE2.out.below B3.out (Nat.le_refl _))
              obtain ⟨T2, hT2⟩ : ∃ T, T = T1 ++ [u] := ⟨_, rfl⟩
              obtain ⟨T3, hT3⟩ : ∃ T, T = T2 ++ R1 := ⟨_, rfl⟩
              have HT2 := Lib.hid hT2
              have HT3 := Lib.hid hT3
              have HEV3 := Lib.hid (HEV.out.block (B03.out.block ab HLTB.out))
              have l0 := HEV3.out.user k hlt
              rw [HU.out] at l0
              have HLB3 : Hid (ab < w3.heap.size) := Lib.hid (cell_lt l0)
              clear hT2 hT3 ho3 hg3 hs1 c2
              have hA1 : ([] : List ByteArray).length + T1.length ≤ 1000 := by have := HTL.out; simp only [List.length_nil]; omega
              have hA2 : w3.heap.size ≤ (w3.alloc (.cells #[] 9)).drew.heap.size := by simp
              have hle1 : w3.heap.size ≤ (w3.alloc (.cells #[.string u] 9)).heap.size := by simp
              have hle2 : w3.heap.size ≤ (w3.alloc (.cells #[] 9)).heap.size := by simp
              have hA2b : w3.heap.size ≤ ((w3.alloc (.cells #[.string u] 9)).alloc (.cells #[] 9)).drew.heap.size := by simp; omega
              have hA2c : w3.heap.size ≤ ((w3.alloc (.cells #[] 9)).alloc (.cells #[.string u] 9)).drew.heap.size := by simp; omega
              have hEb : ((w3.alloc (.cells #[.string u] 9)).alloc (.cells #[] 9)).drew.heap[w3.heap.size + 1]? = some (.cells #[] 9 (0, 0)) := (show ((w3.alloc (.cells #[.string u] 9)).alloc (.cells #[] 9)).heap[w3.heap.size + 1]? = _ by have := heap_alloc_new (w3.alloc (.cells #[.string u] 9)) (.cells #[] 9); simpa using this)
              have hEc : ((w3.alloc (.cells #[] 9)).alloc (.cells #[.string u] 9)).drew.heap[w3.heap.size]? = some (.cells #[] 9 (0, 0)) := (Below.heap_alloc _ _ _ (by simp)).trans (heap_alloc_new w3 _)
              have HHb := Lib.hid hEb; have HHc := Lib.hid hEc
              clear hEb hEc
              have hA4 : T1.length + [u].length ≤ 1000 := by have := HTL.out; simp only [List.length_cons, List.length_nil]; omega
              have hA6 : T2.length + R1.length ≤ 1000 := by rw [HT2.out]; have := HTL.out; have := HRL.out; simp only [List.length_append, List.length_cons, List.length_nil]; omega
              go_region_held3 (fun w' => w'.cell? ⟨ab, ao + k * 4 + 2, none⟩ = some (.string u))
                (first | go_keep | exact o0 | exact n0 | exact m0 | exact l0)
                ((first
                  | (have := HO5; refine step_append_strs (by rfl) _ _ (by rfl) w3.heap.size T2 R1 _ (by rfl) p3 R1.length k3 (by rfl) rfl hA6 T3 HT3 HO5.out (ER3.out.below B5.out (Nat.le_refl _)) B5.out.size ?_; intro p6 k6 w6 ho6 hg6; have B6 := Lib.hid (B5.out.trans (below_row hg6 (fun g hg => (HO5.out.block_ge g hg).1) B5.out.size)); have o0 := usr_cell HEV3.out B6.out HLB3.out HU.out; have HO6 := Lib.hid ho6; clear ho6 hg6)
                  | (have := lateB; refine step_append_strs (by rfl) _ _ (by rfl) w3.heap.size T1 [u] _ (by rfl) (some ⟨w3.heap.size, 0, none⟩) 1 1 (by rfl) rfl hA4 T2 HT2 HO4.out (.inr ⟨_, _, rfl, str_lit lateB.out⟩) B4.out.size ?_; intro p5 k5 w5 ho5 hg5; have B5 := Lib.hid (B4.out.trans (below_row hg5 (fun g hg => (HO4.out.block_ge g hg).1) B4.out.size)); have n0 := usr_cell HEV3.out B5.out HLB3.out HU.out; have HO5 := Lib.hid ho5; clear ho5 hg5)
                  | (have := lateC; refine step_append_strs (by rfl) _ _ (by rfl) w3.heap.size T1 [u] _ (by rfl) (some ⟨w3.heap.size + 1, 0, none⟩) 1 1 (by rfl) rfl hA4 T2 HT2 HO4.out (.inr ⟨_, _, rfl, str_lit lateC.out⟩) B4.out.size ?_; intro p5 k5 w5 ho5 hg5; have B5 := Lib.hid (B4.out.trans (below_row hg5 (fun g hg => (HO4.out.block_ge g hg).1) B4.out.size)); have n0 := usr_cell HEV3.out B5.out HLB3.out HU.out; have HO5 := Lib.hid ho5; clear ho5 hg5)
                  | (have := tagA; refine step_append_strs (by rfl) _ _ (by rfl) w3.heap.size T1 [u] _ (by rfl) (some ⟨w4.heap.size, 0, none⟩) 1 1 (by rfl) rfl hA4 T2 HT2 (HO4.out.alloc _) (.inr ⟨_, _, rfl, str_lit (heap_alloc_new w4 _)⟩) (by simpa using hA3) ?_; intro p5 k5 w5 ho5 hg5; have B5 := Lib.hid ((B4.out.alloc B4.out.size (.cells #[.string u] 9)).trans (below_row hg5 (fun g hg => (HO4.out.block_ge g hg).1) (by simpa using hA3))); have n0 := usr_cell HEV3.out B5.out HLB3.out HU.out; have HO5 := Lib.hid ho5; clear ho5 hg5)
                  | (refine step_append_strs (by rfl) _ _ (by rfl) w3.heap.size [] T1 _ (by rfl) p2 j cs (by rfl) HTL.out hA1 T1 (Lib.hid rfl) (own_empty_s (heap_alloc_new w3 _) (Nat.le_refl _)) (ET1.out.below ((Below.refl w3.heap.size w3).alloc (Nat.le_refl _) (.cells #[] 9)).drew (Nat.le_refl _)) hA2 ?_; intro p4 k4 w4 ho4 hg4; have B4 := Lib.hid (below_one2 hg4); have tagA : True := trivial; have m0 := usr_cell HEV3.out B4.out HLB3.out HU.out; have HO4 := Lib.hid ho4; have hA3 := Nat.le_succ_of_le B4.out.size; clear ho4 hg4)
                  | (refine step_append_strs (by rfl) _ _ (by rfl) w3.heap.size [] T1 _ (by rfl) p2 j cs (by rfl) HTL.out hA1 T1 (Lib.hid rfl) (own_empty_s HHb.out (Nat.le_succ _)) (ET1.out.below (((Below.refl w3.heap.size w3).alloc (Nat.le_refl _) (.cells #[.string u] 9)).alloc hle1 (.cells #[] 9)).drew (Nat.le_refl _)) hA2b ?_; intro p4 k4 w4 ho4 hg4; have B4 := Lib.hid (below_two2 hg4 (Nat.le_succ _)); have lateB := Lib.hid (late_b hg4); have m0 := usr_cell HEV3.out B4.out HLB3.out HU.out; have HO4 := Lib.hid ho4; have hA3 := Nat.le_succ_of_le B4.out.size; clear ho4 hg4)
                  | (refine step_append_strs (by rfl) _ _ (by rfl) w3.heap.size [] T1 _ (by rfl) p2 j cs (by rfl) HTL.out hA1 T1 (Lib.hid rfl) (own_empty_s HHc.out (Nat.le_refl _)) (ET1.out.below (((Below.refl w3.heap.size w3).alloc (Nat.le_refl _) (.cells #[] 9)).alloc hle2 (.cells #[.string u] 9)).drew (Nat.le_refl _)) hA2c ?_; intro p4 k4 w4 ho4 hg4; have B4 := Lib.hid (below_two2 hg4 (Nat.le_refl _)); have lateC := Lib.hid (late_c hg4); have m0 := usr_cell HEV3.out B4.out HLB3.out HU.out; have HO4 := Lib.hid ho4; have hA3 := Nat.le_succ_of_le B4.out.size; clear ho4 hg4)))
              all_goals
                go_wp2_with fail
                go_roundw
                case rel => exact ⟨k + 1, T3, by omega, by go_num, usr_next HE.out hlt B6.out B03.out HO6.out (HT3.out.trans (by rw [HT2.out, HT1.out, HR1.out])) (ins_sorted HE.out.sorted hj hbig.out HJ.out) (HKN.out (fun c => HIN.out (HE.out.perm.mem_iff.2 c)))⟩
                case measure => simp [intOf]; omega
          · obtain rfl : j = 0 := by omega
            go_wp2_with fail
            go_quiet (fail)
            obtain ⟨wy, hwy⟩ : ∃ wy, wx.drewN nq = wy := ⟨_, rfl⟩
            have HBY := Lib.hid (show Below wo.heap.size wo wy by rw [← hwy]; exact below_drewN HBX.out _)
            rw [hwy]
            obtain ⟨j, hjq⟩ : ∃ j, 0 = j := ⟨_, rfl⟩
            have HJ : Hid (j = 0 ∨ ∃ h : j - 1 < sn.length, SLt sn[j - 1] u) := Lib.hid (.inl hjq.symm)
            have hjc : ((0 : Nat) : Int) = (j : Int) := by omega
            rw [hjc]
            rw [hjq] at hj hbig
            clear hj0 hjc hjq hwy
            have HSS2 := HSS.out.below HBY.out (Nat.le_refl _)
            obtain ⟨p1, hp1⟩ : ∃ y, (if cs = j then ps else ps.map (·.add (j * 1))) = y := ⟨_, rfl⟩
            obtain ⟨p2, hp2⟩ : ∃ y, (if cs = 0 then ps else ps.map (·.add (0 * 1))) = y := ⟨_, rfl⟩
            have hs1 := run_from_s ps sn.length cs j hj
            have hs2 := run_upto_s ps sn.length cs j (Nat.le_trans hj hcs)
            rw [hp1] at hs1
            rw [hp2] at hs2
            have hE1 := HSS2.drop j cs hcs
            have hE2 := HSS2.take j cs
            rw [hp1] at hE1
            rw [hp2] at hE2
            obtain ⟨R1, hR1⟩ : ∃ R1, R1 = sn.drop j := ⟨_, rfl⟩
            obtain ⟨T1, hT1⟩ : ∃ T, T = sn.take j := ⟨_, rfl⟩
            rw [← hR1] at hE1
            rw [← hT1] at hE2
            have HRL : Hid (R1.length = sn.length - j) := Lib.hid (by rw [hR1]; simp)
            have HTL : Hid (T1.length = j) := Lib.hid (by rw [hT1]; simp; omega)
            have HR1 := Lib.hid hR1
            have HT1 := Lib.hid hT1
            have HE1 := Lib.hid hE1
            have HE2 := Lib.hid hE2
            clear HSS2 hE1 hE2 hR1 hT1 hp1 hp2
            go_upto_region 10 with (at_builtin; refine wpList_append_strs rfl _ _ rfl wy.heap.size _ [] R1 rfl (own_empty_s (heap_alloc_new wy _) (Nat.le_refl _)) p1 (sn.length - j) (cs - j) rfl HRL.out (HE1.out.below ((Below.refl wy.heap.size wy).alloc (Nat.le_refl _) (.cells #[] 9)) (Nat.le_refl _)) (by rw [HRL.out]; simp; omega) (by simp) R1 (Lib.hid rfl) ?_; intro p3 k3 w3 ho3 hg3)
            have B3 := Lib.hid (below_one hg3 (Nat.le_refl _))
            have B03 := Lib.hid (HBY.out.trans (B3.out.mono HBY.out.size))
            have ER3 := Lib.hid (own_str_at ho3)
            have ET1 : Hid (StrAt w3 p2 T1) := Lib.hid (HE2.out.below B3.out (Nat.le_refl _))
            obtain ⟨T2, hT2⟩ : ∃ T, T = T1 ++ [u] := ⟨_, rfl⟩
            obtain ⟨T3, hT3⟩ : ∃ T, T = T2 ++ R1 := ⟨_, rfl⟩
            have HT2 := Lib.hid hT2
            have HT3 := Lib.hid hT3
            have HEV3 := Lib.hid (HEV.out.block (B03.out.block ab HLTB.out))
            have l0 := HEV3.out.user k hlt
            rw [HU.out] at l0
            have HLB3 : Hid (ab < w3.heap.size) := Lib.hid (cell_lt l0)
            clear hT2 hT3 ho3 hg3 hs1 c2
            have hA1 : ([] : List ByteArray).length + T1.length ≤ 1000 := by have := HTL.out; simp only [List.length_nil]; omega
            have hA2 : w3.heap.size ≤ (w3.alloc (.cells #[] 9)).drew.heap.size := by simp
            have hle1 : w3.heap.size ≤ (w3.alloc (.cells #[.string u] 9)).heap.size := by simp
            have hle2 : w3.heap.size ≤ (w3.alloc (.cells #[] 9)).heap.size := by simp
            have hA2b : w3.heap.size ≤ ((w3.alloc (.cells #[.string u] 9)).alloc (.cells #[] 9)).drew.heap.size := by simp; omega
            have hA2c : w3.heap.size ≤ ((w3.alloc (.cells #[] 9)).alloc (.cells #[.string u] 9)).drew.heap.size := by simp; omega
            have hEb : ((w3.alloc (.cells #[.string u] 9)).alloc (.cells #[] 9)).drew.heap[w3.heap.size + 1]? = some (.cells #[] 9 (0, 0)) := (show ((w3.alloc (.cells #[.string u] 9)).alloc (.cells #[] 9)).heap[w3.heap.size + 1]? = _ by have := heap_alloc_new (w3.alloc (.cells #[.string u] 9)) (.cells #[] 9); simpa using this)
            have hEc : ((w3.alloc (.cells #[] 9)).alloc (.cells #[.string u] 9)).drew.heap[w3.heap.size]? = some (.cells #[] 9 (0, 0)) := (Below.heap_alloc _ _ _ (by simp)).trans (heap_alloc_new w3 _)
            have HHb := Lib.hid hEb; have HHc := Lib.hid hEc
            clear hEb hEc
            have hA4 : T1.length + [u].length ≤ 1000 := by have := HTL.out; simp only [List.length_cons, List.length_nil]; omega
            have hA6 : T2.length + R1.length ≤ 1000 := by rw [HT2.out]; have := HTL.out; have := HRL.out; simp only [List.length_append, List.length_cons, List.length_nil]; omega
            go_region_held3 (fun w' => w'.cell? ⟨ab, ao + k * 4 + 2, none⟩ = some (.string u))
              (first | go_keep | exact o0 | exact n0 | exact m0 | exact l0)
              ((first
                | (have := HO5; refine step_append_strs (by rfl) _ _ (by rfl) w3.heap.size T2 R1 _ (by rfl) p3 R1.length k3 (by rfl) rfl hA6 T3 HT3 HO5.out (ER3.out.below B5.out (Nat.le_refl _)) B5.out.size ?_; intro p6 k6 w6 ho6 hg6; have B6 := Lib.hid (B5.out.trans (below_row hg6 (fun g hg => (HO5.out.block_ge g hg).1) B5.out.size)); have o0 := usr_cell HEV3.out B6.out HLB3.out HU.out; have HO6 := Lib.hid ho6; clear ho6 hg6)
                | (have := lateB; refine step_append_strs (by rfl) _ _ (by rfl) w3.heap.size T1 [u] _ (by rfl) (some ⟨w3.heap.size, 0, none⟩) 1 1 (by rfl) rfl hA4 T2 HT2 HO4.out (.inr ⟨_, _, rfl, str_lit lateB.out⟩) B4.out.size ?_; intro p5 k5 w5 ho5 hg5; have B5 := Lib.hid (B4.out.trans (below_row hg5 (fun g hg => (HO4.out.block_ge g hg).1) B4.out.size)); have n0 := usr_cell HEV3.out B5.out HLB3.out HU.out; have HO5 := Lib.hid ho5; clear ho5 hg5)
                | (have := lateC; refine step_append_strs (by rfl) _ _ (by rfl) w3.heap.size T1 [u] _ (by rfl) (some ⟨w3.heap.size + 1, 0, none⟩) 1 1 (by rfl) rfl hA4 T2 HT2 HO4.out (.inr ⟨_, _, rfl, str_lit lateC.out⟩) B4.out.size ?_; intro p5 k5 w5 ho5 hg5; have B5 := Lib.hid (B4.out.trans (below_row hg5 (fun g hg => (HO4.out.block_ge g hg).1) B4.out.size)); have n0 := usr_cell HEV3.out B5.out HLB3.out HU.out; have HO5 := Lib.hid ho5; clear ho5 hg5)
                | (have := tagA; refine step_append_strs (by rfl) _ _ (by rfl) w3.heap.size T1 [u] _ (by rfl) (some ⟨w4.heap.size, 0, none⟩) 1 1 (by rfl) rfl hA4 T2 HT2 (HO4.out.alloc _) (.inr ⟨_, _, rfl, str_lit (heap_alloc_new w4 _)⟩) (by simpa using hA3) ?_; intro p5 k5 w5 ho5 hg5; have B5 := Lib.hid ((B4.out.alloc B4.out.size (.cells #[.string u] 9)).trans (below_row hg5 (fun g hg => (HO4.out.block_ge g hg).1) (by simpa using hA3))); have n0 := usr_cell HEV3.out B5.out HLB3.out HU.out; have HO5 := Lib.hid ho5; clear ho5 hg5)
                | (refine step_append_strs (by rfl) _ _ (by rfl) w3.heap.size [] T1 _ (by rfl) p2 j cs (by rfl) HTL.out hA1 T1 (Lib.hid rfl) (own_empty_s (heap_alloc_new w3 _) (Nat.le_refl _)) (ET1.out.below ((Below.refl w3.heap.size w3).alloc (Nat.le_refl _) (.cells #[] 9)).drew (Nat.le_refl _)) hA2 ?_; intro p4 k4 w4 ho4 hg4; have B4 := Lib.hid (below_one2 hg4); have tagA : True := trivial; have m0 := usr_cell HEV3.out B4.out HLB3.out HU.out; have HO4 := Lib.hid ho4; have hA3 := Nat.le_succ_of_le B4.out.size; clear ho4 hg4)
                | (refine step_append_strs (by rfl) _ _ (by rfl) w3.heap.size [] T1 _ (by rfl) p2 j cs (by rfl) HTL.out hA1 T1 (Lib.hid rfl) (own_empty_s HHb.out (Nat.le_succ _)) (ET1.out.below (((Below.refl w3.heap.size w3).alloc (Nat.le_refl _) (.cells #[.string u] 9)).alloc hle1 (.cells #[] 9)).drew (Nat.le_refl _)) hA2b ?_; intro p4 k4 w4 ho4 hg4; have B4 := Lib.hid (below_two2 hg4 (Nat.le_succ _)); have lateB := Lib.hid (late_b hg4); have m0 := usr_cell HEV3.out B4.out HLB3.out HU.out; have HO4 := Lib.hid ho4; have hA3 := Nat.le_succ_of_le B4.out.size; clear ho4 hg4)
                | (refine step_append_strs (by rfl) _ _ (by rfl) w3.heap.size [] T1 _ (by rfl) p2 j cs (by rfl) HTL.out hA1 T1 (Lib.hid rfl) (own_empty_s HHc.out (Nat.le_refl _)) (ET1.out.below (((Below.refl w3.heap.size w3).alloc (Nat.le_refl _) (.cells #[] 9)).alloc hle2 (.cells #[.string u] 9)).drew (Nat.le_refl _)) hA2c ?_; intro p4 k4 w4 ho4 hg4; have B4 := Lib.hid (below_two2 hg4 (Nat.le_refl _)); have lateC := Lib.hid (late_c hg4); have m0 := usr_cell HEV3.out B4.out HLB3.out HU.out; have HO4 := Lib.hid ho4; have hA3 := Nat.le_succ_of_le B4.out.size; clear ho4 hg4)))
            all_goals
              go_wp2_with fail
              go_roundw
              case rel => exact ⟨k + 1, T3, by omega, by go_num, usr_next HE.out hlt B6.out B03.out HO6.out (HT3.out.trans (by rw [HT2.out, HT1.out, HR1.out])) (ins_sorted HE.out.sorted hj hbig.out HJ.out) (HKN.out (fun c => HIN.out (HE.out.perm.mem_iff.2 c)))⟩
              case measure => simp [intOf]; omega
    · obtain rfl : k = l.length := by omega
      have he := HE.out
      have hpm := he.perm
      rw [List.take_length] at hpm
      have HP := Lib.hid hpm
      clear he hpm
      go_wp2
      go_ret
      exact ⟨sn, _, rfl, HE.out.own, HP.out, HE.out.sorted, hsl, HE.out.b⟩
end Go.Proofs.Ytbcldkbacdnpiaa
