/- The laws' few, leaves; missiveref01.Strings; merkle.hashes: the walks. -/
import Derived.Test.YtmapodkdnbbjgaaDoorMkWalk2
namespace Go.Proofs.YtmapodkdnbbjgaaDoor
open Go.RowKit Mk Sl
theorem str_ext {x y : ByteArray} (h : x.toList = y.toList) : x = y := by
  rw [ByteArray.toList_eq, ByteArray.toList_eq] at h
  exact ByteArray.ext (Array.toList_inj.1 h)
def fewB (l : List ByteArray) : Bool := (l.all fun s => decide (s.size ≤ 40)) && decide (l.length ≤ 70)
theorem few_short {l : List ByteArray} (h : fewB l = true) : Short l 40 ∧ l.length ≤ 70 := by
  simp only [fewB, Bool.and_eq_true, List.all_eq_true, decide_eq_true_eq] at h
  exact h
set_option maxHeartbeats 1000000 in
theorem few_any (l : List ByteArray) (v : Value) (w : World) (hv : SV w v l) :
    Calls Tryd.prog 10 #[v] w fun e w' => e = .returned (.bool (fewB l)) ∧ w = w' := by
  obtain ⟨p, cap, rfl, hcap, hml⟩ := hv.shape
  have HV := Lib.hid hv
  have hll : l.length ≤ maxLen := by omega
  unfold maxLen at hll
  obtain ⟨b, hb⟩ : ∃ b, fewB l = b := ⟨_, rfl⟩
  rw [hb]
  have HB := Lib.hid hb
  clear hb hv hcap hml
  go_enter Tryd.func10, Tryd.ntmps10
  go_wp2
  go_loop [3] (fun i => ∃ j : Nat, j ≤ l.length ∧ i = .int .i64 j ∧ Hid (Short (l.take j) 40)) (fun i => l.length - (intOf i).toNat)
  case atStart => exact ⟨0, Nat.zero_le _, rfl, Lib.hid (by intro s hs; simp at hs)⟩
  case round =>
    obtain ⟨j, hj, rfl, hS⟩ := hrel
    by_cases hlt : j < l.length
    · obtain ⟨g, o, c, hpv, _, _, _, hc⟩ := HV.out.row (by omega)
      simp only [Value.slice.injEq, true_and] at hpv
      obtain ⟨rfl, rfl⟩ := hpv
      have c0 := hc j hlt
      have e0 : l[j]'hlt = l.getD j ⟨#[]⟩ := by simp [List.getD_eq_getElem?_getD, List.getElem?_eq_getElem hlt]
      have hts : l.take (j + 1) = l.take j ++ [l.getD j ⟨#[]⟩] := by rw [List.take_succ_eq_append_getElem hlt, e0]
      have hmem : l.getD j ⟨#[]⟩ ∈ l := by rw [← e0]; exact List.getElem_mem hlt
      obtain ⟨x, hx⟩ : ∃ x, l.getD j ⟨#[]⟩ = x := ⟨_, rfl⟩
      rw [hx] at c0 hts hmem
      have HT := Lib.hid hts
      have HM := Lib.hid hmem
      clear hc hx hts hmem e0
      by_cases h40 : 40 < x.size
      · have hbf : b = false := by
          rw [← HB.out]
          cases hq : fewB l with
          | false => rfl
          | true => have := (few_short hq).1 x HM.out; omega
        subst hbf
        go_wp2
        go_ret
        exact ⟨rfl, rfl⟩
      · go_wp2
        go_round
        case rel => exact ⟨j + 1, by omega, by go_num, Lib.hid (by
          rw [HT.out]; intro s hs
          rcases List.mem_append.1 hs with h | h
          · exact hS.out s h
          · simp at h; subst h; omega)⟩
        case measure => simp [intOf]; omega
    · have hall : Short l 40 := by
        have := hS.out
        rw [List.take_of_length_le (by omega)] at this; exact this
      have hbv : b = decide (l.length ≤ 70) := by
        rw [← HB.out, fewB]
        rw [show (l.all fun s => decide (s.size ≤ 40)) = true from List.all_eq_true.2 fun s hs => by simpa using hall s hs]
        rfl
      have HBV := Lib.hid hbv
      clear hall hbv
      go_wp2
      go_ret
      exact ⟨by rw [HBV.out]; congr 2; simp; omega, rfl⟩
set_option maxHeartbeats 1000000 in
theorem strings_any (a b : List ByteArray) (va vb : Value) (w : World) (ha : SV w va a) (hb : SV w vb b) :
    Calls Tryd.prog 17 #[va, vb] w fun e w' => e = .returned (.bool (decide (a = b))) ∧ ∃ m, w' = w.drewN m := by
  obtain ⟨p, cap, rfl, hcap, hml⟩ := ha.shape
  obtain ⟨q, caq, rfl, hcaq, hmq⟩ := hb.shape
  have HA := Lib.hid ha
  have HB := Lib.hid hb
  have hla : a.length ≤ maxLen := by omega
  have hlb : b.length ≤ maxLen := by omega
  unfold maxLen at hla hlb
  obtain ⟨t, ht⟩ : ∃ t, decide (a = b) = t := ⟨_, rfl⟩
  rw [ht]
  have HT := Lib.hid ht
  clear ht ha hb hcap hml hcaq hmq
  by_cases hl : a.length = b.length
  · obtain ⟨n, hn⟩ : ∃ n, b.length = n := ⟨_, rfl⟩
    rw [hn] at hl hlb ⊢
    rw [hl]
    have HL := Lib.hid hl
    have HN := Lib.hid hn
    clear hl hn hla
    go_enter Tryd.func17, Tryd.ntmps17
    go_wp2
    go_loopw [5] (fun i wr => ∃ j m : Nat, j ≤ n ∧ i = .int .i64 j ∧ Hid (a.take j = b.take j) ∧ wr = w.drewN m) (fun i _ => n - (intOf i).toNat)
    case atStart => exact ⟨0, 0, Nat.zero_le _, rfl, Lib.hid (by simp), rfl⟩
    case round =>
      obtain ⟨j, m, hj, rfl, hS, rfl⟩ := hrel
      by_cases hlt : j < n
      · obtain ⟨g, o, c, hpv, _, _, _, hc⟩ := HA.out.row (by rw [HL.out]; omega)
        simp only [Value.slice.injEq, true_and] at hpv
        obtain ⟨rfl, rfl⟩ := hpv
        obtain ⟨g2, o2, c2, hpv, _, _, _, hc2⟩ := HB.out.row (by rw [HN.out]; omega)
        simp only [Value.slice.injEq, true_and] at hpv
        obtain ⟨rfl, rfl⟩ := hpv
        have c0 := hc j (by rw [HL.out]; omega)
        have d0 := hc2 j (by rw [HN.out]; omega)
        have hja : j < a.length := by rw [HL.out]; omega
        have hjb : j < b.length := by rw [HN.out]; omega
        have e0 : a[j]'hja = a.getD j ⟨#[]⟩ := by simp [List.getD_eq_getElem?_getD, List.getElem?_eq_getElem hja]
        have e1 : b[j]'hjb = b.getD j ⟨#[]⟩ := by simp [List.getD_eq_getElem?_getD, List.getElem?_eq_getElem hjb]
        have hta : a.take (j + 1) = a.take j ++ [a.getD j ⟨#[]⟩] := by rw [List.take_succ_eq_append_getElem hja, e0]
        have htb : b.take (j + 1) = b.take j ++ [b.getD j ⟨#[]⟩] := by rw [List.take_succ_eq_append_getElem hjb, e1]
        have hne : a.getD j ⟨#[]⟩ ≠ b.getD j ⟨#[]⟩ → a ≠ b := fun h he => h (by rw [he])
        obtain ⟨x, hx⟩ : ∃ x, a.getD j ⟨#[]⟩ = x := ⟨_, rfl⟩
        obtain ⟨y, hy⟩ : ∃ x, b.getD j ⟨#[]⟩ = x := ⟨_, rfl⟩
        rw [hx] at c0 hta hne
        rw [hy] at d0 htb hne
        have y1 : 0 ≤ (j : Int) := by omega
        have y2 : (j : Int) < n := by omega
        have HTA := Lib.hid hta; have HTB := Lib.hid htb; have HNE := Lib.hid hne
        clear hc hc2 hx hy hta htb hne e0 e1 hja hjb
        by_cases he : x.toList = y.toList
        · have hxy : x = y := str_ext he
          subst hxy
          clear he
          go_wp2
          go_quiet (fail)
          go_wp2
          go_roundw
          case rel => exact ⟨j + 1, _, by omega, by go_num, Lib.hid (by rw [HTA.out, HTB.out, hS.out]), by first | rfl | exact World.drewN_drewN _ _ _⟩
          case measure => simp [intOf]; omega
        · have htf : t = false := by rw [← HT.out]; exact decide_eq_false (HNE.out fun h => he (by rw [h]))
          subst htf
          have hbb : (!x.toList == y.toList) = true := by simp [he]
          go_wp2
          go_quiet (fail)
          go_wp2
          go_ret
          exact ⟨rfl, _, by first | rfl | exact World.drewN_drewN _ _ _⟩
      · have htt : t = true := by
          rw [← HT.out]
          have := hS.out
          rw [List.take_of_length_le (by rw [HL.out]; omega), List.take_of_length_le (by rw [HN.out]; omega)] at this
          exact decide_eq_true this
        subst htt
        go_wp2
        go_ret
        exact ⟨rfl, _, rfl⟩
  · have htf : t = false := by rw [← HT.out]; exact decide_eq_false fun h => hl (by rw [h])
    subst htf
    have hd : ((a.length : Int) != (b.length : Int)) = true := by rw [bne_iff_ne]; omega
    go_enter Tryd.func17, Tryd.ntmps17
    go_wp2
    go_ret
    exact ⟨rfl, 0, rfl⟩
set_option maxHeartbeats 1000000 in
theorem leaves_any (l : List ByteArray) (v : Value) (w : World) (hv : SV w v l) (hl : l.length ≤ 1000) (hS : Short l 1000) (hk : OKW w) :
    Calls Tryd.prog 26 #[v] w (Ret w (l.map leaf)) := by
  obtain ⟨p, cap, rfl, hcap, hml⟩ := hv.shape
  have HV := Lib.hid hv
  have HS := Lib.hid hS
  have HK := Lib.hid hk
  clear hv hcap hml hS hk
  go_enter Tryd.func26, Tryd.ntmps26
  go_wp2
  go_loopw [3, 4] (fun u i wr => ∃ j : Nat, j ≤ l.length ∧ i = .int .i64 j ∧ SO wr w.heap.size u ((l.take j).map leaf) ∧ Below w.heap.size w wr) (fun _ i _ => l.length - (intOf i).toNat)
  case atStart => exact ⟨0, Nat.zero_le _, rfl, SO.nil _ _, Below.refl _ _⟩
  case round =>
    obtain ⟨j, hj, rfl, ho, hb⟩ := hrel
    have HO := Lib.hid ho
    have HB := Lib.hid hb
    by_cases hlt : j < l.length
    · obtain ⟨g, o, c, hpv, hg, _, _, hc⟩ := HV.out.row (by omega)
      simp only [Value.slice.injEq, true_and] at hpv
      obtain ⟨rfl, rfl⟩ := hpv
      have c0 := (hb.cell (p := ⟨g, o + j, none⟩) hg).trans (hc j hlt)
      have e0 : l[j]'hlt = l.getD j ⟨#[]⟩ := by simp [List.getD_eq_getElem?_getD, List.getElem?_eq_getElem hlt]
      have hts : (l.take (j + 1)).map leaf = (l.take j).map leaf ++ [leaf (l.getD j ⟨#[]⟩)] := by rw [List.take_succ_eq_append_getElem hlt, e0, List.map_append]; rfl
      have hxs : (l.getD j ⟨#[]⟩).size ≤ 100000 := Nat.le_trans (HS.out.get j) (by omega)
      obtain ⟨x, hx⟩ : ∃ x, l.getD j ⟨#[]⟩ = x := ⟨_, rfl⟩
      rw [hx] at c0 hts hxs
      have HC := Lib.hid (leaf_any x wr hxs (HK.out.below hb))
      obtain ⟨y, hy⟩ : ∃ y, leaf x = y := ⟨_, rfl⟩
      rw [hy] at HC hts
      have HT := Lib.hid hts
      have hlen : ((l.take j).map leaf).length + 1 ≤ 1000000 := by simp; omega
      clear hc hx hts hxs e0 ho hb hy
      go_wp2_with fail
      refine HC.out.mono ?_
      rintro e w1 ⟨rfl, b1⟩
      have HO1 : Hid (SO w1 w.heap.size u3 ((l.take j).map leaf)) := Lib.hid (HO.out.below b1 (Nat.le_refl _))
      have HB1 : Hid (Below w.heap.size w w1) := Lib.hid (HB.out.trans (b1.mono HB.out.size))
      clear b1 HO HB HC
      go_wp2_with (at_builtin; refine wpList_append rfl _ _ rfl w.heap.size _ _ [y] rfl (HO1.out.alloc _) _ rfl (SV.lit (g := w1.heap.size) [y] (by simp) (heap_alloc_new w1 _)) hlen (by have := HB1.out.size; simp; omega) ?_; intro v4 w4 ho4 hb4 _; have HO4 : Hid (SO w4 w.heap.size v4 ((l.take (j + 1)).map leaf)) := Lib.hid (by rw [HT.out]; exact ho4); have HB4 : Hid (Below w.heap.size w w4) := Lib.hid ((HB1.out.alloc HB1.out.size _).trans hb4); clear ho4 hb4)
      go_roundw
      case rel => exact ⟨j + 1, by omega, by go_num, HO4.out, HB4.out⟩
      case measure => simp [intOf]; omega
    · have HF : Hid (SO wr w.heap.size u3 (l.map leaf)) := Lib.hid (by
        have h := ho
        rw [List.take_of_length_le (by omega)] at h; exact h)
      clear ho hb HO
      go_wp2
      go_ret
      exact ⟨_, rfl, HF.out, HB.out⟩
set_option maxHeartbeats 1000000 in
theorem closure_any (s : ByteArray) (w : World) :
    Calls Tryd.prog 50 #[.string s] w fun e w' => e = .returned (.bool (!(s.size == 32))) ∧ w = w' := by
  by_cases h : s.size = 32
  · have h1 : ((s.size : Int) != 32) = false := by simp; omega
    have h2 : (s.size == 32) = true := by simpa using h
    go_enter Tryd.func50, Tryd.ntmps50
    go_wp2
    go_ret
    exact ⟨by rw [h2]; rfl, rfl⟩
  · have h1 : ((s.size : Int) != 32) = true := by rw [bne_iff_ne]; omega
    have h2 : (s.size == 32) = false := by simpa using h
    go_enter Tryd.func50, Tryd.ntmps50
    go_wp2
    go_ret
    exact ⟨by rw [h2]; rfl, rfl⟩
def IdxPost (l : List ByteArray) (w : World) (e : Ending) (w' : World) : Prop := ∃ r : Int, e = .returned (.int .i64 r) ∧ Hid ((r = -1 ∧ allH l = true) ∨ (0 ≤ r ∧ allH l = false)) ∧ w = w'
set_option maxHeartbeats 1000000 in
theorem index_any (l : List ByteArray) (v : Value) (w : World) (hv : SV w v l) :
    Calls Tryd.prog 59 #[v, Value.func (Fn.func 50) #[] #[]] w (IdxPost l w) := by
  obtain ⟨p, cap, rfl, hcap, hml⟩ := hv.shape
  have HV := Lib.hid hv
  have hla : l.length ≤ maxLen := by omega
  unfold maxLen at hla
  clear hv hcap hml
  go_enter Tryd.func59, Tryd.ntmps59
  go_wp2
  go_loop [8, 5] (fun i _ => ∃ j : Nat, j ≤ l.length ∧ i = .int .i64 j ∧ Hid (allH (l.take j) = true)) (fun i _ => l.length - (intOf i).toNat)
  case atStart => exact ⟨0, Nat.zero_le _, rfl, Lib.hid rfl⟩
  case round =>
    obtain ⟨j, hj, rfl, hS⟩ := hrel
    by_cases hlt : j < l.length
    · obtain ⟨g, o, c, hpv, _, _, _, hc⟩ := HV.out.row (by omega)
      simp only [Value.slice.injEq, true_and] at hpv
      obtain ⟨rfl, rfl⟩ := hpv
      have c0 := hc j hlt
      have e0 : l[j]'hlt = l.getD j ⟨#[]⟩ := by simp [List.getD_eq_getElem?_getD, List.getElem?_eq_getElem hlt]
      have hts : l.take (j + 1) = l.take j ++ [l.getD j ⟨#[]⟩] := by rw [List.take_succ_eq_append_getElem hlt, e0]
      have hmem : l.getD j ⟨#[]⟩ ∈ l := by rw [← e0]; exact List.getElem_mem hlt
      obtain ⟨x, hx⟩ : ∃ x, l.getD j ⟨#[]⟩ = x := ⟨_, rfl⟩
      rw [hx] at c0 hts hmem
      have HT := Lib.hid hts
      have HM := Lib.hid hmem
      have HC := Lib.hid (closure_any x w)
      clear hc hx hts hmem e0
      cases hz : (x.size == 32) with
      | true =>
        rw [hz] at HC
        have HZ := Lib.hid hz
        clear hz
        go_wp2_with fail
        refine HC.out.mono ?_
        rintro e w1 ⟨rfl, rfl⟩
        go_wp2
        go_round
        case rel => exact ⟨j + 1, by omega, by go_num, Lib.hid (by
          have := hS.out
          unfold allH at *
          rw [HT.out, List.all_append, this]; simpa using HZ.out)⟩
        case measure => simp [intOf]; omega
      | false =>
        rw [hz] at HC
        have HF : Hid (allH l = false) := Lib.hid (by
          unfold allH
          rw [List.all_eq_false]
          exact ⟨x, HM.out, by rw [hz]; simp⟩)
        clear hz
        go_wp2_with fail
        refine HC.out.mono ?_
        rintro e w1 ⟨rfl, rfl⟩
        go_wp2
        go_ret
        exact ⟨_, rfl, Lib.hid (.inr ⟨by omega, HF.out⟩), rfl⟩
    · have HF : Hid (allH l = true) := Lib.hid (by
        have := hS.out
        rw [List.take_of_length_le (by omega)] at this; exact this)
      go_wp2
      go_ret
      exact ⟨_, rfl, Lib.hid (.inl ⟨rfl, HF.out⟩), rfl⟩
theorem contains_any (l : List ByteArray) (v : Value) (w : World) (hv : SV w v l) :
    Calls Tryd.prog 49 #[v, Value.func (Fn.func 50) #[] #[]] w fun e w' => e = .returned (.bool (!allH l)) ∧ w = w' := by
  have HC := Lib.hid (index_any l v w hv)
  clear hv
  go_enter Tryd.func49, Tryd.ntmps49
  go_wp2_with fail
  refine HC.out.mono ?_
  rintro e w1 ⟨r, rfl, hr, rfl⟩
  rcases hr.out with ⟨h1, h2⟩ | ⟨h1, h2⟩
  · subst h1
    have HH := Lib.hid h2
    clear h2 hr
    go_wp2
    go_ret
    exact ⟨by rw [HH.out]; rfl, rfl⟩
  · have HH := Lib.hid h2
    have hd : decide (0 ≤ r) = true := decide_eq_true h1
    clear h2 hr
    go_wp2
    go_ret
    exact ⟨by rw [HH.out]; rfl, rfl⟩
theorem hashes_any (l : List ByteArray) (v : Value) (w : World) (hv : SV w v l) :
    Calls Tryd.prog 38 #[v] w fun e w' => e = .returned (.bool (allH l)) ∧ w = w' := by
  have HC := Lib.hid (contains_any l v w hv)
  clear hv
  cases hz : allH l with
  | true =>
    rw [hz] at HC
    clear hz
    go_enter Tryd.func38, Tryd.ntmps38
    go_wp2_with fail
    refine HC.out.mono ?_
    rintro e w1 ⟨rfl, rfl⟩
    go_wp2
    go_ret
    exact ⟨rfl, rfl⟩
  | false =>
    rw [hz] at HC
    clear hz
    go_enter Tryd.func38, Tryd.ntmps38
    go_wp2_with fail
    refine HC.out.mono ?_
    rintro e w1 ⟨rfl, rfl⟩
    go_wp2
    go_ret
    exact ⟨rfl, rfl⟩
end Go.Proofs.YtmapodkdnbbjgaaDoor
