/- missivelaw02.WireBack. -/
import Derived.Test.YtfdacinedbdncaaDoorWrOpen
namespace Go.Proofs.YtfdacinedbdncaaDoor
open Go.RowKit
namespace Wr
namespace VAt
variable {w w' : World} {b o : Nat} {x : Vl} {p1 p2 : Option Addr} {c1 c2 : Nat}
theorem below (h : VAt w b o x p1 p2 c1 c2) (hb : Below w.heap.size w w') : VAt w' b o x p1 p2 c1 c2 := by
  have hlt : b < w.heap.size := cell_in (a := ⟨b, o, none⟩) h.c0
  have hk : ∀ j, w'.cell? ⟨b, j, none⟩ = w.cell? ⟨b, j, none⟩ := fun j => World.cell?_of_block (w := w) (a := ⟨b, j, none⟩) (hb.block b hlt)
  exact ⟨(hk _).trans h.c0, (hk _).trans h.c1, (hk _).trans h.c2, (hk _).trans h.c3, (hk _).trans h.c4, h.li.below hb (Nat.le_refl _), h.lt.below hb (Nat.le_refl _), h.ok⟩
end VAt
theorem head_steps {W : World} (hE : Env W) : Hid (∀ w', Below W.heap.size W w' → Env w') := fun _ hb => hE.below hb hE.lt
theorem encs_len {l : List Vl} (h20 : l.length ≤ 20) (hs : ∀ y ∈ l, y.Small) (ho : ∀ y ∈ l, y.Ok) : (l.flatMap Vl.enc).length ≤ 4000000 := by
  have := flat_len Vl.enc 200000 l (fun x hx => (enc_len (hs x hx) (ho x hx)).1)
  omega
theorem encs_take (l : List Vl) (k : Nat) : ((l.take k).flatMap Vl.enc).length ≤ (l.flatMap Vl.enc).length := by
  have e : l.flatMap Vl.enc = (l.take k).flatMap Vl.enc ++ (l.drop k).flatMap Vl.enc := by rw [← List.flatMap_append, List.take_append_drop]
  rw [e, List.length_append]; omega
theorem encs_drop (l : List Vl) (k : Nat) : ((l.drop k).flatMap Vl.enc).length ≤ (l.flatMap Vl.enc).length := by
  have e : l.flatMap Vl.enc = (l.take k).flatMap Vl.enc ++ (l.drop k).flatMap Vl.enc := by rw [← List.flatMap_append, List.take_append_drop]
  rw [e, List.length_append]; omega
set_option maxRecDepth 100000 in
set_option maxHeartbeats 4000000 in
theorem back_walk (v : Value) (l : List Vl) (tail : ByteArray) (W : World) (hv : LVs W v l) (hE : Env W) (hok : ∀ y ∈ l, y.Ok) (htl : tail.size ≤ maxLen) :
    Calls Tryd.prog 5 #[v, .string tail] W fun e w' => e = .returned (.bool true) ∧ Below W.heap.size W w' := by
  have HES := head_steps hE
  have HV := Lib.hid hv
  have HOK := Lib.hid hok
  obtain ⟨b, o, cap, p, rfl, hc1, hc2, hp, hcell⟩ := hv.parts
  unfold maxLen at hc2 htl
  have HCELL := Lib.hid hcell
  have HP := Lib.hid hp
  have HEE := Lib.hid hE
  obtain ⟨N, hN⟩ : ∃ N, N = l.length := ⟨_, rfl⟩
  rw [← hN] at HP hc1 HV ⊢
  have HN := Lib.hid hN
  clear hv hcell hp hE hok hN
  go_enter Tryd.func5, Tryd.ntmps5
  go_wp2_with fail
  refine (small_any W HEE.out).mono ?_
  rintro e w1 ⟨rfl, b1⟩
  have B1 := Lib.hid b1
  clear b1
  go_wp2_with fail
  have hv1 : LVs w1 (.slice p N cap) l := by
    refine ⟨p, cap, by rw [HN.out], by have := HN.out; omega, by unfold maxLen; omega, ?_⟩
    rcases Nat.eq_zero_or_pos l.length with h0 | h0
    · exact .inl (List.length_eq_zero_iff.1 h0)
    · refine .inr ⟨b, o, HP.out (by have := HN.out; omega), fun i x hx => ?_⟩
      obtain ⟨p1, p2, c1, c2, h⟩ := HCELL.out i x hx
      exact ⟨p1, p2, c1, c2, h.below B1.out⟩
  refine (few_any _ l w1 hv1).mono ?_
  rintro e w2 ⟨fx, rfl, hfew, d, rfl⟩
  have HFEW := Lib.hid hfew
  clear hfew hv1
  have B2 : Hid (Below W.heap.size W (w1.drewN d)) := ⟨B1.out.os, B1.out.tape, B1.out.output, B1.out.size, B1.out.block⟩
  cases fx with
  | false =>
    go_wp2
    go_ret
    exact ⟨rfl, B2.out⟩
  | true =>
    by_cases ht : 400 < tail.size
    · have hd : decide (400 < tail.size) = true := decide_eq_true ht
      go_wp2
      go_ret
      exact ⟨rfl, B2.out⟩
    · have hd : decide (400 < tail.size) = false := decide_eq_false ht
      have HLEN : Hid ((l.flatMap Vl.enc).length ≤ 4000000) := encs_len (HFEW.out rfl).1 (HFEW.out rfl).2 HOK.out
      have HSM : Hid (∀ y ∈ l, y.Small) := (HFEW.out rfl).2
      have HVX : Hid (∀ w' i x, Below W.heap.size W w' → l[i]? = some x → ∃ p1 p2 c1 c2, VAt w' b (o + i * 5) x p1 p2 c1 c2) := fun w' i x hb hx => by
        obtain ⟨p1, p2, c1, c2, h⟩ := HCELL.out i x hx
        exact ⟨p1, p2, c1, c2, h.below hb⟩
      clear HFEW
      go_wp2_with fail
      go_loopw [6, 7] (fun s i wr => ∃ k : Nat, k ≤ N ∧ i = .int .i64 k ∧ s = .string (bs ((l.take k).flatMap Vl.enc)) ∧ Below W.heap.size W wr) (fun _ i _ => N - (intOf i).toNat)
      case atStart => exact ⟨0, Nat.zero_le _, rfl, rfl, B2.out⟩
      case round =>
        obtain ⟨k, hk, rfl, rfl, hb⟩ := hrel
        have HB := Lib.hid hb
        clear hb
        have hA := encs_take l k
        obtain ⟨A, hAe⟩ : ∃ A, A = bs ((l.take k).flatMap Vl.enc) := ⟨_, rfl⟩
        have hAz : A.size ≤ 4000000 := by rw [hAe, bs_size]; exact Nat.le_trans hA HLEN.out
        rw [← hAe]
        have HAE := Lib.hid hAe
        clear hA hAe
        by_cases hlt : k < N
        · obtain ⟨x, hx⟩ : ∃ x, l[k]? = some x := ⟨_, List.getElem?_eq_getElem (by rw [← HN.out]; exact hlt)⟩
          obtain ⟨p1, p2, c1, c2, hV⟩ := HVX.out wr k x HB.out hx
          have hpp := HP.out (by omega)
          subst hpp
          have q0 := hV.c0
          have q1 := hV.c1
          have q2 := hV.c2
          have q3 := hV.c3
          have q4 := hV.c4
          have hm := List.mem_of_getElem? hx
          have HW := Lib.hid (write_any x p1 p2 c1 c2 wr hV.li hV.lt hV.ok (HSM.out x hm) (HES.out _ HB.out))
          have hY := (enc_len (HSM.out x hm) hV.ok).1
          obtain ⟨Y, hYe⟩ : ∃ Y, Y = bs x.enc := ⟨_, rfl⟩
          have hYz : Y.size ≤ 200000 := by rw [hYe, bs_size]; exact hY
          rw [← hYe] at HW
          have HYE := Lib.hid hYe
          have HX := Lib.hid hx
          clear hx hV hm hY hYe
          go_wp2_with fail
          refine HW.out.mono ?_
          rintro e w3 ⟨rfl, b3⟩
          have B3 := Lib.hid (HB.out.trans (b3.mono HB.out.size))
          clear b3
          go_wp2
          go_roundw
          case rel =>
            refine ⟨k + 1, by omega, by go_num, ?_, B3.out⟩
            rw [HAE.out, HYE.out, bs_add, List.take_add_one, HX.out]
            simp
          case measure => simp [intOf]; omega
        · have hkN : k = N := by omega
          have HTA : Hid (A ++ tail = bs (l.flatMap Vl.enc ++ tail.data.toList)) := by
            show _ = _
            rw [HAE.out, ← bs_add, bs_self, hkN, HN.out, List.take_length]
          go_wp2_with fail
          refine (open_any _ _).mono ?_
          rintro e w4 ⟨rfl, r4, b4⟩
          have B4 := Lib.hid (HB.out.trans (b4.mono HB.out.size))
          have R4 : Hid (Rd 54 w4 wr.heap.size ⟨l.flatMap Vl.enc ++ tail.data.toList, false⟩) := by
            have := r4
            rw [HTA.out] at this
            exact this
          have HBK : Hid (W.heap.size ≤ wr.heap.size) := HB.out.size
          obtain ⟨bk, hbk⟩ : ∃ bk, bk = wr.heap.size := ⟨_, rfl⟩
          rw [← hbk] at R4 HBK ⊢
          clear r4 b4 hbk hkN
          go_wp2_with fail
          go_loopw [9] (fun i wr => ∃ k : Nat, k ≤ N ∧ i = .int .i64 k ∧ Below W.heap.size W wr ∧ Rd 54 wr bk ⟨(l.drop k).flatMap Vl.enc ++ tail.data.toList, false⟩) (fun i _ => N - (intOf i).toNat)
          case atStart => exact ⟨0, Nat.zero_le _, rfl, B4.out, by simpa using R4.out⟩
          case round =>
            obtain ⟨k, hk, rfl, hb, hr⟩ := hrel
            have HB := Lib.hid hb
            have HR := Lib.hid hr
            clear hb hr
            by_cases hlt : k < N
            · obtain ⟨x, hx⟩ : ∃ x, l[k]? = some x := ⟨_, List.getElem?_eq_getElem (by rw [← HN.out]; exact hlt)⟩
              obtain ⟨p1, p2, c1, c2, hV0⟩ := HCELL.out k x hx
              have hV := hV0.below HB.out
              have hpp := HP.out (by omega)
              subst hpp
              have q0 := hV.c0
              have q1 := hV.c1
              have q2 := hV.c2
              have q3 := hV.c3
              have q4 := hV.c4
              have hm := List.mem_of_getElem? hx
              have hdr : (l.drop k).flatMap Vl.enc ++ tail.data.toList = x.enc ++ ((l.drop (k + 1)).flatMap Vl.enc ++ tail.data.toList) := by
                rw [List.drop_eq_getElem_cons (by rw [← HN.out]; exact hlt)]
                have : l[k]'(by rw [← HN.out]; exact hlt) = x := by
                  have h1 := List.getElem?_eq_getElem (l := l) (i := k) (by rw [← HN.out]; exact hlt)
                  rw [hx] at h1
                  exact (Option.some.inj h1).symm
                rw [this]; simp
              have hlen := encs_drop l k
              have HEQ := Lib.hid (equal_any x p1 p2 c1 c2 bk _ W wr ⟨HB.out, hV0.li, hV0.lt, hV0.ok, HEE.out, HBK.out, HR.out, (fun h => by cases h), by
                have h1 := HLEN.out
                have h2 : tail.data.toList.length = tail.size := Array.length_toList
                simp only [List.length_append]
                omega⟩)
              have hback := Vl.back (HSM.out x hm) hV0.ok ((l.drop (k + 1)).flatMap Vl.enc ++ tail.data.toList)
              rw [← hdr] at hback
              have HBACK := Lib.hid hback
              clear hx hV hV0 hm hdr hlen hback
              go_wp2_with fail
              refine HEQ.out.mono ?_
              rintro e w5 ⟨he, r5, f5⟩
              rw [HBACK.out] at he r5
              simp only at he r5
              subst he
              have R5 := Lib.hid r5
              have B5 := Lib.hid (fr_below HB.out HBK.out f5)
              clear r5 f5
              go_wp2
              go_roundw
              case rel => exact ⟨k + 1, by omega, by go_num, B5.out, R5.out⟩
              case measure => simp [intOf]; omega
            · have hR : Hid (Rd 54 wr bk ⟨tail.data.toList, false⟩) := by
                have h1 := HR.out
                rw [List.drop_eq_nil_of_le (by have := HN.out; omega)] at h1
                show Rd _ _ _ _
                simpa using h1
              have HLF : Hid (Calls Tryd.prog 36 #[.pointer (some ⟨bk, 0, none⟩)] wr fun e w' => e = .returned (.int .i64 tail.size) ∧ wr = w') := by
                have h1 := left_any bk _ wr hR.out
                have h2 : tail.data.toList.length = tail.size := Array.length_toList
                simp only [h2] at h1
                exact h1
              have HDN := Lib.hid (done_any bk _ wr hR.out)
              cases hte : tail.data.toList with
              | nil =>
                have : tail = ⟨#[]⟩ := by rw [← bs_self tail, hte]
                subst this
                go_wp2_with fail
                refine HLF.out.mono ?_
                rintro e w6 ⟨rfl, rfl⟩
                go_wp2_with fail
                refine HDN.out.mono ?_
                rintro e w6 ⟨rfl, rfl⟩
                go_wp2
                go_ret
                exact ⟨rfl, HB.out⟩
              | cons z t =>
                have HD2 : Hid (rdone ⟨tail.data.toList, false⟩ = false) := by show _ = _; rw [hte]; rfl
                rw [HD2.out] at HDN
                have hne : (tail.toList == (⟨#[]⟩ : ByteArray).toList) = false := eq_str_no (by rw [hte]; simp)
                have hne2 : tail.toList ≠ [] := by rw [ByteArray.toList_eq, hte]; simp
                have hne3 : (tail.toList == []) = false := by rw [ByteArray.toList_eq, hte]; simp
                have hne4 : tail.toList.isEmpty = false := by rw [ByteArray.toList_eq, hte]; simp
                clear hte
                go_wp2_with fail
                refine HLF.out.mono ?_
                rintro e w6 ⟨rfl, rfl⟩
                go_wp2_with fail
                refine HDN.out.mono ?_
                rintro e w6 ⟨rfl, rfl⟩
                go_wp2
                go_ret
                exact ⟨rfl, HB.out⟩
end Wr
end Go.Proofs.YtfdacinedbdncaaDoor
