/- missiveref02.SameNums, SameTexts. -/
import Derived.Test.YtfdacinedbdncaaDoorWrHelp2
namespace Go.Proofs.YtfdacinedbdncaaDoor
open Go.RowKit
namespace Wr
set_option maxRecDepth 100000 in
set_option maxHeartbeats 1000000 in
theorem sameint_any (va vb : Value) (la lb : List Int) (w : World) (ha : LV vi w va la) (hb : LV vi w vb lb) :
    Calls Tryd.prog 30 #[va, vb] w fun e w' => e = .returned (.bool (la == lb)) ∧ ∃ n, w' = w.drewN n := by
  obtain ⟨ba, oa, ca, pa, rfl, ha1, ha2, hpa, hca⟩ := ha.parts
  obtain ⟨bb, ob, cb, pb, rfl, hb1, hb2, hpb, hcb⟩ := hb.parts
  have HCA := Lib.hid hca
  have HCB := Lib.hid hcb
  unfold maxLen at ha2 hb2
  clear ha hb hca hcb
  by_cases hlen : la.length = lb.length
  · have HPB := Lib.hid hpb
    have HPA := Lib.hid hpa
    rw [← hlen] at HPB hb1 ⊢
    have HL := Lib.hid hlen
    obtain ⟨N, hN⟩ : ∃ N, N = la.length := ⟨_, rfl⟩
    rw [← hN] at HPA HPB ha1 hb1 ⊢
    have HN := Lib.hid hN
    clear hlen hN hpa hpb
    go_enter Tryd.func30, Tryd.ntmps30
    go_wp2
    go_loopw [5] (fun i wr => ∃ k : Nat, k ≤ N ∧ i = .int .i64 k ∧ la.take k = lb.take k ∧ ∃ m, wr = w.drewN m) (fun i _ => N - (intOf i).toNat)
    case atStart => exact ⟨0, Nat.zero_le _, rfl, by simp, 0, rfl⟩
    case round =>
      obtain ⟨k, hk, rfl, ht, m, rfl⟩ := hrel
      have HT := Lib.hid ht
      clear ht
      by_cases hlt : k < N
      · obtain ⟨x, hx⟩ : ∃ x, la[k]? = some x := ⟨_, List.getElem?_eq_getElem (by rw [← HN.out]; exact hlt)⟩
        obtain ⟨y, hy⟩ : ∃ y, lb[k]? = some y := ⟨_, List.getElem?_eq_getElem (by rw [← HL.out, ← HN.out]; exact hlt)⟩
        have cx : w.cell? ⟨ba, oa + k, none⟩ = some (vi x) := HCA.out k x hx
        have cy : w.cell? ⟨bb, ob + k, none⟩ = some (vi y) := HCB.out k y hy
        have h1 := HPA.out (by omega)
        have h2 := HPB.out (by omega)
        subst h1 h2
        have HX := Lib.hid hx
        have HY := Lib.hid hy
        clear hx hy
        by_cases hxy : x = y
        · subst hxy
          go_wp2_with fail
          go_quiet (fail)
          go_wp2
          go_roundw
          case rel => exact ⟨k + 1, by omega, by go_num, by rw [List.take_add_one, List.take_add_one, HT.out, HX.out, HY.out], _, rfl⟩
          case measure => simp [intOf]; omega
        · have hf : Hid ((la == lb) = false) := by
            apply beq_false_of_ne
            intro e
            rw [e, HY.out] at HX
            have := HX.out
            simp at this
            exact hxy this.symm
          have q1 : (x == y) = false := beq_false_of_ne hxy
          have q2 : (x != y) = true := by simp [hxy]
          go_wp2_with fail
          go_quiet (fail)
          go_wp2
          go_ret
          rw [hf.out]
          exact ⟨rfl, _, World.drewN_drewN _ _ _⟩
      · have hk2 : k = N := by omega
        have hf : Hid ((la == lb) = true) := by
          have e := HT.out
          rw [hk2] at e
          rw [List.take_of_length_le (by have := HN.out; omega), List.take_of_length_le (by have := HN.out; have := HL.out; omega)] at e
          show _ = _
          rw [e]; simp
        go_wp2
        go_ret
        rw [hf.out]
        exact ⟨rfl, m, rfl⟩
  · have hd : (la.length == lb.length) = false := beq_false_of_ne hlen
    have hd2 : ((la.length : Int) == (lb.length : Int)) = false := beq_false_of_ne (by omega)
    have hf : Hid ((la == lb) = false) := beq_false_of_ne (fun e => hlen (by rw [e]))
    have hlen2 : ¬ ((la.length : Int) = (lb.length : Int)) := by omega
    go_enter Tryd.func30, Tryd.ntmps30
    go_wp2
    go_ret
    rw [hf.out]
    exact ⟨rfl, 0, rfl⟩
set_option maxRecDepth 100000 in
set_option maxHeartbeats 1000000 in
theorem samestring_any (va vb : Value) (la lb : List (List UInt8)) (w : World) (ha : LV vs w va la) (hb : LV vs w vb lb) :
    Calls Tryd.prog 33 #[va, vb] w fun e w' => e = .returned (.bool (la == lb)) ∧ ∃ n, w' = w.drewN n := by
  obtain ⟨ba, oa, ca, pa, rfl, ha1, ha2, hpa, hca⟩ := ha.parts
  obtain ⟨bb, ob, cb, pb, rfl, hb1, hb2, hpb, hcb⟩ := hb.parts
  have HCA := Lib.hid hca
  have HCB := Lib.hid hcb
  unfold maxLen at ha2 hb2
  clear ha hb hca hcb
  by_cases hlen : la.length = lb.length
  · have HPB := Lib.hid hpb
    have HPA := Lib.hid hpa
    rw [← hlen] at HPB hb1 ⊢
    have HL := Lib.hid hlen
    obtain ⟨N, hN⟩ : ∃ N, N = la.length := ⟨_, rfl⟩
    rw [← hN] at HPA HPB ha1 hb1 ⊢
    have HN := Lib.hid hN
    clear hlen hN hpa hpb
    go_enter Tryd.func33, Tryd.ntmps33
    go_wp2
    go_loopw [5] (fun i wr => ∃ k : Nat, k ≤ N ∧ i = .int .i64 k ∧ la.take k = lb.take k ∧ ∃ m, wr = w.drewN m) (fun i _ => N - (intOf i).toNat)
    case atStart => exact ⟨0, Nat.zero_le _, rfl, by simp, 0, rfl⟩
    case round =>
      obtain ⟨k, hk, rfl, ht, m, rfl⟩ := hrel
      have HT := Lib.hid ht
      clear ht
      by_cases hlt : k < N
      · obtain ⟨x, hx⟩ : ∃ x, la[k]? = some x := ⟨_, List.getElem?_eq_getElem (by rw [← HN.out]; exact hlt)⟩
        obtain ⟨y, hy⟩ : ∃ y, lb[k]? = some y := ⟨_, List.getElem?_eq_getElem (by rw [← HL.out, ← HN.out]; exact hlt)⟩
        have cx : w.cell? ⟨ba, oa + k, none⟩ = some (vs x) := HCA.out k x hx
        have cy : w.cell? ⟨bb, ob + k, none⟩ = some (vs y) := HCB.out k y hy
        have h1 := HPA.out (by omega)
        have h2 := HPB.out (by omega)
        subst h1 h2
        have HX := Lib.hid hx
        have HY := Lib.hid hy
        clear hx hy
        by_cases hxy : x = y
        · subst hxy
          go_wp2_with fail
          go_quiet (fail)
          go_wp2
          go_roundw
          case rel => exact ⟨k + 1, by omega, by go_num, by rw [List.take_add_one, List.take_add_one, HT.out, HX.out, HY.out], _, rfl⟩
          case measure => simp [intOf]; omega
        · have hf : Hid ((la == lb) = false) := by
            apply beq_false_of_ne
            intro e
            rw [e, HY.out] at HX
            have := HX.out
            simp at this
            exact hxy this.symm
          have q1 : (x == y) = false := beq_false_of_ne hxy
          have q2 : (!(x == y)) = true := by rw [q1]; rfl
          go_wp2_with fail
          go_quiet (fail)
          go_wp2
          go_ret
          rw [hf.out]
          exact ⟨rfl, _, World.drewN_drewN _ _ _⟩
      · have hk2 : k = N := by omega
        have hf : Hid ((la == lb) = true) := by
          have e := HT.out
          rw [hk2] at e
          rw [List.take_of_length_le (by have := HN.out; omega), List.take_of_length_le (by have := HN.out; have := HL.out; omega)] at e
          show _ = _
          rw [e]; simp
        go_wp2
        go_ret
        rw [hf.out]
        exact ⟨rfl, m, rfl⟩
  · have hd : (la.length == lb.length) = false := beq_false_of_ne hlen
    have hd2 : ((la.length : Int) == (lb.length : Int)) = false := beq_false_of_ne (by omega)
    have hf : Hid ((la == lb) = false) := beq_false_of_ne (fun e => hlen (by rw [e]))
    have hlen2 : ¬ ((la.length : Int) = (lb.length : Int)) := by omega
    go_enter Tryd.func33, Tryd.ntmps33
    go_wp2
    go_ret
    rw [hf.out]
    exact ⟨rfl, 0, rfl⟩
end Wr
end Go.Proofs.YtfdacinedbdncaaDoor
