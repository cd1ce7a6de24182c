/- missivelaw02.few, exactly. -/
import Derived.Test.YtfdacinedbdncaaDoorWrFew
import Derived.IntWalk
namespace Go.Proofs.YtfdacinedbdncaaDoor
open Go.RowKit
namespace Wr
def Vl.tot (x : Vl) : Nat := x.s.length + x.li.length + x.lt.length + (x.lt.map List.length).sum
def Vl.okB (x : Vl) : Bool := decide (x.li.length ≤ 400) && decide (x.lt.length ≤ 400) && decide (x.s.length ≤ 400) && x.lt.all (fun t => decide (t.length ≤ 400))
def fewB (l : List Vl) : Bool := decide (l.length ≤ 20) && l.all Vl.okB && decide ((l.map Vl.tot).sum ≤ 400)
theorem okB_small {x : Vl} (h : x.okB = true) : x.Small := by
  unfold Vl.okB at h
  simp only [Bool.and_eq_true, decide_eq_true_eq, List.all_eq_true] at h
  exact ⟨h.1.2, h.1.1.1, h.1.1.2, h.2⟩
theorem small_okB {x : Vl} (h : x.Small) : x.okB = true := by
  unfold Vl.okB
  simp only [Bool.and_eq_true, decide_eq_true_eq, List.all_eq_true]
  exact ⟨⟨⟨h.li, h.lt⟩, h.s⟩, h.el⟩
theorem fewB_small {l : List Vl} (h : fewB l = true) : l.length ≤ 20 ∧ ∀ y ∈ l, y.Small := by
  unfold fewB at h
  simp only [Bool.and_eq_true, decide_eq_true_eq, List.all_eq_true] at h
  exact ⟨h.1.1, fun y hy => okB_small (h.1.2 y hy)⟩
theorem fewB_not {l : List Vl} {x : Vl} (hx : x ∈ l) (h : ¬ x.Small) : fewB l = false := by
  cases hf : fewB l with
  | false => rfl
  | true => exact absurd ((fewB_small hf).2 x hx) h
theorem sum_le (f : List UInt8 → Nat) (B : Nat) : ∀ l : List (List UInt8), (∀ t ∈ l, f t ≤ B) → (l.map f).sum ≤ l.length * B
  | [], _ => by simp
  | x :: t, h => by
    have h1 := h x (by simp)
    have h2 := sum_le f B t (fun y hy => h y (by simp [hy]))
    simp only [List.map_cons, List.sum_cons, List.length_cons, Nat.add_mul, Nat.one_mul]; omega
theorem tot_le {x : Vl} (h : x.Small) : x.tot ≤ 161200 := by
  have h1 := sum_le List.length 400 x.lt h.el
  have := h.s; have := h.li; have := h.lt
  unfold Vl.tot; omega
theorem tots_le : ∀ l : List Vl, (∀ y ∈ l, y.Small) → (l.map Vl.tot).sum ≤ l.length * 161200
  | [], _ => by simp
  | x :: t, h => by
    have h1 := tot_le (h x (by simp))
    have h2 := tots_le t (fun y hy => h y (by simp [hy]))
    simp only [List.map_cons, List.sum_cons, List.length_cons, Nat.add_mul, Nat.one_mul]; omega
theorem i64w (n : Nat) (h : n ≤ 1000000000) : IntKind.i64.wrap (n : Int) = (n : Int) := IntWalk.i64_in _ (by omega)
def FewX (l : List Vl) (w : World) (e : Ending) (w' : World) : Prop := e = .returned (.bool (fewB l)) ∧ ∃ n, w' = w.drewN n
theorem fewx_false {l : List Vl} {w : World} (n : Nat) (h : fewB l = false) : FewX l w (.returned (.bool false)) (w.drewN n) := ⟨by rw [h], n, rfl⟩
set_option maxRecDepth 100000 in
set_option maxHeartbeats 4000000 in
theorem few_exact (v : Value) (l : List Vl) (w : World) (hv : LVs w v l) : Calls Tryd.prog 10 #[v] w (FewX l w) := by
  obtain ⟨b, o, cap, p, rfl, hc1, hc2, hp, hcell⟩ := hv.parts
  unfold maxLen at hc2
  have HCELL := Lib.hid hcell
  have HP := Lib.hid hp
  obtain ⟨N, hN⟩ : ∃ N, N = l.length := ⟨_, rfl⟩
  rw [← hN] at HP hc1 ⊢
  have HN := Lib.hid hN
  clear hv hcell hp hN
  by_cases h20 : 20 < N
  · have hd : decide (20 < N) = true := decide_eq_true h20
    have HBIG : Hid (fewB l = false) := by
      show _ = _
      cases hf : fewB l with
      | false => rfl
      | true => have := (fewB_small hf).1; have := HN.out; omega
    go_enter Tryd.func10, Tryd.ntmps10
    go_wp2
    go_ret
    exact fewx_false 0 HBIG.out
  · have hd : decide (20 < N) = false := decide_eq_false h20
    go_enter Tryd.func10, Tryd.ntmps10
    go_wp2_with fail
    go_loopw [3, 4, 5] (fun n i kk wr => ∃ (m : Nat) (j : Nat) (z : Value), n = .int .i64 m ∧ m = ((l.take j).map Vl.tot).sum ∧ i = .int .i64 j ∧ kk = z ∧ j ≤ N ∧ (∀ y ∈ l.take j, y.Small) ∧ ∃ d, wr = w.drewN d) (fun _ i _ _ => N - (intOf i).toNat)
    case atStart => exact ⟨0, 0, _, rfl, by simp, rfl, rfl, Nat.zero_le _, by simp, 0, rfl⟩
    case round =>
      obtain ⟨m, j, z, rfl, hm, rfl, rfl, hj, hsm, d, rfl⟩ := hrel
      have HSM := Lib.hid hsm
      have HMM := Lib.hid hm
      have hm20 : m ≤ 3300000 := by
        have h1 := tots_le (l.take j) hsm
        have h2 : (l.take j).length ≤ 20 := by rw [List.length_take]; omega
        omega
      clear hsm hm
      by_cases hlt : j < N
      · obtain ⟨x, hx⟩ : ∃ x, l[j]? = some x := ⟨_, List.getElem?_eq_getElem (by rw [← HN.out]; exact hlt)⟩
        obtain ⟨p1, p2, e1, e2, hV⟩ := HCELL.out j x hx
        have hpp := HP.out (by omega)
        subst hpp
        have q2 := hV.c2
        have q3 := hV.c3
        have q4 := hV.c4
        obtain ⟨b2, o2, cap2, p2', hpe, g1, g2, g3, g4⟩ := hV.lt.parts
        simp only [Value.slice.injEq, true_and] at hpe
        obtain ⟨rfl, rfl⟩ := hpe
        unfold maxLen at g2
        have HV := Lib.hid hV
        have HX := Lib.hid hx
        have HG3 := Lib.hid g3
        have HG4 := Lib.hid g4
        obtain ⟨S, hS⟩ : ∃ S, S = bs x.s := ⟨_, rfl⟩
        have hSz : S.size = x.s.length := by rw [hS]; exact bs_size _
        have HSZ := Lib.hid hSz
        rw [← hS] at q2
        obtain ⟨LI, hLI⟩ : ∃ n, n = x.li.length := ⟨_, rfl⟩
        obtain ⟨LT, hLT⟩ : ∃ n, n = x.lt.length := ⟨_, rfl⟩
        rw [← hLI] at q3
        rw [← hLT] at q4 HG3 g1
        have HLI := Lib.hid hLI
        have HLT := Lib.hid hLT
        have HMEM : Hid (x ∈ l) := List.mem_of_getElem? hx
        clear hV hx g3 g4 hS hSz hLI hLT
        by_cases a1 : 400 < LI
        · have HF : Hid (fewB l = false) := fewB_not HMEM.out (fun h => by have := h.li; have := HLI.out; omega)
          have a1' : decide (400 < LI) = true := decide_eq_true a1
          go_wp2
          go_ret
          exact fewx_false d HF.out
        · have a1' : decide (400 < LI) = false := decide_eq_false a1
          by_cases a2 : 400 < LT
          · have HF : Hid (fewB l = false) := fewB_not HMEM.out (fun h => by have := h.lt; have := HLT.out; omega)
            have a2' : decide (400 < LT) = true := decide_eq_true a2
            go_wp2
            go_ret
            exact fewx_false d HF.out
          · have a2' : decide (400 < LT) = false := decide_eq_false a2
            by_cases a3 : 400 < S.size
            · have HF : Hid (fewB l = false) := fewB_not HMEM.out (fun h => by have := h.s; have := HSZ.out; omega)
              have a3' : decide (400 < S.size) = true := decide_eq_true a3
              go_wp2
              go_ret
              exact fewx_false d HF.out
            · have a3' : decide (400 < S.size) = false := decide_eq_false a3
              obtain ⟨A1, hA1⟩ : ∃ A1, A1 = m + S.size := ⟨_, rfl⟩
              obtain ⟨A2, hA2⟩ : ∃ A2, A2 = A1 + LI := ⟨_, rfl⟩
              obtain ⟨A3, hA3⟩ : ∃ A3, A3 = A2 + LT := ⟨_, rfl⟩
              have r1 : IntKind.i64.wrap ((m : Int) + (S.size : Int)) = (A1 : Int) := by rw [← i64w A1 (by omega)]; congr 1; omega
              have r2 : IntKind.i64.wrap ((A1 : Int) + (LI : Int)) = (A2 : Int) := by rw [← i64w A2 (by omega)]; congr 1; omega
              have r3 : IntKind.i64.wrap ((A2 : Int) + (LT : Int)) = (A3 : Int) := by rw [← i64w A3 (by omega)]; congr 1; omega
              have hA3b : A3 ≤ 3302000 := by omega
              have HA3 : Hid (A3 = m + S.size + LI + LT) := by show _ = _; omega
              clear hA1 hA2 hA3
              go_wp2_with fail
              go_quiet (fail)
              clear r1 r2 r3
              go_wp2_with fail
              go_loopw [3, 5] (fun n kk wr => ∃ (m2 : Nat) (k : Nat), n = .int .i64 m2 ∧ m2 = A3 + ((x.lt.take k).map List.length).sum ∧ kk = .int .i64 k ∧ k ≤ LT ∧ (∀ t ∈ x.lt.take k, t.length ≤ 400) ∧ ∃ d, wr = w.drewN d) (fun _ i _ => LT - (intOf i).toNat)
              case atStart => exact ⟨A3, 0, rfl, by simp, rfl, Nat.zero_le _, by simp, _, World.drewN_drewN _ _ _⟩
              case round =>
                obtain ⟨m2, k, rfl, hm2, rfl, hk, hst, d2, rfl⟩ := hrel
                have HST := Lib.hid hst
                have HM2 := Lib.hid hm2
                have hm2b : m2 ≤ 4000000 := by
                  have h1 := sum_le List.length 400 (x.lt.take k) hst
                  have h2 : (x.lt.take k).length ≤ 400 := by rw [List.length_take]; have := HLT.out; omega
                  omega
                clear hst hm2
                by_cases hkl : k < LT
                · obtain ⟨t, ht⟩ : ∃ t, x.lt[k]? = some t := ⟨_, List.getElem?_eq_getElem (by rw [← HLT.out]; exact hkl)⟩
                  have ct : w.cell? ⟨b2, o2 + k, none⟩ = some (vs t) := HG4.out k t ht
                  have hpq := HG3.out (by omega)
                  subst hpq
                  have HTT := Lib.hid ht
                  obtain ⟨T, hT⟩ : ∃ T, T = bs t := ⟨_, rfl⟩
                  have hTz : T.size = t.length := by rw [hT]; exact bs_size _
                  have HTZ := Lib.hid hTz
                  have ct2 : w.cell? ⟨b2, o2 + k, none⟩ = some (.string T) := by rw [hT]; exact ct
                  clear ht ct hT hTz
                  by_cases a4 : 400 < T.size
                  · have HF : Hid (fewB l = false) := fewB_not HMEM.out (fun h => by have := h.el t (List.mem_of_getElem? HTT.out); have := HTZ.out; omega)
                    have a4' : decide (400 < T.size) = true := decide_eq_true a4
                    go_wp2
                    go_ret
                    exact fewx_false d2 HF.out
                  · have a4' : decide (400 < T.size) = false := decide_eq_false a4
                    go_wp2
                    go_roundw
                    case rel => exact ⟨m2 + T.size, k + 1, by go_num, by rw [List.take_add_one, HTT.out, HM2.out, HTZ.out]; simp [Nat.add_assoc], by go_num, by omega, mem_take_succ HTT.out HST.out (by have := HTZ.out; omega), d2, rfl⟩
                    case measure => simp [intOf]; omega
                · go_wp2
                  go_roundw
                  case rel =>
                    refine ⟨m2, j + 1, _, rfl, ?_, by go_num, rfl, by omega, mem_take_succ HX.out HSM.out ⟨by have := HSZ.out; omega, by have := HLI.out; omega, by have := HLT.out; omega, ?_⟩, d2, rfl⟩
                    · have e := HM2.out
                      rw [List.take_of_length_le (by have := HLT.out; omega)] at e
                      rw [List.take_add_one, HX.out, e, HA3.out, HMM.out, HSZ.out, HLI.out, HLT.out]
                      simp [Vl.tot]; omega
                    have e := HST.out
                    rw [List.take_of_length_le (by have := HLT.out; omega)] at e
                    exact e
                  case measure => simp [intOf]; omega
      · go_wp2
        go_ret
        have hall : ∀ y ∈ l, y.Small := by
          have e := HSM.out
          rw [List.take_of_length_le (by have := HN.out; omega)] at e
          exact e
        have hmm : m = (l.map Vl.tot).sum := by
          have e := HMM.out
          rw [List.take_of_length_le (by have := HN.out; omega)] at e
          exact e
        have hfb : fewB l = decide (m ≤ 400) := by
          unfold fewB
          rw [hmm]
          have h1 : decide (l.length ≤ 20) = true := decide_eq_true (by have := HN.out; omega)
          have h2 : l.all Vl.okB = true := List.all_eq_true.2 fun y hy => small_okB (hall y hy)
          rw [h1, h2]; rfl
        refine ⟨?_, d, rfl⟩
        rw [hfb]
        exact congrArg (fun b => Ending.returned (Value.bool b)) (by first | rfl | (rw [decide_eq_decide]; omega))
end Wr
end Go.Proofs.YtfdacinedbdncaaDoor
