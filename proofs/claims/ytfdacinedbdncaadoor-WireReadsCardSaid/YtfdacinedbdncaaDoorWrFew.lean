/- missivelaw02.few. -/
import Derived.Test.YtfdacinedbdncaaDoorWrEqual
namespace Go.Proofs.YtfdacinedbdncaaDoor
open Go.RowKit
namespace Wr
/-- a value at a place of memory -/
structure VAt (w : World) (b o : Nat) (x : Vl) (p1 p2 : Option Addr) (k1 k2 : Nat) : Prop where
  c0 : w.cell? ⟨b, o, none⟩ = some (.int .i64 x.kind)
  c1 : w.cell? ⟨b, o + 1, none⟩ = some (.int .i64 x.n)
  c2 : w.cell? ⟨b, o + 2, none⟩ = some (.string (bs x.s))
  c3 : w.cell? ⟨b, o + 3, none⟩ = some (.slice p1 x.li.length k1)
  c4 : w.cell? ⟨b, o + 4, none⟩ = some (.slice p2 x.lt.length k2)
  li : LV vi w (.slice p1 x.li.length k1) x.li
  lt : LV vs w (.slice p2 x.lt.length k2) x.lt
  ok : x.Ok
/-- a slice of values -/
def LVs (w : World) (v : Value) (l : List Vl) : Prop :=
  ∃ p cap, v = .slice p l.length cap ∧ l.length ≤ cap ∧ cap ≤ maxLen ∧ (l = [] ∨ ∃ b o, p = some ⟨b, o, none⟩ ∧ ∀ i x, l[i]? = some x → ∃ p1 p2 c1 c2, VAt w b (o + i * 5) x p1 p2 c1 c2)
theorem LVs.parts {w : World} {v : Value} {l : List Vl} (h : LVs w v l) : ∃ (b o cap : Nat) (p : Option Addr), v = .slice p l.length cap ∧ l.length ≤ cap ∧ cap ≤ maxLen ∧ (0 < l.length → p = some ⟨b, o, none⟩) ∧ ∀ i x, l[i]? = some x → ∃ p1 p2 c1 c2, VAt w b (o + i * 5) x p1 p2 c1 c2 := by
  obtain ⟨p, cap, h1, h2, h3, h4⟩ := h
  rcases h4 with rfl | ⟨b, o, h5, h6⟩
  · exact ⟨0, 0, cap, p, h1, h2, h3, fun h => by simp at h, fun i x hx => by simp at hx⟩
  · exact ⟨b, o, cap, p, h1, h2, h3, fun _ => h5, h6⟩
def FewOut (l : List Vl) (w : World) (e : Ending) (w' : World) : Prop :=
  ∃ x : Bool, e = .returned (.bool x) ∧ (x = true → l.length ≤ 20 ∧ ∀ y ∈ l, y.Small) ∧ ∃ n, w' = w.drewN n
theorem few_false {l : List Vl} {w : World} (n : Nat) : FewOut l w (.returned (.bool false)) (w.drewN n) := ⟨false, rfl, (fun h => by cases h), n, rfl⟩
theorem mem_take_succ {α : Type} {l : List α} {k : Nat} {x : α} (hx : l[k]? = some x) {P : α → Prop} (h : ∀ y ∈ l.take k, P y) (hp : P x) : ∀ y ∈ l.take (k + 1), P y := by
  intro y hy
  rw [List.take_add_one, hx, List.mem_append] at hy
  rcases hy with hy | hy
  · exact h y hy
  · simp at hy; subst hy; exact hp
set_option maxRecDepth 100000 in
set_option maxHeartbeats 4000000 in
theorem few_any (v : Value) (l : List Vl) (w : World) (hv : LVs w v l) : Calls Tryd.prog 10 #[v] w (FewOut l w) := by
  obtain ⟨b, o, cap, p, rfl, hc1, hc2, hp, hcell⟩ := hv.parts
  unfold maxLen at hc2
  have HCELL := Lib.hid hcell
  have HP := Lib.hid hp
  obtain ⟨N, hN⟩ : ∃ N, N = l.length := ⟨_, rfl⟩
  rw [← hN] at HP hc1 ⊢
  have HN := Lib.hid hN
  clear hv hcell hp hN
  by_cases h20 : 20 < N
  · have hd : decide (20 < N) = true := decide_eq_true h20
    go_enter Tryd.func10, Tryd.ntmps10
    go_wp2
    go_ret
    exact few_false 0
  · have hd : decide (20 < N) = false := decide_eq_false h20
    go_enter Tryd.func10, Tryd.ntmps10
    go_wp2_with fail
    go_loopw [3, 4, 5] (fun n i kk wr => ∃ (m : Int) (j : Nat) (z : Value), n = .int .i64 m ∧ i = .int .i64 j ∧ kk = z ∧ j ≤ N ∧ (∀ y ∈ l.take j, y.Small) ∧ ∃ d, wr = w.drewN d) (fun _ i _ _ => N - (intOf i).toNat)
    case atStart => exact ⟨0, 0, _, rfl, rfl, rfl, Nat.zero_le _, by simp, 0, rfl⟩
    case round =>
      obtain ⟨m, j, z, rfl, rfl, rfl, hj, hsm, d, rfl⟩ := hrel
      have HSM := Lib.hid hsm
      clear hsm
      by_cases hlt : j < N
      · obtain ⟨x, hx⟩ : ∃ x, l[j]? = some x := ⟨_, List.getElem?_eq_getElem (by rw [← HN.out]; exact hlt)⟩
        obtain ⟨p1, p2, e1, e2, hV⟩ := HCELL.out j x hx
        have hpp := HP.out (by omega)
        subst hpp
        have q2 := hV.c2
        have q3 := hV.c3
        have q4 := hV.c4
        obtain ⟨b2, o2, cap2, p2', hpe, g1, g2, g3, g4⟩ := hV.lt.parts
        simp only [Value.slice.injEq, true_and] at hpe
        obtain ⟨rfl, rfl⟩ := hpe
        unfold maxLen at g2
        have HV := Lib.hid hV
        have HX := Lib.hid hx
        have HG3 := Lib.hid g3
        have HG4 := Lib.hid g4
        obtain ⟨S, hS⟩ : ∃ S, S = bs x.s := ⟨_, rfl⟩
        have hSz : S.size = x.s.length := by rw [hS]; exact bs_size _
        have HSZ := Lib.hid hSz
        rw [← hS] at q2
        obtain ⟨LI, hLI⟩ : ∃ n, n = x.li.length := ⟨_, rfl⟩
        obtain ⟨LT, hLT⟩ : ∃ n, n = x.lt.length := ⟨_, rfl⟩
        rw [← hLI] at q3
        rw [← hLT] at q4 HG3 g1
        have HLI := Lib.hid hLI
        have HLT := Lib.hid hLT
        clear hV hx g3 g4 hS hSz hLI hLT
        by_cases a1 : 400 < LI
        · have a1' : decide (400 < LI) = true := decide_eq_true a1
          go_wp2
          go_ret
          exact few_false d
        · have a1' : decide (400 < LI) = false := decide_eq_false a1
          by_cases a2 : 400 < LT
          · have a2' : decide (400 < LT) = true := decide_eq_true a2
            go_wp2
            go_ret
            exact few_false d
          · have a2' : decide (400 < LT) = false := decide_eq_false a2
            by_cases a3 : 400 < S.size
            · have a3' : decide (400 < S.size) = true := decide_eq_true a3
              go_wp2
              go_ret
              exact few_false d
            · have a3' : decide (400 < S.size) = false := decide_eq_false a3
              go_wp2_with fail
              go_quiet (fail)
              go_wp2_with fail
              go_loopw [3, 5] (fun n kk wr => ∃ (m : Int) (k : Nat), n = .int .i64 m ∧ kk = .int .i64 k ∧ k ≤ LT ∧ (∀ t ∈ x.lt.take k, t.length ≤ 400) ∧ ∃ d, wr = w.drewN d) (fun _ i _ => LT - (intOf i).toNat)
              case atStart => exact ⟨_, 0, rfl, rfl, Nat.zero_le _, by simp, _, World.drewN_drewN _ _ _⟩
              case round =>
                obtain ⟨m2, k, rfl, rfl, hk, hst, d2, rfl⟩ := hrel
                have HST := Lib.hid hst
                clear hst
                by_cases hkl : k < LT
                · obtain ⟨t, ht⟩ : ∃ t, x.lt[k]? = some t := ⟨_, List.getElem?_eq_getElem (by rw [← HLT.out]; exact hkl)⟩
                  have ct : w.cell? ⟨b2, o2 + k, none⟩ = some (vs t) := HG4.out k t ht
                  have hpq := HG3.out (by omega)
                  subst hpq
                  have HTT := Lib.hid ht
                  obtain ⟨T, hT⟩ : ∃ T, T = bs t := ⟨_, rfl⟩
                  have hTz : T.size = t.length := by rw [hT]; exact bs_size _
                  have HTZ := Lib.hid hTz
                  have ct2 : w.cell? ⟨b2, o2 + k, none⟩ = some (.string T) := by rw [hT]; exact ct
                  clear ht ct hT hTz
                  by_cases a4 : 400 < T.size
                  · have a4' : decide (400 < T.size) = true := decide_eq_true a4
                    go_wp2
                    go_ret
                    exact few_false d2
                  · have a4' : decide (400 < T.size) = false := decide_eq_false a4
                    go_wp2
                    go_roundw
                    case rel => exact ⟨_, k + 1, rfl, by go_num, by omega, mem_take_succ HTT.out HST.out (by have := HTZ.out; omega), d2, rfl⟩
                    case measure => simp [intOf]; omega
                · go_wp2
                  go_roundw
                  case rel =>
                    refine ⟨_, j + 1, _, rfl, by go_num, rfl, by omega, mem_take_succ HX.out HSM.out ⟨by have := HSZ.out; omega, by have := HLI.out; omega, by have := HLT.out; omega, ?_⟩, d2, rfl⟩
                    have e := HST.out
                    rw [List.take_of_length_le (by have := HLT.out; omega)] at e
                    exact e
                  case measure => simp [intOf]; omega
      · go_wp2
        go_ret
        refine ⟨_, rfl, fun _ => ⟨by have := HN.out; omega, ?_⟩, d, rfl⟩
        have e := HSM.out
        rw [List.take_of_length_le (by have := HN.out; omega)] at e
        exact e
end Wr
end Go.Proofs.YtfdacinedbdncaaDoor
