/- Decide: the walk. -/
import Derived.Test.YtbcldkbacdnpiaaQuRight
import Derived.RegionTactic
import Derived.ChangeAlike
namespace Go.Proofs.Ytbcldkbacdnpiaa
open Go.RowKit Go.Maps Go.WideShapes Qu
/-- the slice v holds the events l -/
structure EvsRow (w : World) (b o : Nat) (l : List Ev) : Prop where
  when : ∀ i (h : i < l.length), w.cell? ⟨b, o + i * 4, none⟩ = some (.int .i64 (l[i]'h).when)
  kind : ∀ i (h : i < l.length), w.cell? ⟨b, o + i * 4 + 1, none⟩ = some (.int .i64 (l[i]'h).kind)
  user : ∀ i (h : i < l.length), w.cell? ⟨b, o + i * 4 + 2, none⟩ = some (.string (l[i]'h).user)
  name : ∀ i (h : i < l.length), w.cell? ⟨b, o + i * 4 + 3, none⟩ = some (.string (l[i]'h).name)
  ok : ∀ e ∈ l, EvOk e
def EvsAt (w : World) (p : Option Addr) (l : List Ev) : Prop := l = [] ∨ ∃ b o, p = some ⟨b, o, none⟩ ∧ EvsRow w b o l
theorem EvsRow.block {w w' : World} {b o : Nat} {l : List Ev} (h : EvsRow w b o l) (hb : w'.heap[b]? = w.heap[b]?) : EvsRow w' b o l := by
  have hc : ∀ o, w'.cell? ⟨b, o, none⟩ = w.cell? ⟨b, o, none⟩ := fun o => World.cell?_of_block (w := w) hb
  exact ⟨fun i hi => (hc _).trans (h.when i hi), fun i hi => (hc _).trans (h.kind i hi), fun i hi => (hc _).trans (h.user i hi), fun i hi => (hc _).trans (h.name i hi), h.ok⟩
theorem cell_lt {w : World} {a : Addr} {x : Value} (h : w.cell? a = some x) : a.block < w.heap.size := by
  rcases Nat.lt_or_ge a.block w.heap.size with h' | h'
  · exact h'
  · have e : w.heap[a.block]? = none := Array.getElem?_eq_none h'
    unfold World.cell? at h
    rw [e] at h
    simp at h
theorem EvsRow.lt {w : World} {b o : Nat} {l : List Ev} (h : EvsRow w b o l) (hl : 0 < l.length) : b < w.heap.size := cell_lt (h.when 0 hl)
theorem EvsRow.below {w w' : World} {B : Nat} {b o : Nat} {l : List Ev} (h : EvsRow w b o l) (hb : Below B w w') (hB : w.heap.size ≤ B) : EvsRow w' b o l := by
  by_cases hl : 0 < l.length
  · exact h.block (hb.block _ (Nat.lt_of_lt_of_le (h.lt hl) hB))
  · have : ∀ i, ¬ i < l.length := fun i hi => by omega
    exact ⟨fun i hi => absurd hi (this i), fun i hi => absurd hi (this i), fun i hi => absurd hi (this i), fun i hi => absurd hi (this i), h.ok⟩
theorem EvsAt.below {w w' : World} {B : Nat} {v : Option Addr} {l : List Ev} (h : EvsAt w v l) (hb : Below B w w') (hB : w.heap.size ≤ B) : EvsAt w' v l := by
  rcases h with h | ⟨b, o, h1, h2⟩
  · exact .inl h
  · exact .inr ⟨b, o, h1, h2.below hb hB⟩
theorem EvsAt.okAll {w : World} {p : Option Addr} {l : List Ev} (h : EvsAt w p l) : ∀ e ∈ l, EvOk e := by
  rcases h with rfl | ⟨b, o, _, h⟩
  · intro e he; cases he
  · exact h.ok
theorem turn_t (u : U) (e : Ev) (h : u.t.size ≤ maxLen) (he : EvOk e) : (turn u e).t.size ≤ maxLen := by
  unfold turn
  repeat' split
  all_goals first | exact h | exact he.name
theorem Qu.Room.Short.apply {r : Room} (h : r.Short) {e : Ev} (he : EvOk e) : (r.apply e).Short := by
  intro k
  unfold Room.apply
  simp only
  split
  · exact turn_t _ _ (h _) he
  · exact h k
theorem short_none : Room.none.Short := fun _ => Nat.zero_le _
theorem keys_apply (r : Room) (e : Ev) : (r.apply e).keys.length ≤ r.keys.length + 1 := by
  unfold Room.apply
  simp only
  split
  · omega
  · simp
theorem drop_cons {l : List Ev} {k : Nat} (h : k < l.length) : l.drop k = l[k] :: l.drop (k + 1) := List.drop_eq_getElem_cons h
theorem wrap_pos (x : Int) (h : -9223372036854775808 ≤ x) (h2 : x ≤ 9223372036854775807) : IntKind.i64.wrap x = x := IntWalk.i64_in x (by omega)
theorem max_if (a b : Int) : max a b = if a < b then b else a := by
  by_cases h : a < b
  · rw [if_pos h]; omega
  · rw [if_neg h]; omega
def DRel (w : World) (q : Q) (held now : Int) (l : List Ev) (B : Nat) (wr : World) (k : Nat) : Prop :=
  ∃ r : Room, RoomAt wr B r k ∧ r.Fine ∧ r.Short ∧ r.keys.length ≤ k ∧ Below (w.heap.size + 1) (w.alloc (.cells #[.int .i64 q.need, .int .i64 q.veto, .int .i64 q.wait, .bool q.free] 23)) wr ∧ run q held now Room.none l = run q held now r (l.drop k)
set_option maxHeartbeats 2000000 in
theorem decide_any (q : Q) (held now : Int) (l : List Ev) (p : Option Addr) (cap : Nat) (w : World) (hl : EvsAt w p l) (hlen : l.length ≤ 1000) :
    Calls Try.prog 12 #[qval q, .int .i64 held, .slice p l.length cap, .int .i64 now] w fun x w' => x = .returned (.tuple #[.int .i64 (decide' q held l now).1, .int .i64 (decide' q held l now).2]) ∧ Below w.heap.size w w' := by
  have hR := right_any q
  have hdec0 : ¬ (q.right = true ∧ ¬ held < 0 ∧ ¬ held > 70368744177664) → decide' q held l now = (0, 0) := fun h => by
    unfold decide'
    rw [if_pos]
    cases h1 : q.right
    · exact .inl rfl
    · by_cases h2 : held < 0
      · exact .inr (.inl h2)
      · by_cases h3 : held > 70368744177664
        · exact .inr (.inr h3)
        · exact absurd ⟨h1, h2, h3⟩ h
  have fin : ∀ o w1, Below (w.alloc o).heap.size (w.alloc o) w1 → Below w.heap.size w w1 := fun o w1 h => ((Below.refl w.heap.size w).alloc (Nat.le_refl _) _).trans (h.mono (by simp))
  cases hr : q.right
  · rw [hdec0 (by simp [hr])]
    rw [hr] at hR
    obtain ⟨qn, qv, qt, qf⟩ := q
    unfold qval at hR ⊢
    simp only at hR ⊢
    clear hl hr hdec0
    go_enter Try.func12, Try.ntmps12
    go_wp2_with fail
    refine (hR _).mono ?_
    rintro e w1 ⟨rfl, hb1⟩
    have HB1 := Lib.hid (fin _ _ hb1)
    clear hb1 hR fin
    go_wp2
    go_ret2
    exact ⟨rfl, HB1.out⟩
  · have hp := right_parts hr
    rw [hr] at hR
    by_cases h0 : held < 0
    · rw [hdec0 (by simp [h0])]
      obtain ⟨qn, qv, qt, qf⟩ := q
      unfold qval at hR ⊢
      simp only at hR ⊢
      clear hl hr hdec0
      go_enter Try.func12, Try.ntmps12
      go_wp2_with fail
      refine (hR _).mono ?_
      rintro e w1 ⟨rfl, hb1⟩
      have HB1 := Lib.hid (fin _ _ hb1)
      clear hb1 hR fin
      go_wp2
      go_ret2
      exact ⟨rfl, HB1.out⟩
    by_cases h1 : held > 70368744177664
    · rw [hdec0 (by simp [h1])]
      obtain ⟨qn, qv, qt, qf⟩ := q
      unfold qval at hR ⊢
      simp only at hR ⊢
      clear hl hr hdec0
      go_enter Try.func12, Try.ntmps12
      go_wp2_with fail
      refine (hR _).mono ?_
      rintro e w1 ⟨rfl, hb1⟩
      have HB1 := Lib.hid (fin _ _ hb1)
      clear hb1 hR fin
      go_wp2
      go_ret2
      exact ⟨rfl, HB1.out⟩
    have hdec : decide' q held l now = run q held now Room.none l := by unfold decide'; rw [if_neg (by simp [hr, h0, h1])]
    rw [hdec]
    have HL := Lib.hid hl
    obtain ⟨qn, qv, qt, qf⟩ := q
    simp only at hp
    unfold qval at hR ⊢
    simp only at hR ⊢
    clear hdec hl hr hdec0 fin
    obtain ⟨d1, d2, hd⟩ : ∃ d1 d2, run ⟨qn, qv, qt, qf⟩ held now Room.none l = (d1, d2) := ⟨_, _, rfl⟩
    rw [hd]
    have HD := Lib.hid hd
    clear hd
    go_enter Try.func12, Try.ntmps12
    go_wp2_with fail
    refine (hR _).mono ?_
    rintro e w1 ⟨rfl, hb1⟩
    have hc0 : w1.cell? ⟨w.heap.size, 0, none⟩ = some (.int .i64 qn) := by rw [hb1.cell (by simp)]; simp
    have hc1 : w1.cell? ⟨w.heap.size, 1, none⟩ = some (.int .i64 qv) := by rw [hb1.cell (by simp)]; simp
    have hc2 : w1.cell? ⟨w.heap.size, 2, none⟩ = some (.int .i64 qt) := by rw [hb1.cell (by simp)]; simp
    have hc3 : w1.cell? ⟨w.heap.size, 3, none⟩ = some (.bool qf) := by rw [hb1.cell (by simp)]; simp
    have HB1 := Lib.hid hb1
    have hz1 : w.heap.size + 1 ≤ w1.heap.size := by have := hb1.size; simpa using this
    have hmm := @run_makeMap Try.prog
    clear hb1 hR
    have hroom := RoomAt.made w1
    go_wp2_with fail
    go_loopw [34] (fun i wr => ∃ k : Nat, k ≤ l.length ∧ i = .int .i64 k ∧ DRel w ⟨qn, qv, qt, qf⟩ held now l w1.heap.size wr k) (fun i _ => l.length - (intOf i).toNat)
    case atStart =>
      exact ⟨0, Nat.zero_le _, rfl, Room.none, hroom, Room.fine_none, short_none, Nat.le_refl _, (HB1.out.mono (by simp)).alloc hz1 _, rfl⟩
    case round =>
      obtain ⟨k, hk, rfl, r, hrm, hf, hs, hkl, hbl, hrun⟩ := hrel
      have HRN := Lib.hid hrun
      have hsz := hrm.lt
      have HBL := Lib.hid hbl
      have hq0 : wr.cell? ⟨w.heap.size, 0, none⟩ = some (.int .i64 qn) := by rw [hbl.cell (by simp)]; simp
      have hq1 : wr.cell? ⟨w.heap.size, 1, none⟩ = some (.int .i64 qv) := by rw [hbl.cell (by simp)]; simp
      have hq2 : wr.cell? ⟨w.heap.size, 2, none⟩ = some (.int .i64 qt) := by rw [hbl.cell (by simp)]; simp
      have hq3 : wr.cell? ⟨w.heap.size, 3, none⟩ = some (.bool qf) := by rw [hbl.cell (by simp)]; simp
      have hrow0 : EvsAt wr p l := (HL.out.below ((Below.refl w.heap.size _).alloc (Nat.le_refl _) _) (Nat.le_refl _)).below hbl (by simp)
      clear hrun hbl hc0 hc1 hc2 hc3 hroom
      by_cases hlt : k < l.length
      · obtain ⟨ab, ao, rfl, hrow⟩ : ∃ b o, p = some ⟨b, o, none⟩ ∧ EvsRow wr b o l := hrow0.resolve_left (fun e => by simp [e] at hlt)
        clear hrow0
        have c0 := hrow.when k hlt
        have c1 := hrow.kind k hlt
        have c2 := hrow.user k hlt
        have c3 := hrow.name k hlt
        have hok := hrow.ok _ (List.getElem_mem hlt)
        have hrun2 := HRN.out
        rw [drop_cons hlt, run_cons] at hrun2
        obtain ⟨e, he⟩ : ∃ e, l[k] = e := ⟨_, rfl⟩
        rw [he] at c0 c1 c2 c3 hok hrun2
        simp only at hrun2
        have HE := Lib.hid he
        have HROW := Lib.hid hrow
        clear he hrow
        have hadd : (⟨ab, ao, none⟩ : Addr).add (k * 4) = ⟨ab, ao + k * 4, none⟩ := add_plain _ _ _
        by_cases k1 : e.when > now
        · rw [if_pos (.inl k1)] at hrun2
          have HRUN2 := Lib.hid hrun2
          clear hrun2
          go_wp2
          go_roundw
          case rel => exact ⟨k + 1, by omega, by go_num, r, (hrm.alloc _).mono (by omega), hf, hs, by omega, HBL.out.alloc (by omega) _, HRUN2.out⟩
          case measure => simp [intOf]; omega
        · by_cases k2 : e.when ≥ held + qt
          · rw [if_pos (.inr k2)] at hrun2
            have HRUN2 := Lib.hid hrun2
            clear hrun2
            go_wp2
            go_roundw
            case rel => exact ⟨k + 1, by omega, by go_num, r, (hrm.alloc _).mono (by omega), hf, hs, by omega, HBL.out.alloc (by omega) _, HRUN2.out⟩
            case measure => simp [intOf]; omega
          · rw [if_neg (by omega)] at hrun2
            have k1' : e.when ≤ now := by omega
            have k2' : e.when < held + qt := by omega
            have HRUN2 := Lib.hid hrun2
            clear hrun2 k1 k2
            have ha := apply_any w1.heap.size k r e _ (hrm.alloc (.cells #[.int .i64 e.when, .int .i64 e.kind, .string e.user, .string e.name] 31)) (by unfold maxLen; omega) hok
            go_wp2_with fail
            refine ha.mono ?_
            rintro x w3 ⟨rfl, hr3, hg3⟩
            have hz3 : w.heap.size < w3.heap.size := by have := hg3.size; simp at this; omega
            have hzr : wr.heap.size < w3.heap.size := by have := hg3.size; simp at this; omega
            have hblk : w3.heap[w.heap.size]? = wr.heap[w.heap.size]? := (hg3.block _ (by simp; omega) (by simp; omega)).trans (Below.heap_alloc _ _ _ (by omega))
            have hq0' : w3.cell? ⟨w.heap.size, 0, none⟩ = some (.int .i64 qn) := (World.cell?_of_block (w := wr) (a := ⟨w.heap.size, 0, none⟩) hblk).trans hq0
            have hq1' : w3.cell? ⟨w.heap.size, 1, none⟩ = some (.int .i64 qv) := (World.cell?_of_block (w := wr) (a := ⟨w.heap.size, 1, none⟩) hblk).trans hq1
            clear hblk
            have hv0 : w3.cell? ⟨wr.heap.size, 0, none⟩ = some (.int .i64 e.when) := by
              have := hg3.block wr.heap.size (by simp) (by simp; omega)
              rw [heap_alloc_new] at this
              simp [World.cell?, this]
            have hb3 : Below (w.heap.size + 1) (w.alloc (.cells #[.int .i64 qn, .int .i64 qv, .int .i64 qt, .bool qf] 23)) w3 :=
              (HBL.out.alloc (by omega) _).trans (below_of_grown hg3 (by omega) (by simp; omega))
            have HB3 := Lib.hid hb3
            clear hb3
            have hcn := count_any w1.heap.size (k + 1) (r.apply e) w3 hr3 (hf.apply e) (by have := keys_apply r e; unfold maxLen; omega) (hs.apply hok)
            have HR3 := Lib.hid hr3
            have HG3 := Lib.hid hg3
            clear ha hr3 hg3
            go_wp2_with fail
            refine hcn.mono ?_
            rintro x w4 ⟨rfl, hb4⟩
            have hq0'' : w4.cell? ⟨w.heap.size, 0, none⟩ = some (.int .i64 qn) := by rw [hb4.cell hz3]; exact hq0'
            have hq1'' : w4.cell? ⟨w.heap.size, 1, none⟩ = some (.int .i64 qv) := by rw [hb4.cell hz3]; exact hq1'
            have hv0' : w4.cell? ⟨wr.heap.size, 0, none⟩ = some (.int .i64 e.when) := by rw [hb4.cell hzr]; exact hv0
            have hv4 : Below (w.heap.size + 1) (w.alloc (.cells #[.int .i64 qn, .int .i64 qv, .int .i64 qt, .bool qf] 23)) w4 := HB3.out.trans (hb4.mono (by omega))
            have hfin : Below w.heap.size w w4 := ((Below.refl w.heap.size w).alloc (Nat.le_refl _) _).trans (hv4.mono (by omega))
            have HFIN := Lib.hid hfin
            have HV4 := Lib.hid hv4
            have hr4 : RoomAt w4 w1.heap.size (r.apply e) (k + 1) := HR3.out.block (hb4.block _ HR3.out.lt)
            have HR4 := Lib.hid hr4
            have hn1 : ((r.apply e).votes 1) ≤ 1000 := Nat.le_trans (List.length_filter_le _ _) (by have := keys_apply r e; omega)
            have hn2 : ((r.apply e).votes (-1)) ≤ 1000 := Nat.le_trans (List.length_filter_le _ _) (by have := keys_apply r e; omega)
            obtain ⟨vy, hvy⟩ : ∃ vy, (r.apply e).votes 1 = vy := ⟨_, rfl⟩
            obtain ⟨vn, hvn⟩ : ∃ vn, (r.apply e).votes (-1) = vn := ⟨_, rfl⟩
            have hrun3 := HRUN2.out
            rw [hvy, hvn] at hrun3 ⊢
            rw [hvy] at hn1
            rw [hvn] at hn2
            clear hb4 hcn hfin hv4 hr4 hq0 hq1 hq2 hq3 hv0 hq0' hq1' hvy hvn
            by_cases k3 : (vn : Int) ≥ qv
            · rw [if_pos k3] at hrun3
              have HRUN3 := Lib.hid hrun3
              clear hrun3
              have e2 := HD.out.symm.trans HRUN3.out
              rw [max_if] at e2
              simp only [Prod.mk.injEq] at e2
              obtain ⟨rfl, rfl⟩ := e2
              go_wp2
              go_region
              all_goals
                go_wp2
                all_goals
                  go_ret2
                  exact ⟨rfl, HFIN.out.drew⟩
            · rw [if_neg k3] at hrun3
              by_cases k4 : (vy : Int) ≥ qn
              · rw [if_pos k4] at hrun3
                have HRUN3 := Lib.hid hrun3
                clear hrun3
                have e2 := HD.out.symm.trans HRUN3.out
                rw [max_if] at e2
                simp only [Prod.mk.injEq] at e2
                obtain ⟨rfl, rfl⟩ := e2
                go_wp2
                go_region
                all_goals
                  go_wp2
                  all_goals
                    go_ret2
                    exact ⟨rfl, HFIN.out.drew⟩
              · rw [if_neg k4] at hrun3
                have HRUN3 := Lib.hid hrun3
                clear hrun3
                go_wp2
                go_roundw
                case rel => exact ⟨k + 1, by omega, by go_num, r.apply e, HR4.out, hf.apply e, hs.apply hok, by have := keys_apply r e; omega, HV4.out, HRUN3.out⟩
                case measure => simp [intOf]; omega
      · obtain rfl : k = l.length := by omega
        have hrun2 := HRN.out
        rw [List.drop_length, run_nil] at hrun2
        simp only at hrun2
        have hfin : Below w.heap.size w wr := ((Below.refl w.heap.size w).alloc (Nat.le_refl _) _).trans (HBL.out.mono (by omega))
        have HFIN := Lib.hid hfin
        clear hfin hrow0
        by_cases k1 : held + qt > now
        · rw [if_pos k1] at hrun2
          have e2 := HD.out.symm.trans hrun2
          simp only [Prod.mk.injEq] at e2
          obtain ⟨rfl, rfl⟩ := e2
          clear hrun2
          go_wp2
          go_ret2
          exact ⟨rfl, HFIN.out⟩
        · rw [if_neg k1] at hrun2
          cases qf
          · simp only [Bool.false_eq_true, if_false] at hrun2
            have e2 := HD.out.symm.trans hrun2
            simp only [Prod.mk.injEq] at e2
            obtain ⟨rfl, rfl⟩ := e2
            clear hrun2
            go_wp2
            go_ret2
            exact ⟨rfl, HFIN.out⟩
          · simp only [if_true] at hrun2
            have e2 := HD.out.symm.trans hrun2
            simp only [Prod.mk.injEq] at e2
            obtain ⟨rfl, rfl⟩ := e2
            clear hrun2
            go_wp2
            go_ret2
            exact ⟨rfl, HFIN.out⟩
end Go.Proofs.Ytbcldkbacdnpiaa
