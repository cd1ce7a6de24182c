/- The reference's Decide: the walk. -/
import Derived.Test.YtbcldkbacdnpiaaQuRefM
namespace Go.Proofs.Ytbcldkbacdnpiaa
open Go.RowKit Go.Maps Go.WideShapes Qu
theorem after_app (l : List Ev) (e : Ev) : Qu.after (l ++ [e]) = (Qu.after l).apply e := by
  unfold Qu.after
  rw [List.foldl_append]
  rfl
structure RDec (w1 wr : World) (q : Q) (held now : Int) (l : List Ev) (D : Int × Int) (k : Nat) (sub : List Ev) (v : Value) : Prop where
  b : Below w1.heap.size w1 wr
  own : Own wr w1.heap.size 31 4 v sub.length (evcs sub)
  len : sub.length ≤ k
  ok : ∀ e ∈ sub, EvOk e
  run : run q held now (Qu.after sub) (l.drop k) = D
theorem own_evs_at {w : World} {base : Nat} {v : Value} {l : List Ev} (ho : Own w base 31 4 v l.length (evcs l)) (hok : ∀ e ∈ l, EvOk e) : ∃ p cap, v = .slice p l.length cap ∧ l.length ≤ cap ∧ EvsAt w p l := by
  obtain ⟨p, cap, rfl, hc, hm⟩ := ho.shape'
  exact ⟨p, cap, rfl, hc, own_evs ho hok⟩
set_option maxHeartbeats 2000000 in
theorem ref_decide_any (q : Q) (held now : Int) (l : List Ev) (p : Option Addr) (cap : Nat) (w : World) (hl : EvsAt w p l) (hlen : l.length ≤ 900) :
    Calls Try.prog 18 #[qval q, .int .i64 held, .slice p l.length cap, .int .i64 now] w fun x w' => x = .returned (.tuple #[.int .i64 (decide' q held l now).1, .int .i64 (decide' q held l now).2]) ∧ Below w.heap.size w w' := by
  have hR := ref_right_any q
  have fin : ∀ (o : Obj) (w' : World), Below (w.alloc o).heap.size (w.alloc o) w' → Below w.heap.size w w' := fun o w' hb => ((Below.refl w.heap.size w).alloc (Nat.le_refl _) o).trans (hb.mono (by simp))
  have hdec0 : (q.right = false ∨ held < 0 ∨ held > 70368744177664) → decide' q held l now = (0, 0) := fun h => by unfold decide'; rw [if_pos h]
  cases hr : q.right
  · rw [hdec0 (.inl hr)]
    rw [hr] at hR
    obtain ⟨qn, qv, qt, qf⟩ := q
    unfold qval at hR ⊢
    simp only at hR ⊢
    clear hl hr hdec0
    go_enter Try.func18, Try.ntmps18
    go_wp2_with fail
    refine (hR _).mono ?_
    rintro e w1 ⟨rfl, hb1⟩
    have HB1 := Lib.hid (fin _ _ hb1)
    clear hb1 hR fin
    go_wp2
    go_ret2
    exact ⟨rfl, HB1.out⟩
  · have hp := right_parts hr
    rw [hr] at hR
    by_cases h0 : held < 0
    · rw [hdec0 (by simp [h0])]
      obtain ⟨qn, qv, qt, qf⟩ := q
      unfold qval at hR ⊢
      simp only at hR ⊢
      clear hl hr hdec0
      go_enter Try.func18, Try.ntmps18
      go_wp2_with fail
      refine (hR _).mono ?_
      rintro e w1 ⟨rfl, hb1⟩
      have HB1 := Lib.hid (fin _ _ hb1)
      clear hb1 hR fin
      go_wp2
      go_ret2
      exact ⟨rfl, HB1.out⟩
    by_cases h1 : held > 70368744177664
    · rw [hdec0 (by simp [h1])]
      obtain ⟨qn, qv, qt, qf⟩ := q
      unfold qval at hR ⊢
      simp only at hR ⊢
      clear hl hr hdec0
      go_enter Try.func18, Try.ntmps18
      go_wp2_with fail
      refine (hR _).mono ?_
      rintro e w1 ⟨rfl, hb1⟩
      have HB1 := Lib.hid (fin _ _ hb1)
      clear hb1 hR fin
      go_wp2
      go_ret2
      exact ⟨rfl, HB1.out⟩
    have hdec : decide' q held l now = run q held now Room.none l := by unfold decide'; rw [if_neg (by simp [hr, h0, h1])]
    rw [hdec]
    obtain ⟨qn, qv, qt, qf⟩ := q
    simp only at hp
    unfold qval at hR ⊢
    simp only at hR ⊢
    clear hdec hr hdec0 fin
    obtain ⟨d1, d2, hd⟩ : ∃ d1 d2, run ⟨qn, qv, qt, qf⟩ held now Room.none l = (d1, d2) := ⟨_, _, rfl⟩
    rw [hd]
    have HD := Lib.hid hd
    have HL := Lib.hid hl
    clear hd hl
    go_enter Try.func18, Try.ntmps18
    go_wp2_with fail
    refine (hR _).mono ?_
    rintro e w1 ⟨rfl, hb1⟩
    have HQ : Hid (w1.heap[w.heap.size]? = some (.cells #[.int .i64 qn, .int .i64 qv, .int .i64 qt, .bool qf] 23 (0, 0))) := Lib.hid ((hb1.block w.heap.size (by simp)).trans (heap_alloc_new w _))
    have HB : Hid (Below w.heap.size w w1) := Lib.hid (((Below.refl w.heap.size w).alloc (Nat.le_refl _) _).trans (hb1.mono (by simp)))
    have HL1 : Hid (EvsAt w1 p l) := Lib.hid (HL.out.below HB.out (Nat.le_refl _))
    obtain ⟨hc0, hc1, hc2, hc3⟩ := q_cells HQ.out
    clear hb1 hR
    go_wp2_with fail
    go_loopw [11, 12, 13, 14] (fun v i _ _ wr => ∃ (k : Nat) (sub : List Ev), k ≤ l.length ∧ i = .int .i64 k ∧ RDec w1 wr ⟨qn, qv, qt, qf⟩ held now l (d1, d2) k sub v) (fun _ i _ _ _ => l.length - (intOf i).toNat)
    case atStart => exact ⟨0, [], Nat.zero_le _, rfl, ⟨Below.refl _ _, Own.nil _ _ _ _, Nat.le_refl _, fun e he => (by cases he), HD.out⟩⟩
    case round =>
      obtain ⟨k, sub, hk, rfl, hrd⟩ := hrel
      have HRD := Lib.hid hrd
      have hsl := hrd.len
      obtain ⟨ps, cs, hv, hcs, _⟩ := own_evs_at hrd.own hrd.ok
      subst hv
      have hrow0 : EvsAt wr p l := HL1.out.below hrd.b (Nat.le_refl _)
      have HQW : Hid (wr.heap[w.heap.size]? = some (.cells #[.int .i64 qn, .int .i64 qv, .int .i64 qt, .bool qf] 23 (0, 0))) := Lib.hid ((hrd.b.block w.heap.size (lt_block HQ.out)).trans HQ.out)
      clear hrd hc0 hc1 hc2 hc3
      obtain ⟨hq0, hq1, hq2, hq3⟩ := q_cells HQW.out
      by_cases hlt : k < l.length
      · obtain ⟨ab, ao, rfl, hrow⟩ : ∃ b o, p = some ⟨b, o, none⟩ ∧ EvsRow wr b o l := hrow0.resolve_left (fun e => by simp [e] at hlt)
        clear hrow0
        have c0 := hrow.when k hlt
        have c1 := hrow.kind k hlt
        have c2 := hrow.user k hlt
        have c3 := hrow.name k hlt
        have hok := hrow.ok _ (List.getElem_mem hlt)
        have hrun2 := HRD.out.run
        rw [drop_cons hlt, run_cons] at hrun2
        obtain ⟨e, he⟩ : ∃ e, l[k] = e := ⟨_, rfl⟩
        rw [he] at c0 c1 c2 c3 hok hrun2
        simp only at hrun2
        have HE := Lib.hid he
        have HROW := Lib.hid hrow
        have HOK := Lib.hid hok
        clear he hrow hok
        have hadd : (⟨ab, ao, none⟩ : Addr).add (k * 4) = ⟨ab, ao + k * 4, none⟩ := add_plain _ _ _
        by_cases k1 : e.when > now
        · rw [if_pos (.inl k1)] at hrun2
          have HRUN2 := Lib.hid hrun2
          clear hrun2
          go_wp2
          go_roundw
          case rel => exact ⟨k + 1, sub, by omega, by go_num, HRD.out.b, HRD.out.own, by omega, HRD.out.ok, HRUN2.out⟩
          case measure => simp [intOf]; omega
        · by_cases k2 : e.when ≥ held + qt
          · rw [if_pos (.inr k2)] at hrun2
            have HRUN2 := Lib.hid hrun2
            clear hrun2
            go_wp2
            go_roundw
            case rel => exact ⟨k + 1, sub, by omega, by go_num, HRD.out.b, HRD.out.own, by omega, HRD.out.ok, HRUN2.out⟩
            case measure => simp [intOf]; omega
          · rw [if_neg (by omega), ← after_app] at hrun2
            have k1' : e.when ≤ now := by omega
            have k2' : e.when < held + qt := by omega
            obtain ⟨SN, hSN⟩ : ∃ SN, SN = sub ++ [e] := ⟨_, rfl⟩
            have HSN := Lib.hid hSN
            rw [← hSN] at hrun2
            have HRUN2 := Lib.hid hrun2
            have HSO : Hid (∀ x ∈ SN, EvOk x) := Lib.hid (by rw [hSN]; exact ok_app HRD.out.ok (fun x hx => by simp at hx; rw [hx]; exact HOK.out))
            clear hrun2 k1 k2 hSN
            have hrl := row_lit (w := wr.alloc (.cells #[.int .i64 e.when, .int .i64 e.kind, .string e.user, .string e.name] 31)) (g := wr.heap.size) (l := [e]) (heap_alloc_new _ _) (fun x hx => by simp at hx; rw [hx]; exact HOK.out)
            go_wp2_with (at_builtin; refine wpList_append_any rfl _ _ rfl w1.heap.size _ sub [e] rfl (HRD.out.own.alloc _) (some ⟨wr.heap.size, 0, none⟩) 1 rfl (.inr ⟨_, _, rfl, hrl⟩) (by simp; omega) (by have := HRD.out.b.size; simp; omega) SN HSN ?_; intro p7 k7 wn hoN hgN hbN; have bN := (HRD.out.b.alloc HRD.out.b.size (.cells #[.int .i64 e.when, .int .i64 e.kind, .string e.user, .string e.name] 31)).trans (below_row hgN (fun g hg => (HRD.out.own.block_ge g hg).1) (by have := HRD.out.b.size; simp; omega)); have HON := Lib.hid hoN; have HBN := Lib.hid bN; clear hoN hgN bN hbN hrl)
            have hlSN : SN.length ≤ k + 1 := by rw [HSN.out, List.length_append]; simp; omega
            have hcap7 : SN.length ≤ k7 := by
              obtain ⟨_, c', ee, hc', _⟩ := HON.out.shape'
              cases ee; exact hc'
            have hcn := ref_count_any SN p7 k7 wn (own_evs HON.out HSO.out) (by omega) hcap7
            refine hcn.mono ?_
            rintro x w4 ⟨rfl, hb4⟩
            have HB4 := Lib.hid (HBN.out.trans (hb4.mono HBN.out.size))
            have HO4 := Lib.hid (HON.out.below hb4 (Nat.le_refl _))
            clear hcn hb4
            obtain ⟨hq0', hq1', hq2', hq3'⟩ := q_cells ((HB4.out.block w.heap.size (lt_block HQ.out)).trans HQ.out)
            obtain ⟨_, _, e9, hrow4⟩ := (HL1.out.below HB4.out (Nat.le_refl _)).resolve_left (fun e => by simp [e] at hlt)
            cases e9
            have hv0 := hrow4.when k hlt
            rw [HE.out] at hv0
            have HFIN := Lib.hid (HB.out.trans (HB4.out.mono HB.out.size))
            have hn1 : ((Qu.after SN).votes 1) ≤ 1000 := Nat.le_trans (List.length_filter_le _ _) (by have := (made_after HSO.out).keys; omega)
            have hn2 : ((Qu.after SN).votes (-1)) ≤ 1000 := Nat.le_trans (List.length_filter_le _ _) (by have := (made_after HSO.out).keys; omega)
            obtain ⟨vy, hvy⟩ : ∃ vy, (Qu.after SN).votes 1 = vy := ⟨_, rfl⟩
            obtain ⟨vn, hvn⟩ : ∃ vn, (Qu.after SN).votes (-1) = vn := ⟨_, rfl⟩
            have hrun3 := HRUN2.out
            rw [hvy, hvn] at hrun3 ⊢
            rw [hvy] at hn1
            rw [hvn] at hn2
            clear hq0 hq1 hq2 hq3 hvy hvn hrow4 c0 c1 c2 c3
            by_cases k3 : (vn : Int) ≥ qv
            · rw [if_pos k3] at hrun3
              simp only [Prod.mk.injEq] at hrun3
              obtain ⟨rfl, rfl⟩ := hrun3
              go_wp2
              go_region
              all_goals
                go_wp2
                all_goals
                  go_ret2
                  exact ⟨rfl, HFIN.out.drew⟩
            · rw [if_neg k3] at hrun3
              by_cases k4 : (vy : Int) ≥ qn
              · rw [if_pos k4] at hrun3
                simp only [Prod.mk.injEq] at hrun3
                obtain ⟨rfl, rfl⟩ := hrun3
                go_wp2
                go_region
                all_goals
                  go_wp2
                  all_goals
                    go_ret2
                    exact ⟨rfl, HFIN.out.drew⟩
              · rw [if_neg k4] at hrun3
                have HRUN3 := Lib.hid hrun3
                clear hrun3
                go_wp2
                go_roundw
                case rel => exact ⟨k + 1, SN, by omega, by go_num, HB4.out, HO4.out, hlSN, HSO.out, HRUN3.out⟩
                case measure => simp [intOf]; omega
      · obtain rfl : k = l.length := by omega
        have hrun2 := HRD.out.run
        rw [List.drop_length, run_nil] at hrun2
        simp only at hrun2
        have HFIN : Hid (Below w.heap.size w wr) := Lib.hid (HB.out.trans (HRD.out.b.mono HB.out.size))
        clear hrow0
        by_cases k1 : held + qt > now
        · rw [if_pos k1] at hrun2
          simp only [Prod.mk.injEq] at hrun2
          obtain ⟨rfl, rfl⟩ := hrun2
          go_wp2
          go_ret2
          exact ⟨rfl, HFIN.out⟩
        · rw [if_neg k1] at hrun2
          cases qf
          · simp only [Bool.false_eq_true, if_false] at hrun2
            simp only [Prod.mk.injEq] at hrun2
            obtain ⟨rfl, rfl⟩ := hrun2
            go_wp2
            go_ret2
            exact ⟨rfl, HFIN.out⟩
          · simp only [if_true] at hrun2
            simp only [Prod.mk.injEq] at hrun2
            obtain ⟨rfl, rfl⟩ := hrun2
            go_wp2
            go_ret2
            exact ⟨rfl, HFIN.out⟩
end Go.Proofs.Ytbcldkbacdnpiaa
