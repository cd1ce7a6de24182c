/- QuorumCounts: the walk. -/
import Derived.Test.YtbcldkbacdnpiaaQuLeavesW
import Derived.Test.YtbcldkbacdnpiaaQuCounts0
namespace Go.Proofs.Ytbcldkbacdnpiaa
open Go.RowKit Go.Maps Go.WideShapes Qu
theorem info_str : (Try.prog.info? 9).map (fun i => (i.zero, i.size, i.bytes)) = some (some (.string ⟨#[]⟩), 1, 16) := by kernel_rfl
/-- strings that the call itself has gathered -/
theorem own_strs {w : World} {base : Nat} {v : Value} {l : List ByteArray} (ho : Own w base 9 1 v l.length (l.map Value.string)) : ∃ p cap, v = .slice p l.length cap ∧ StrAt w p l := by
  obtain ⟨p, cap, rfl, hc, hm⟩ := ho.shape'
  refine ⟨p, cap, rfl, ?_⟩
  by_cases h0 : 0 < l.length
  · obtain ⟨g, cap', e, _, _, _, _, hcell⟩ := ho.shape h0
    simp only [Value.slice.injEq, true_and] at e
    refine .inr ⟨g, 0, e.1, ⟨fun i hi => ?_⟩⟩
    rw [Nat.zero_add, hcell i (by omega), List.getElem?_map, List.getElem?_eq_getElem hi]; rfl
  · exact .inl (List.length_eq_zero_iff.1 (by omega))
theorem wpList_append_str1 {w : World} {ops : Array Oper} {rest : List Oper} {o : Oper} {a : Act} {Q : Exit → Act → World → Prop} (hgd : o.guard = none) (s x : Operand)
    (ho : o.op = .call { callee := .builtin .append, args := #[s, x], argTypes := #[34, 34] })
    (base : Nat) (v : Value) (l : List ByteArray) (u : ByteArray) (hs : a.eval s = v) (hown : Own w base 9 1 v l.length (l.map Value.string))
    (b : Nat) (hx : a.eval x = .slice (some ⟨b, 0, none⟩) 1 1) (hb : w.heap[b]? = some (.cells #[.string u] 9 (0, 0))) (h63 : l.length + 1 ≤ 1000) (hbase : base ≤ w.heap.size) (L : List ByteArray) (hL : Hid (L = l ++ [u]))
    (h : ∀ p cap w', Own w' base 9 1 (.slice p L.length cap) L.length (L.map Value.string) → w.grownBy w' v.ownBlock →
      wpList Try.prog ops Q rest (a.put o.dst (.slice p L.length cap)) w') : wpList Try.prog ops Q (o :: rest) a w := by
  obtain ⟨i0, hi, hz0, hz1, hz2⟩ := info_parts info_str
  refine wpList_append_x hgd s x _ ho base 9 i0 _ 1 16 Try.underlying34 hi hz0 hz1 hz2 rfl (by decide) v l.length _ hs hown ⟨b, 0, none⟩ 1 1 [.string u] hx rfl (World.news_of_block hb) (fun x hx => by simp at hx; rw [hx]; rfl) (by unfold maxLen; omega) (by omega) hbase ?_
  intro v' w' h2 h3 h4 h5
  have e : l.map Value.string ++ [Value.string u] = L.map Value.string := by rw [hL.out, List.map_append]; rfl
  have e2 : l.length + 1 = L.length := by rw [hL.out, List.length_append]; rfl
  rw [e, e2] at h2
  obtain ⟨p, cap, rfl, _⟩ := h2.shape'
  exact h p cap w' h2 h3
/-- whether one of these has another name and the direct vote v -/
def sharedB (r : Room) (u : ByteArray) (v : Int) (l : List ByteArray) : Bool := l.any fun m => decide (m ≠ u) && decide ((r.of m).d = v)
theorem sharedB_snoc (r : Room) (u : ByteArray) (v : Int) (l : List ByteArray) (m : ByteArray) : sharedB r u v (l ++ [m]) = (sharedB r u v l || (decide (m ≠ u) && decide ((r.of m).d = v))) := by
  unfold sharedB; simp [List.any_append]
theorem mem_snocB (u : ByteArray) (l : List ByteArray) (m : ByteArray) : decide (u ∈ l ++ [m]) = (decide (u ∈ l) || decide (m = u)) := by
  simp only [List.mem_append, List.mem_singleton, Bool.decide_or, eq_comm]
/-- the relation of the outer loop: w3 is the world ahead of it -/
structure Cnt (w3 wr : World) (l : List Ev) (k : Nat) (sn : List ByteArray) (v7 : Value) : Prop where
  b : Below w3.heap.size w3 wr
  own : Own wr w3.heap.size 9 1 v7 sn.length (sn.map Value.string)
  seen : sn = (Qu.after (l.take k)).keys
  len : sn.length ≤ k
set_option maxRecDepth 100000 in
set_option maxHeartbeats 8000000 in
theorem counts_walk (l : List Ev) (p : Option Addr) (cap : Nat) (w : World) (h1 : EvsAt w p l) (hcap : l.length ≤ cap) (hcm : cap ≤ maxLen) :
    Calls Try.prog 7 #[.slice p l.length cap] w fun x w' => x = .returned (.bool true) ∧ Below w.heap.size w w' := by
  have S0 : Hid (Sle w w p l) := Lib.hid ⟨h1, Below.refl _ _⟩
  have HS := small_any w
  have HOK := Lib.hid h1.okAll
  clear h1
  by_cases c1 : 30 < l.length
  · go_enter Try.func7, Try.ntmps7
    go_wp2_with fail
    refine HS.mono ?_
    rintro e w1 ⟨rfl, b⟩
    have S1 := Lib.hid (S0.out.step b)
    clear b HS S0
    go_wp2_with fail
    refine (few_no p l.length cap w1 (Nat.le_trans hcap hcm) (by omega)).mono ?_
    rintro e w' ⟨rfl, rfl⟩
    go_wp2
    go_ret
    exact ⟨rfl, S1.out.b⟩
  obtain ⟨R, hR⟩ : ∃ R, R = Qu.after l := ⟨_, rfl⟩
  have HMd : Hid (Made R l.length) := Lib.hid (by rw [hR]; exact made_after HOK.out)
  have HR := Lib.hid hR
  clear hR
  obtain ⟨ms, hms⟩ : ∃ ms, ms = modsB R := ⟨_, rfl⟩
  have HMS : Hid (∀ m, m ∈ ms ↔ (R.of m).m = true) := Lib.hid (fun m => by rw [hms]; exact mem_modsB HMd.out.fine m)
  have HMSe := Lib.hid hms
  have hml : ms.length ≤ l.length := by rw [hms, HR.out]; exact mods_len (by rw [← HR.out]; exact HMd.out)
  clear hms
  have HSZ : Hid (∀ k, k ∈ l.map (·.user) → k.size ≤ maxLen) := Lib.hid (fun k hk => by obtain ⟨e, he, rfl⟩ := List.mem_map.1 hk; exact (HOK.out e he).user)
  obtain ⟨Y, hY⟩ : ∃ y, y = R.votes 1 := ⟨_, rfl⟩
  obtain ⟨N, hN⟩ : ∃ y, y = R.votes (-1) := ⟨_, rfl⟩
  have hYl : Y ≤ 30 := by rw [hY]; exact Nat.le_trans (List.length_filter_le _ _) (Nat.le_trans HMd.out.keys (by omega))
  have hNl : N ≤ 30 := by rw [hN]; exact Nat.le_trans (List.length_filter_le _ _) (Nat.le_trans HMd.out.keys (by omega))
  have HY := Lib.hid hY; have HN := Lib.hid hN
  clear hY hN
  go_enter Try.func7, Try.ntmps7
  go_wp2_with fail
  refine HS.mono ?_
  rintro e w1 ⟨rfl, b⟩
  have S1 := Lib.hid (S0.out.step b)
  clear b HS S0
  go_wp2_with fail
  refine (few_yes p l.length cap w1 (by omega)).mono ?_
  rintro e w' ⟨rfl, rfl⟩
  go_wp2_with fail
  have hMo := moderators_any l p cap w1 S1.out.e1 (by omega)
  rw [← HR.out, ← HMSe.out] at hMo
  refine hMo.mono ?_
  rintro e w2 ⟨pm, km, rfl, hst, _, _, b⟩
  have S2 := Lib.hid (S1.out.step b)
  have HST := Lib.hid hst
  clear b S1 hMo hst
  go_wp2_with fail
  have hC := quorum_count_any l p cap w2 S2.out.e1 (by omega)
  rw [← HR.out, ← HY.out, ← HN.out] at hC
  refine hC.mono ?_
  rintro e w3 ⟨rfl, b⟩
  have S3 := Lib.hid (S2.out.step b)
  have HST3 := Lib.hid (HST.out.below b (Nat.le_refl _))
  clear b S2 hC HST
  have hsome0 : ∀ v, tally R [] v = 0 := fun _ => rfl
  have HS0 := Lib.hid hsome0
  clear hsome0
  go_wp2_with fail
  go_loopw [5, 6, 7, 8] (fun y n v7 i wr => ∃ (k : Nat) (sn : List ByteArray), k ≤ l.length ∧ i = .int .i64 k ∧ y = .int .i64 ((Y : Int) - (tally R sn 1 : Nat)) ∧ n = .int .i64 ((N : Int) - (tally R sn (-1) : Nat)) ∧ Cnt w3 wr l k sn v7) (fun _ _ _ i _ => l.length - (intOf i).toNat)
  case atStart => exact ⟨0, [], Nat.zero_le _, rfl, by rw [HS0.out]; simp, by rw [HS0.out]; simp, ⟨Below.refl _ _, Own.nil _ _ _ _, rfl, Nat.le_refl _⟩⟩
  case round =>
    obtain ⟨k, sn, hk, rfl, rfl, rfl, hcnt⟩ := hrel
    have HC := Lib.hid hcnt
    have hsl := hcnt.len
    have a1 : (tally R sn 1) ≤ 30 := Nat.le_trans (tally_le R sn 1) (by omega)
    have a2 : (tally R sn (-1)) ≤ 30 := Nat.le_trans (tally_le R sn (-1)) (by omega)
    obtain ⟨ps, cs, hv7, hss⟩ := own_strs hcnt.own
    have HSS := Lib.hid hss
    clear hcnt hss
    subst hv7
    obtain ⟨yk, hyk⟩ : ∃ y, y = tally R sn 1 := ⟨_, rfl⟩
    obtain ⟨nk, hnk⟩ : ∃ y, y = tally R sn (-1) := ⟨_, rfl⟩
    rw [← hyk] at a1 ⊢
    rw [← hnk] at a2 ⊢
    have HYK := Lib.hid hyk; have HNK := Lib.hid hnk
    clear hyk hnk
    by_cases hlt : k < l.length
    · obtain ⟨ab, ao, rfl, hrow⟩ : ∃ b o, p = some ⟨b, o, none⟩ ∧ EvsRow wr b o l := (S3.out.e1.below HC.out.b (Nat.le_refl _)).resolve_left (fun e => by simp [e] at hlt)
      have c2 := hrow.user k hlt
      have ha := after_snoc l k hlt
      have hue := HSZ.out l[k].user (List.mem_map.2 ⟨_, List.getElem_mem hlt, rfl⟩)
      have hki := keys_in (Qu.after (l.take k)) l[k]
      have hkn := keys_new (Qu.after (l.take k)) l[k]
      rw [← ha, ← HC.out.seen] at hki hkn
      obtain ⟨u, hu⟩ : ∃ u, l[k].user = u := ⟨_, rfl⟩
      rw [hu] at c2 hue hki hkn
      have HKI := Lib.hid hki; have HKN := Lib.hid hkn
      have hadd : (⟨ab, ao, none⟩ : Addr).add (k * 4) = ⟨ab, ao + k * 4, none⟩ := add_plain _ _ _
      clear ha hki hkn hu hrow
      go_wp2_with fail
      go_loop [10, 11] (fun b i => ∃ j : Nat, j ≤ sn.length ∧ i = .int .i64 j ∧ b = .bool (decide (u ∈ sn.take j))) (fun _ i => sn.length - (intOf i).toNat)
      case atStart => exact ⟨0, Nat.zero_le _, rfl, by simp⟩
      case round =>
        obtain ⟨j, hj, rfl, rfl⟩ := hrel
        by_cases hjl : j < sn.length
        · obtain ⟨sb, so, rfl, hsrow⟩ : ∃ b o, ps = some ⟨b, o, none⟩ ∧ StrRow wr b o sn := HSS.out.resolve_left (fun e => by simp [e] at hjl)
          have s0 := hsrow.cell j hjl
          have hadd2 : (⟨sb, so, none⟩ : Addr).add j = ⟨sb, so + j, none⟩ := add_plain _ _ _
          have ht : decide (u ∈ sn.take (j + 1)) = (decide (u ∈ sn.take j) || decide (sn[j] = u)) := by rw [take_mem_snoc sn j hjl, mem_snocB]
          obtain ⟨m, hm⟩ : ∃ m, sn[j] = m := ⟨_, rfl⟩
          rw [hm] at s0 ht
          have HTk := Lib.hid ht
          clear ht hsrow hm
          cases hb : decide (u ∈ sn.take j)
          · have HB := Lib.hid hb
            by_cases he : m.toList = u.toList
            · clear hb
              go_wp2_with fail
              all_goals
                go_round
                case rel => exact ⟨j + 1, by omega, by go_num, by rw [HTk.out, HB.out, decide_eq_true (str_eq he).symm]; rfl⟩
                case measure => simp [intOf]; omega
            · clear hb
              go_wp2_with fail
              all_goals
                go_round
                case rel => exact ⟨j + 1, by omega, by go_num, by rw [HTk.out, HB.out, decide_eq_false (fun c => str_ne he c.symm)]; first | rfl | simp [he]⟩
                case measure => simp [intOf]; omega
          · have HB := Lib.hid hb
            clear hb
            go_wp2_with fail
            all_goals
              go_round
              case rel => exact ⟨j + 1, by omega, by go_num, by rw [HTk.out, HB.out]; rfl⟩
              case measure => simp [intOf]; omega
        · obtain rfl : j = sn.length := by omega
          rw [List.take_length]
          by_cases hin : u ∈ sn
          · rw [decide_eq_true hin]
            have HIN := Lib.hid hin
            clear hin
            go_wp2_with fail
            go_roundw
            case rel => exact ⟨k + 1, sn, by omega, by go_num, by rw [HYK.out], by rw [HNK.out], ⟨HC.out.b, HC.out.own, (HKI.out HIN.out).symm, by omega⟩⟩
            case measure => simp [intOf]; omega
          · rw [decide_eq_false hin]
            have HIN := Lib.hid hin
            clear hin
            obtain ⟨SN, hSN⟩ : ∃ SN, SN = sn ++ [u] := ⟨_, rfl⟩
            have HSN := Lib.hid hSN
            clear hSN
            go_wp2_with (at_builtin; refine wpList_append_str1 rfl _ _ rfl w3.heap.size _ sn u rfl (HC.out.own.alloc _) wr.heap.size rfl (heap_alloc_new wr _) (by omega) (by have := HC.out.b.size; simp; omega) SN HSN ?_; intro p7 k7 wn hoN hgN; have bN := (HC.out.b.alloc HC.out.b.size (.cells #[.string u] 9)).trans (below_row hgN (fun g hg => (HC.out.own.block_ge g hg).1) (by have := HC.out.b.size; simp; omega)); have HON := Lib.hid hoN; have HBN := Lib.hid bN; clear hoN hgN bN)
            have hE := effective_any l (some ⟨ab, ao, none⟩) cap u wn (S3.out.e1.below HBN.out (Nat.le_refl _)) (by omega) hue
            rw [← HR.out] at hE
            obtain ⟨v, hv⟩ : ∃ v, R.vote u = v := ⟨_, rfl⟩
            rw [hv] at hE
            have HV := Lib.hid hv
            clear hv
            refine hE.mono ?_
            rintro e wp ⟨rfl, b⟩
            have HBP := Lib.hid (HBN.out.trans (b.mono HBN.out.size))
            have HOP := Lib.hid (HON.out.below b (Nat.le_refl _))
            have HEP := Lib.hid (S3.out.e1.below HBP.out (Nat.le_refl _))
            have HMP := Lib.hid (HST3.out.below HBP.out (Nat.le_refl _))
            clear hE b HON HBN
            have HNEW : Hid (SN = (Qu.after (l.take (k + 1))).keys) := Lib.hid (by rw [HSN.out, HKN.out HIN.out])
            have hT1 := tally_snoc R sn u 1
            have hT2 := tally_snoc R sn u (-1)
            rw [← HSN.out, ← HYK.out, HV.out] at hT1
            rw [← HSN.out, ← HNK.out, HV.out] at hT2
            have HT1 := Lib.hid hT1
            have HT2 := Lib.hid hT2
            clear hT1 hT2
            have hvs : v = 1 ∨ v = -1 ∨ (v ≠ 1 ∧ v ≠ -1) := by omega
            obtain ⟨Y', hY'⟩ : ∃ Y' : Int, Y' = (Y : Int) - (tally R SN 1 : Nat) := ⟨_, rfl⟩
            obtain ⟨N', hN'⟩ : ∃ N' : Int, N' = (N : Int) - (tally R SN (-1) : Nat) := ⟨_, rfl⟩
            have HY' := Lib.hid hY'; have HN' := Lib.hid hN'
            rw [HT1.out] at hY'
            rw [HT2.out] at hN'
            obtain ⟨d, hd⟩ : ∃ d, (R.of u).d = d := ⟨_, rfl⟩
            have HDu := Lib.hid hd
            obtain ⟨mo, hmo⟩ : ∃ mo, decide (u ∈ ms) = mo := ⟨_, rfl⟩
            have HMO := Lib.hid hmo
            obtain ⟨sh, hsh⟩ : ∃ sh, sharedB R u v ms = sh := ⟨_, rfl⟩
            have HSH := Lib.hid hsh
            clear hd hmo hsh
            -- what the tests of the end of the round say
            have HF : Hid (d ≠ 0 ∧ v = d ∨ d = 0 ∧ v = 0 ∨ d = 0 ∧ mo = true ∧ sh = true) := Lib.hid (by
              by_cases hd0 : d = 0
              · by_cases hv0 : v = 0
                · exact .inr (.inl ⟨hd0, hv0⟩)
                · refine .inr (.inr ⟨hd0, ?_, ?_⟩)
                  · rw [← HMO.out, decide_eq_true_eq, HMS.out]
                    cases e : (R.of u).m
                    · exact absurd (by rw [← HV.out]; exact vote_quiet (by rw [HDu.out]; exact hd0) e) hv0
                    · rfl
                  · obtain ⟨m, m1, m2, m3⟩ := vote_shared (r := R) (u := u) (by rw [HDu.out]; exact hd0) (by rw [HV.out]; exact hv0)
                    rw [← HSH.out]
                    unfold sharedB
                    rw [List.any_eq_true]
                    exact ⟨m, (HMS.out m).2 m2, by simp [m1, m3, HV.out]⟩
              · exact .inl ⟨hd0, by rw [← HV.out, vote_direct (.inl (by rw [HDu.out]; exact hd0)), HDu.out]⟩)
            have hDi := fun W (h : EvsAt W (some ⟨ab, ao, none⟩) l) (x : ByteArray) => ref_direct_any l (some ⟨ab, ao, none⟩) l.length cap x W h rfl (by omega) hcap
            rw [← HR.out] at hDi
            have hDu := hDi wp HEP.out u
            rw [HDu.out] at hDu
            have HDI := Lib.hid hDi
            clear hDi c2
            rcases hvs with hv1 | hv1 | ⟨hv1, hv2⟩
            all_goals
              first
              | (have q1 : Y' = (Y : Int) - (yk : Nat) - 1 := by rw [hY', if_pos hv1]; omega
                 have q2 : N' = (N : Int) - (nk : Nat) := by rw [hN', if_neg (by omega)]; omega
                 have b1 : (v == 1) = true := by simpa using hv1
                 have b2 : (v == -1) = false := by simpa using (show ¬ v = -1 by omega)
                 clear hY' hN')
              | (have q1 : Y' = (Y : Int) - (yk : Nat) := by rw [hY', if_neg (by omega)]; omega
                 have q2 : N' = (N : Int) - (nk : Nat) - 1 := by rw [hN', if_pos hv1]; omega
                 have b1 : (v == 1) = false := by simpa using (show ¬ v = 1 by omega)
                 have b2 : (v == -1) = true := by simpa using hv1
                 clear hY' hN')
              | (have q1 : Y' = (Y : Int) - (yk : Nat) := by rw [hY', if_neg hv1]; omega
                 have q2 : N' = (N : Int) - (nk : Nat) := by rw [hN', if_neg hv2]; omega
                 have b1 : (v == 1) = false := by simpa using hv1
                 have b2 : (v == -1) = false := by simpa using hv2
                 clear hY' hN')
            all_goals
              have Q1 := Lib.hid q1; have Q2 := Lib.hid q2
              clear q1 q2
              try clear hv1
              try clear hv2
              go_wp2_with fail
              go_loop [13, 14, 15] (fun b c i => ∃ j : Nat, j ≤ ms.length ∧ i = .int .i64 j ∧ b = .bool (decide (u ∈ ms.take j)) ∧ c = .bool (sharedB R u v (ms.take j))) (fun _ _ i => ms.length - (intOf i).toNat)
              case atStart => exact ⟨0, Nat.zero_le _, rfl, by simp, rfl⟩
              case round =>
                obtain ⟨j, hj, rfl, rfl, rfl⟩ := hrel
                by_cases hjl : j < ms.length
                · obtain ⟨sb, so, hpm, hsrow⟩ : ∃ b o, pm = some ⟨b, o, none⟩ ∧ StrRow wp b o ms := HMP.out.resolve_left (fun e => by simp [e] at hjl)
                  subst hpm
                  have s0 := hsrow.cell j hjl
                  have hadd2 : (⟨sb, so, none⟩ : Addr).add j = ⟨sb, so + j, none⟩ := add_plain _ _ _
                  have ht : decide (u ∈ ms.take (j + 1)) = (decide (u ∈ ms.take j) || decide (ms[j] = u)) := by rw [take_mem_snoc ms j hjl, mem_snocB]
                  have ht2 : sharedB R u v (ms.take (j + 1)) = (sharedB R u v (ms.take j) || (decide (ms[j] ≠ u) && decide ((R.of ms[j]).d = v))) := by rw [take_mem_snoc ms j hjl, sharedB_snoc]
                  obtain ⟨m, hm⟩ : ∃ m, ms[j] = m := ⟨_, rfl⟩
                  rw [hm] at s0 ht ht2
                  have hDm := HDI.out wp HEP.out m
                  obtain ⟨dm, hdm⟩ : ∃ dm, (R.of m).d = dm := ⟨_, rfl⟩
                  rw [hdm] at ht2 hDm
                  have HTk := Lib.hid ht
                  have HTk2 := Lib.hid ht2
                  clear ht ht2 hsrow hm hdm
                  obtain ⟨x1, hx1⟩ : ∃ x, decide (u ∈ ms.take j) = x := ⟨_, rfl⟩
                  obtain ⟨x2, hx2⟩ : ∃ x, sharedB R u v (ms.take j) = x := ⟨_, rfl⟩
                  rw [hx1, hx2]
                  have HX1 := Lib.hid hx1; have HX2 := Lib.hid hx2
                  clear hx1 hx2
                  by_cases he : m.toList = u.toList
                  · have hmu : m = u := (str_eq he).symm
                    have HMU := Lib.hid hmu
                    clear hmu
                    cases x1 <;> cases x2
                    all_goals
                      go_wp2_with fail
                      all_goals
                        go_round
                        case rel => exact ⟨j + 1, by omega, by go_num, by rw [HTk.out, HX1.out, decide_eq_true HMU.out]; rfl, by rw [HTk2.out, HX2.out, decide_eq_false (fun c => c HMU.out)]; rfl⟩
                        case measure => simp [intOf]; omega
                  · have hmu : ¬ m = u := fun c => str_ne he c.symm
                    have HMU := Lib.hid hmu
                    clear hmu
                    by_cases hdv : dm = v
                    · have e7 : (dm == v) = true := by simpa using hdv
                      have HDV := Lib.hid hdv
                      clear hdv
                      cases x1 <;> cases x2
                      all_goals
                        go_wp2_with (go_at_call 24; refine hDm.mono ?_; rintro x w' ⟨rfl, rfl⟩)
                        all_goals
                          go_round
                          case rel => exact ⟨j + 1, by omega, by go_num, by rw [HTk.out, HX1.out, decide_eq_false HMU.out]; first | rfl | simp [he], by rw [HTk2.out, HX2.out, decide_eq_true HMU.out, decide_eq_true HDV.out]; first | rfl | simp [he]⟩
                          case measure => simp [intOf]; omega
                    · have e7 : (dm == v) = false := by simpa using hdv
                      have HDV := Lib.hid hdv
                      clear hdv
                      cases x1 <;> cases x2
                      all_goals
                        go_wp2_with (go_at_call 24; refine hDm.mono ?_; rintro x w' ⟨rfl, rfl⟩)
                        all_goals
                          go_round
                          case rel => exact ⟨j + 1, by omega, by go_num, by rw [HTk.out, HX1.out, decide_eq_false HMU.out]; first | rfl | simp [he], by rw [HTk2.out, HX2.out, decide_eq_true HMU.out, decide_eq_false HDV.out]; first | rfl | simp [he]⟩
                          case measure => simp [intOf]; omega
                · obtain rfl : j = ms.length := by omega
                  rw [List.take_length, HMO.out, HSH.out]
                  go_wp2_with fail
                  refine hDu.mono ?_
                  rintro x w' ⟨rfl, rfl⟩
                  have hF := HF.out
                  rcases hF with ⟨f1, f2⟩ | ⟨f1, f2⟩ | ⟨f1, f2, f3⟩
                  all_goals
                    first
                    | (have g1 : (d != 0) = true := by simpa using f1
                       have g2 : (d == 0) = false := by simpa using f1
                       have g3 : (v != d) = false := by simpa using f2
                       clear f1 f2)
                    | (have g1 : (d != 0) = false := by simpa using f1
                       have g2 : (d == 0) = true := by simpa using f1
                       have g3 : (v != 0) = false := by simpa using f2
                       clear f1 f2)
                    | (have g1 : (d != 0) = false := by simpa using f1
                       have g2 : (d == 0) = true := by simpa using f1
                       have hmo1 : mo = true := f2
                       subst f2 f3
                       clear f1)
                  all_goals
                    go_wp2_with fail
                    all_goals
                      go_roundw
                      case rel => exact ⟨k + 1, SN, by omega, by go_num, by rw [← HY'.out, Q1.out], by rw [← HN'.out, Q2.out], ⟨HBP.out, HOP.out, HNEW.out, by rw [HSN.out, List.length_append]; simp only [List.length_cons, List.length_nil]; omega⟩⟩
                      case measure => simp [intOf]; omega
    · obtain rfl : k = l.length := by omega
      have e1 : yk = Y := by rw [HYK.out, HY.out, HC.out.seen, List.take_length, ← HR.out, tally_all]
      have e2 : nk = N := by rw [HNK.out, HN.out, HC.out.seen, List.take_length, ← HR.out, tally_all]
      subst e1 e2
      have z1 : (yk : Int) - (yk : Int) = 0 := by omega
      have z2 : (nk : Int) - (nk : Int) = 0 := by omega
      rw [z1, z2]
      clear z1 z2
      go_wp2
      go_ret
      exact ⟨rfl, S3.out.b.trans (HC.out.b.mono S3.out.b.size)⟩
end Go.Proofs.Ytbcldkbacdnpiaa
