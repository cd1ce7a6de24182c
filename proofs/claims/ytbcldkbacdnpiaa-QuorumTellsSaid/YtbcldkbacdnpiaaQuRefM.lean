/- The reference's Moderators and Count: the walks. -/
import Derived.Test.YtbcldkbacdnpiaaQuUsers
namespace Go.Proofs.Ytbcldkbacdnpiaa
open Go.RowKit Go.Maps Go.WideShapes Go.Sort Qu
theorem sorted_mods {r : Room} {sn : List ByteArray} (hp : sn.Perm r.keys) (hs : sn.Pairwise SLt) : sn.filter (fun k => (r.of k).m) = modsB r := by
  have h1 : ((sn.filter fun k => (r.of k).m).map (·.data.toList)).Perm ((r.keys.filter fun k => (r.of k).m).map (·.data.toList)) := (hp.filter _).map _
  have h2 := mergeSort_of_perm h1
  have h3 : ((sn.filter fun k => (r.of k).m).map (·.data.toList)).mergeSort leB = (sn.filter fun k => (r.of k).m).map (·.data.toList) := by
    refine List.mergeSort_of_pairwise ?_
    refine List.pairwise_map.2 ((hs.filter _).imp fun {a b} hab => ?_)
    unfold SLt at hab
    rw [ByteArray.toList_eq, ByteArray.toList_eq] at hab
    exact decide_eq_true (List.le_of_lt hab)
  unfold modsB modsL
  rw [← h2, h3, List.map_map]
  have e : (bs ∘ fun k : ByteArray => k.data.toList) = id := by funext k; rfl
  rw [e, List.map_id]
structure RMod (w w1 wr : World) (r : Room) (sn : List ByteArray) (k : Nat) (T : List ByteArray) (v : Value) : Prop where
  b : Below w1.heap.size w1 wr
  own : Own wr w1.heap.size 9 1 v T.length (T.map Value.string)
  t : T = (sn.take k).filter fun k => (r.of k).m
set_option maxHeartbeats 2000000 in
theorem ref_moderators_any (l : List Ev) (p : Option Addr) (cap : Nat) (w : World) (hl : EvsAt w p l) (hlen : l.length ≤ 900) :
    Calls Try.prog 15 #[.slice p l.length cap] w fun x w' => ∃ q c, x = .returned (.slice q (modsB (Qu.after l)).length c) ∧ StrAt w' q (modsB (Qu.after l)) ∧ Below w.heap.size w w' := by
  have HL := Lib.hid hl
  have hU := ref_users_any l p cap w hl hlen
  obtain ⟨R, hR⟩ : ∃ R, R = Qu.after l := ⟨_, rfl⟩
  have hMy := fun W (h : EvsAt W p l) (x : ByteArray) => ref_moderator_any l p l.length cap x W h rfl (by omega)
  rw [← hR] at hMy ⊢
  have HMY := Lib.hid hMy
  have HR := Lib.hid hR
  obtain ⟨M, hM⟩ : ∃ M, M = modsB R := ⟨_, rfl⟩
  rw [← hM]
  have HM := Lib.hid hM
  clear hl hR hMy hM
  go_enter Try.func15, Try.ntmps15
  go_wp2_with fail
  refine hU.mono ?_
  rintro e w1 ⟨sn, v, rfl, ho, hp, hs, hsl, hb⟩
  obtain ⟨ps, cs, hv, hss⟩ := own_strs ho
  subst hv
  rw [← HR.out] at hp
  have HSS := Lib.hid hss; have HB := Lib.hid hb; have HP := Lib.hid hp; have HS := Lib.hid hs
  clear hss hb hp hs ho hU
  go_wp2_with fail
  go_loopw [4, 5] (fun v i wr => ∃ (k : Nat) (T : List ByteArray), k ≤ sn.length ∧ i = .int .i64 k ∧ RMod w w1 wr R sn k T v) (fun _ i _ => sn.length - (intOf i).toNat)
  case atStart => exact ⟨0, [], Nat.zero_le _, rfl, ⟨Below.refl _ _, Own.nil _ _ _ _, rfl⟩⟩
  case round =>
    obtain ⟨k, T, hk, rfl, he⟩ := hrel
    obtain ⟨pt, ct, hvt, hst⟩ := own_strs he.own
    have HE := Lib.hid he
    have htl : T.length ≤ k := by rw [he.t]; exact Nat.le_trans (List.length_filter_le _ _) (by simp; omega)
    clear he hst
    subst hvt
    by_cases hlt : k < sn.length
    · obtain ⟨sb, so, rfl, hsrow⟩ : ∃ b o, ps = some ⟨b, o, none⟩ ∧ StrRow wr b o sn := (HSS.out.below HE.out.b (Nat.le_refl _)).resolve_left (fun e => by simp [e] at hlt)
      have s0 := hsrow.cell k hlt
      have hadd2 : (⟨sb, so, none⟩ : Addr).add k = ⟨sb, so + k, none⟩ := add_plain _ _ _
      have hsn : sn.take (k + 1) = sn.take k ++ [sn[k]] := List.take_succ_eq_append_getElem hlt
      obtain ⟨u, hu⟩ : ∃ u, sn[k] = u := ⟨_, rfl⟩
      rw [hu] at s0 hsn
      have HSN := Lib.hid hsn
      clear hsn hu hsrow
      have hMo := HMY.out wr (HL.out.below (HB.out.trans (HE.out.b.mono HB.out.size)) (Nat.le_refl _)) u
      cases hm : (R.of u).m
      · rw [hm] at hMo
        have HMu := Lib.hid hm
        clear hm
        go_wp2_with fail
        refine hMo.mono ?_
        rintro e w' ⟨rfl, rfl⟩
        go_wp2_with fail
        go_roundw
        case rel => exact ⟨k + 1, T, by omega, by go_num, ⟨HE.out.b, HE.out.own, by rw [HSN.out, List.filter_append, ← HE.out.t]; simp [HMu.out]⟩⟩
        case measure => simp [intOf]; omega
      · rw [hm] at hMo
        have HMu := Lib.hid hm
        clear hm
        obtain ⟨SN, hSN⟩ : ∃ SN, SN = T ++ [u] := ⟨_, rfl⟩
        have HSN2 := Lib.hid hSN
        clear hSN
        go_wp2_with fail
        refine hMo.mono ?_
        rintro e w' ⟨rfl, rfl⟩
        go_wp2_with (at_builtin; refine wpList_append_str1 rfl _ _ rfl w1.heap.size _ T u rfl (HE.out.own.alloc _) wr.heap.size rfl (heap_alloc_new wr _) (by omega) (by have := HE.out.b.size; simp; omega) SN HSN2 ?_; intro p7 k7 wn hoN hgN; have bN := (HE.out.b.alloc HE.out.b.size (.cells #[.string u] 9)).trans (below_row hgN (fun g hg => (HE.out.own.block_ge g hg).1) (by have := HE.out.b.size; simp; omega)); have HON := Lib.hid hoN; have HBN := Lib.hid bN; clear hoN hgN bN)
        go_roundw
        case rel => exact ⟨k + 1, SN, by omega, by go_num, ⟨HBN.out, HON.out, by rw [HSN.out, List.filter_append, ← HE.out.t, HSN2.out]; simp [HMu.out]⟩⟩
        case measure => simp [intOf]; omega
    · obtain rfl : k = sn.length := by omega
      have ht : T = M := by
        have := HE.out.t
        rw [List.take_length] at this
        rw [this, HM.out]; exact sorted_mods HP.out HS.out
      subst ht
      go_wp2
      go_ret
      exact ⟨pt, ct, rfl, own_str_at HE.out.own, HB.out.trans (HE.out.b.mono HB.out.size)⟩
/-- how many of these have the vote v -/
theorem tally_perm {r : Room} {sn : List ByteArray} (hp : sn.Perm r.keys) (v : Int) : tally r sn v = r.votes v := by
  unfold tally Room.votes
  exact (hp.filter _).length_eq
theorem chase_vals {f : ByteArray → U} (h : ∀ k, (f k).d = 0 ∨ (f k).d = 1 ∨ (f k).d = -1) : ∀ (n : Nat) (seen : List ByteArray) (y : ByteArray), chase f n seen y = 0 ∨ chase f n seen y = 1 ∨ chase f n seen y = -1
  | 0, _, _ => .inl rfl
  | n + 1, seen, y => by
    unfold chase
    split
    · exact .inl rfl
    · split
      · exact h y
      · exact chase_vals h n _ _
theorem vote_vals {r : Room} (h : r.Fine) (k : ByteArray) : r.vote k = 0 ∨ r.vote k = 1 ∨ r.vote k = -1 := by
  unfold Room.vote
  split
  · exact h.votes k
  · exact chase_vals h.votes _ _ _
set_option maxHeartbeats 2000000 in
theorem ref_count_any (l : List Ev) (p : Option Addr) (cap : Nat) (w : World) (hl : EvsAt w p l) (hlen : l.length ≤ 900) (hcap : l.length ≤ cap) :
    Calls Try.prog 17 #[.slice p l.length cap] w fun x w' => x = .returned (.tuple #[.int .i64 ((Qu.after l).votes 1), .int .i64 ((Qu.after l).votes (-1))]) ∧ Below w.heap.size w w' := by
  have HL := Lib.hid hl
  have hU := ref_users_any l p cap w hl hlen
  obtain ⟨R, hR⟩ : ∃ R, R = Qu.after l := ⟨_, rfl⟩
  have hEf := fun W (h : EvsAt W p l) (x : ByteArray) => ref_effective_any l p cap x W h hlen hcap
  have HMd : Hid (Made R l.length) := Lib.hid (by rw [hR]; exact made_after hl.okAll)
  rw [← hR] at hEf ⊢
  have HEF := Lib.hid hEf
  have HR := Lib.hid hR
  obtain ⟨Y, hY⟩ : ∃ y, y = R.votes 1 := ⟨_, rfl⟩
  obtain ⟨N, hN⟩ : ∃ y, y = R.votes (-1) := ⟨_, rfl⟩
  rw [← hY, ← hN]
  have HY := Lib.hid hY; have HN := Lib.hid hN
  clear hl hR hEf hY hN
  go_enter Try.func17, Try.ntmps17
  go_wp2_with fail
  refine hU.mono ?_
  rintro e w1 ⟨sn, v, rfl, ho, hp, hs, hsl, hb⟩
  obtain ⟨ps, cs, hv, hss⟩ := own_strs ho
  subst hv
  rw [← HR.out] at hp
  have HSS := Lib.hid hss; have HB := Lib.hid hb; have HP := Lib.hid hp
  clear hss hb hp hs ho hU
  go_wp2_with fail
  go_loopw [5, 6, 7, 8] (fun y n i _ wr => ∃ k : Nat, k ≤ sn.length ∧ i = .int .i64 k ∧ y = .int .i64 (tally R (sn.take k) 1 : Nat) ∧ n = .int .i64 (tally R (sn.take k) (-1) : Nat) ∧ Below w1.heap.size w1 wr) (fun _ _ i _ _ => sn.length - (intOf i).toNat)
  case atStart => exact ⟨0, Nat.zero_le _, rfl, rfl, rfl, Below.refl _ _⟩
  case round =>
    obtain ⟨k, hk, rfl, rfl, rfl, hbw⟩ := hrel
    have HBW := Lib.hid hbw
    clear hbw
    by_cases hlt : k < sn.length
    · obtain ⟨sb, so, rfl, hsrow⟩ : ∃ b o, ps = some ⟨b, o, none⟩ ∧ StrRow wr b o sn := (HSS.out.below HBW.out (Nat.le_refl _)).resolve_left (fun e => by simp [e] at hlt)
      have s0 := hsrow.cell k hlt
      have hadd2 : (⟨sb, so, none⟩ : Addr).add k = ⟨sb, so + k, none⟩ := add_plain _ _ _
      have hsn : sn.take (k + 1) = sn.take k ++ [sn[k]] := List.take_succ_eq_append_getElem hlt
      obtain ⟨u, hu⟩ : ∃ u, sn[k] = u := ⟨_, rfl⟩
      rw [hu] at s0 hsn
      have hT1 := tally_snoc R (sn.take k) u 1
      have hT2 := tally_snoc R (sn.take k) u (-1)
      have a1 := Nat.le_trans (tally_le R (sn.take k) 1) (List.length_take_le _ _)
      have a2 := Nat.le_trans (tally_le R (sn.take k) (-1)) (List.length_take_le _ _)
      rw [← hsn] at hT1 hT2
      obtain ⟨yk, hyk⟩ : ∃ y, tally R (sn.take k) 1 = y := ⟨_, rfl⟩
      obtain ⟨nk, hnk⟩ : ∃ y, tally R (sn.take k) (-1) = y := ⟨_, rfl⟩
      rw [hyk] at hT1 a1 ⊢
      rw [hnk] at hT2 a2 ⊢
      have hE := HEF.out wr (HL.out.below (HB.out.trans (HBW.out.mono HB.out.size)) (Nat.le_refl _)) u
      have hvv := vote_vals HMd.out.fine u
      obtain ⟨v, hv⟩ : ∃ v, R.vote u = v := ⟨_, rfl⟩
      rw [hv] at hE hT1 hT2 hvv
      have HT1 := Lib.hid hT1; have HT2 := Lib.hid hT2
      clear hsn hu hsrow hT1 hT2 hv hyk hnk
      rcases hvv with rfl | rfl | rfl
      all_goals
        go_wp2_with fail
        refine hE.mono ?_
        rintro e w' ⟨rfl, b⟩
        have HBN := Lib.hid (HBW.out.trans (b.mono HBW.out.size))
        clear b
        go_wp2_with fail
        go_roundw
        case rel => exact ⟨k + 1, by omega, by go_num, by rw [HT1.out]; simp, by rw [HT2.out]; simp, HBN.out⟩
        case measure => simp [intOf]; omega
    · obtain rfl : k = sn.length := by omega
      rw [List.take_length, tally_perm HP.out, tally_perm HP.out, ← HY.out, ← HN.out]
      go_wp2
      go_ret2
      exact ⟨rfl, HB.out.trans (HBW.out.mono HB.out.size)⟩
end Go.Proofs.Ytbcldkbacdnpiaa
