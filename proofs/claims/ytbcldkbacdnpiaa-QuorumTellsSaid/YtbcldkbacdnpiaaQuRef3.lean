/- The reference's Effective: the walk. -/
import Derived.Test.YtbcldkbacdnpiaaQuRef2
namespace Go.Proofs.Ytbcldkbacdnpiaa
open Go.RowKit Go.Maps Go.WideShapes Qu
theorem chase_stop {f : ByteArray → U} {n : Nat} {seen : List ByteArray} {y : ByteArray} (h : y = ⟨#[]⟩ ∨ y ∈ seen ∨ (f y).m = false) : chase f n seen y = 0 := by
  cases n with
  | zero => rfl
  | succ n => unfold chase; rw [if_pos h]
theorem chase_hit {f : ByteArray → U} {n : Nat} {seen : List ByteArray} {y : ByteArray} (h : ¬ (y = ⟨#[]⟩ ∨ y ∈ seen ∨ (f y).m = false)) (hd : (f y).d ≠ 0) : chase f (n + 1) seen y = (f y).d := by
  unfold chase; rw [if_neg h, if_pos hd]
theorem chase_next {f : ByteArray → U} {n : Nat} {seen : List ByteArray} {y : ByteArray} (h : ¬ (y = ⟨#[]⟩ ∨ y ∈ seen ∨ (f y).m = false)) (hd : (f y).d = 0) : chase f (n + 1) seen y = chase f n (y :: seen) (f y).t := by
  conv => lhs; unfold chase
  rw [if_neg h, if_neg (by simp [hd])]
theorem vote_chase {r : Room} {n : Nat} (h : Made r n) {k : ByteArray} (hd : (r.of k).d = 0) (hm : (r.of k).m = true) : r.vote k = chase r.of (n + 1) [k] (r.of k).t := by
  unfold Room.vote
  rw [if_neg (by simp [hd, hm])]
  exact chase_fuel r.of r.keys (fun k hk => h.fine.mod k hk) _ _ _ _ (Nat.lt_succ_of_le (List.length_filter_le _ _)) (Nat.lt_succ_of_le (Nat.le_trans (List.length_filter_le _ _) h.keys))
theorem own_str_lit {w : World} {base g : Nat} {u : ByteArray} (hg : w.heap[g]? = some (.cells #[.string u] 9 (0, 0))) (hb : base ≤ g) :
    Own w base 9 1 (.slice (some ⟨g, 0, none⟩) 1 1) [u].length ([u].map Value.string) :=
  ⟨rfl, .inr ⟨g, 1, _, _, rfl, hb, hg, .inl (Nat.zero_le _), Nat.le_refl _, by unfold maxLen; omega, rfl, rfl⟩⟩
/-- the relation of the loop -/
structure Eff (w wr : World) (f : ByteArray → U) (V : Int) (len n : Nat) (v6 : Value) (x : ByteArray) (sn : List ByteArray) : Prop where
  b : Below w.heap.size w wr
  own : Own wr w.heap.size 9 1 v6 sn.length (sn.map Value.string)
  size : sn.length = n + 1
  run : ∃ sc, (∀ k, k ∈ sn ↔ k ∈ sc) ∧ V = chase f (len + 1 - n) sc (f x).t
set_option maxHeartbeats 2000000 in
theorem ref_effective_any (l : List Ev) (p : Option Addr) (cap : Nat) (u : ByteArray) (w : World) (hl : EvsAt w p l) (hlen : l.length ≤ 900) (hcap : l.length ≤ cap) :
    Calls Try.prog 21 #[.slice p l.length cap, .string u] w fun x w' => x = .returned (.int .i64 ((Qu.after l).vote u)) ∧ Below w.heap.size w w' := by
  have HL := Lib.hid hl
  obtain ⟨R, hR⟩ : ∃ R, R = Qu.after l := ⟨_, rfl⟩
  have HMd : Hid (Made R l.length) := Lib.hid (by rw [hR]; exact made_after hl.okAll)
  rw [← hR]
  have HR := Lib.hid hR
  clear hl hR
  obtain ⟨V, hV⟩ : ∃ V, R.vote u = V := ⟨_, rfl⟩
  rw [hV]
  have HV := Lib.hid hV
  clear hV
  have hDi := fun W (h : EvsAt W p l) (x : ByteArray) => ref_direct_any l p l.length cap x W h rfl (by omega) hcap
  have hTo := fun W (h : EvsAt W p l) (x : ByteArray) => ref_to_any l p l.length cap x W h rfl (by omega) hcap
  have hMy := fun W (h : EvsAt W p l) (x : ByteArray) => ref_moderator_any l p l.length cap x W h rfl (by omega)
  rw [← HR.out] at hDi hTo hMy
  have HDI := Lib.hid hDi; have HTO := Lib.hid hTo; have HMY := Lib.hid hMy
  have hd1 := hDi w HL.out u
  have hm1 := hMy w HL.out u
  clear hDi hTo hMy
  obtain ⟨d, hd⟩ : ∃ d, (R.of u).d = d := ⟨_, rfl⟩
  obtain ⟨m, hm⟩ : ∃ m, (R.of u).m = m := ⟨_, rfl⟩
  rw [hd] at hd1
  rw [hm] at hm1
  have HD := Lib.hid hd; have HM := Lib.hid hm
  clear hd hm
  by_cases hd0 : d = 0
  · subst hd0
    cases m
    · have hV0 : V = 0 := by rw [← HV.out, vote_quiet HD.out HM.out]
      subst hV0
      go_enter Try.func21, Try.ntmps21
      go_wp2_with fail
      refine hd1.mono ?_
      rintro x w' ⟨rfl, rfl⟩
      go_wp2_with fail
      refine hm1.mono ?_
      rintro x w' ⟨rfl, rfl⟩
      go_wp2
      go_ret
      exact ⟨rfl, Below.refl _ _⟩
    · have HVC : Hid (V = chase R.of (l.length + 1) [u] (R.of u).t) := Lib.hid (by rw [← HV.out]; exact vote_chase HMd.out HD.out HM.out)
      go_enter Try.func21, Try.ntmps21
      go_wp2_with fail
      refine hd1.mono ?_
      rintro x w' ⟨rfl, rfl⟩
      go_wp2_with fail
      refine hm1.mono ?_
      rintro x w' ⟨rfl, rfl⟩
      go_wp2_with fail
      go_loopw [6, 7, 8] (fun v6 x i wr => ∃ (n : Nat) (y : ByteArray) (sn : List ByteArray), n ≤ l.length + 1 ∧ i = .int .i64 n ∧ x = .string y ∧ Eff w wr R.of V l.length n v6 y sn) (fun _ _ i _ => l.length + 1 - (intOf i).toNat)
      case atStart => exact ⟨0, u, [u], by omega, rfl, rfl, ⟨(Below.refl _ _).alloc (Nat.le_refl _) _, own_str_lit (heap_alloc_new _ _) (Nat.le_refl _), rfl, [u], fun _ => Iff.rfl, HVC.out⟩⟩
      case round =>
        obtain ⟨n, x, sn, hn, rfl, rfl, he⟩ := hrel
        have HE := Lib.hid he
        obtain ⟨ps, cs, hv6, hss⟩ := own_strs he.own
        have HSS := Lib.hid hss
        have hsl := he.size
        obtain ⟨sc, hsc, hrun⟩ := he.run
        have HSC := Lib.hid hsc; have HRUN := Lib.hid hrun
        have HSL : Hid (sn.length = n + 1) := Lib.hid hsl
        have hsl2 : sn.length ≤ n + 1 := by omega
        clear he hss hsl hsc hrun hd1 hm1
        subst hv6
        by_cases hlt : n ≤ l.length
        · have e1 : EvsAt wr p l := HL.out.below HE.out.b (Nat.le_refl _)
          have hT := HTO.out wr e1 x
          obtain ⟨y, hy⟩ : ∃ y, (R.of x).t = y := ⟨_, rfl⟩
          have hrun2 := HRUN.out
          obtain ⟨q, hq⟩ : ∃ q, l.length + 1 - n = q + 1 := ⟨l.length - n, by omega⟩
          rw [hq, hy] at hrun2
          rw [hy] at hT
          have hM := HMY.out wr e1 y
          have hD := HDI.out wr e1 y
          have hI := ref_in_any sn ps cs y wr HSS.out (by omega)
          have HRUN2 := Lib.hid hrun2
          have HQ := Lib.hid hq
          have E1 := Lib.hid e1
          clear hrun2 hq hy e1
          by_cases c0 : y = ⟨#[]⟩
          · have hV0 : V = 0 := by rw [HRUN2.out, chase_stop (.inl c0)]
            subst hV0 c0
            go_wp2_with fail
            refine hT.mono ?_
            rintro e w' ⟨rfl, rfl⟩
            go_wp2
            go_ret
            exact ⟨rfl, HE.out.b⟩
          · obtain ⟨n1, n2⟩ := nonempty c0
            have C0 := Lib.hid c0
            clear c0
            cases hin : decide (y ∈ sn)
            · rw [hin] at hI
              have HIN := Lib.hid hin
              clear hin
              cases hmy : (R.of y).m
              · have hV0 : V = 0 := by rw [HRUN2.out, chase_stop (.inr (.inr hmy))]
                subst hV0
                rw [hmy] at hM
                clear hmy
                go_wp2_with fail
                refine hT.mono ?_
                rintro e w' ⟨rfl, rfl⟩
                go_wp2_with fail
                refine hI.mono ?_
                rintro e w' ⟨rfl, rfl⟩
                go_wp2_with fail
                refine hM.mono ?_
                rintro e w' ⟨rfl, rfl⟩
                go_wp2
                go_ret
                exact ⟨rfl, HE.out.b⟩
              · have hno : ¬ (y = ⟨#[]⟩ ∨ y ∈ sc ∨ (R.of y).m = false) := by
                  rintro (h | h | h)
                  · exact C0.out h
                  · exact decide_eq_false_iff_not.1 HIN.out ((HSC.out y).2 h)
                  · rw [hmy] at h; cases h
                rw [hmy] at hM
                clear hmy
                have HNO := Lib.hid hno
                clear hno
                obtain ⟨dy, hdy⟩ : ∃ dy, (R.of y).d = dy := ⟨_, rfl⟩
                rw [hdy] at hD
                have HDY := Lib.hid hdy
                clear hdy
                by_cases hz : dy = 0
                · subst hz
                  obtain ⟨SN, hSN⟩ : ∃ SN, SN = sn ++ [y] := ⟨_, rfl⟩
                  have HSN := Lib.hid hSN
                  clear hSN
                  go_wp2_with fail
                  refine hT.mono ?_
                  rintro e w' ⟨rfl, rfl⟩
                  go_wp2_with fail
                  refine hI.mono ?_
                  rintro e w' ⟨rfl, rfl⟩
                  go_wp2_with fail
                  refine hM.mono ?_
                  rintro e w' ⟨rfl, rfl⟩
                  go_wp2_with fail
                  refine hD.mono ?_
                  rintro e w' ⟨rfl, rfl⟩
                  go_wp2_with (at_builtin; refine wpList_append_str1 rfl _ _ rfl w.heap.size _ sn y rfl (HE.out.own.alloc _) wr.heap.size rfl (heap_alloc_new wr _) (by omega) (by have := HE.out.b.size; simp; omega) SN HSN ?_; intro p7 k7 wn hoN hgN; have bN := (HE.out.b.alloc HE.out.b.size (.cells #[.string y] 9)).trans (below_row hgN (fun g hg => (HE.out.own.block_ge g hg).1) (by have := HE.out.b.size; simp; omega)); have HON := Lib.hid hoN; have HBN := Lib.hid bN; clear hoN hgN bN)
                  go_roundw
                  case rel =>
                    refine ⟨n + 1, y, SN, by omega, by go_num, rfl, ⟨HBN.out, HON.out, by rw [HSN.out, List.length_append, HSL.out]; rfl, y :: sc, fun k => ?_, ?_⟩⟩
                    · rw [HSN.out]
                      simp only [List.mem_append, List.mem_cons, List.not_mem_nil, or_false, HSC.out k]
                      exact Or.comm
                    · rw [HRUN2.out, chase_next HNO.out HDY.out]
                      congr 1
                      have := HQ.out
                      omega
                  case measure => simp [intOf]; omega
                · have hVd : V = dy := by rw [HRUN2.out, chase_hit HNO.out (by rw [HDY.out]; exact hz), HDY.out]
                  subst hVd
                  have hz2 : (V != 0) = true := by simpa using hz
                  go_wp2_with fail
                  refine hT.mono ?_
                  rintro e w' ⟨rfl, rfl⟩
                  go_wp2_with fail
                  refine hI.mono ?_
                  rintro e w' ⟨rfl, rfl⟩
                  go_wp2_with fail
                  refine hM.mono ?_
                  rintro e w' ⟨rfl, rfl⟩
                  go_wp2_with fail
                  refine hD.mono ?_
                  rintro e w' ⟨rfl, rfl⟩
                  go_wp2
                  go_ret
                  exact ⟨rfl, HE.out.b⟩
            · have hV0 : V = 0 := by rw [HRUN2.out, chase_stop (.inr (.inl ((HSC.out y).1 (of_decide_eq_true hin))))]
              subst hV0
              rw [hin] at hI
              clear hin
              go_wp2_with fail
              refine hT.mono ?_
              rintro e w' ⟨rfl, rfl⟩
              go_wp2_with fail
              refine hI.mono ?_
              rintro e w' ⟨rfl, rfl⟩
              go_wp2
              go_ret
              exact ⟨rfl, HE.out.b⟩
        · obtain rfl : n = l.length + 1 := by omega
          have hV0 : V = 0 := by rw [HRUN.out, Nat.sub_self]; rfl
          subst hV0
          go_wp2
          go_ret
          exact ⟨rfl, HE.out.b⟩
  · have hV1 : V = d := by rw [← HV.out, vote_direct (.inl (by rw [HD.out]; exact hd0)), HD.out]
    subst hV1
    have hz : (V != 0) = true := by simpa using hd0
    clear hd0
    go_enter Try.func21, Try.ntmps21
    go_wp2_with fail
    refine hd1.mono ?_
    rintro x w' ⟨rfl, rfl⟩
    go_wp2
    go_ret
    exact ⟨rfl, Below.refl _ _⟩
end Go.Proofs.Ytbcldkbacdnpiaa
