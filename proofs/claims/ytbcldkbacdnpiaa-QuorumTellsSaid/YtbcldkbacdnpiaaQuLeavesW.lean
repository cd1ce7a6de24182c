/- QuorumLeaves: the walk. -/
import Derived.Test.YtbcldkbacdnpiaaQuRef
import Derived.Test.YtbcldkbacdnpiaaQuLeaves0
namespace Go.Proofs.Ytbcldkbacdnpiaa
open Go.RowKit Go.Maps Go.WideShapes Qu
theorem strlen_le (l : List ByteArray) (h : l.length ≤ 1000) : (l.length : Int) ≤ 1000 := by omega
theorem mods_len {l : List Ev} (h : Made (Qu.after l) l.length) : (modsB (Qu.after l)).length ≤ l.length := by
  rw [(modsB_perm _).length_eq]
  exact Nat.le_trans (List.length_filter_le _ _) h.keys
theorem take_mem_snoc {α : Type} (l : List α) (k : Nat) (h : k < l.length) : l.take (k + 1) = l.take k ++ [l[k]] := by
  rw [List.take_succ_eq_append_getElem h]
/-- what stays as the walk goes on -/
structure Sle (w X : World) (p : Option Addr) (l : List Ev) : Prop where
  e1 : EvsAt X p l
  b : Below w.heap.size w X
theorem Sle.step {w X Y : World} {p : Option Addr} {l : List Ev} (h : Sle w X p l) (hb : Below X.heap.size X Y) : Sle w Y p l :=
  ⟨h.e1.below hb (Nat.le_refl _), h.b.trans (hb.mono h.b.size)⟩
set_option maxRecDepth 100000 in
set_option maxHeartbeats 8000000 in
theorem leaves_walk (l : List Ev) (p : Option Addr) (cap : Nat) (user other name : ByteArray) (w : World) (h1 : EvsAt w p l) (hcap : l.length ≤ cap) (hcm : cap ≤ maxLen) (hu : user.size ≤ maxLen) (ho : other.size ≤ maxLen) (hn : name.size ≤ maxLen) :
    Calls Try.prog 8 #[.slice p l.length cap, .string user, .string other, .string name] w fun x w' => x = .returned (.bool true) ∧ Below w.heap.size w w' := by
  have S0 : Hid (Sle w w p l) := Lib.hid ⟨h1, Below.refl _ _⟩
  have HS := small_any w
  have hok := h1.okAll
  have HOK := Lib.hid hok
  clear h1 hok
  by_cases c1 : 30 < l.length
  · go_enter Try.func8, Try.ntmps8
    go_wp2_with fail
    refine HS.mono ?_
    rintro e w1 ⟨rfl, b⟩
    have S1 := Lib.hid (S0.out.step b)
    clear b HS S0
    go_wp2_with fail
    refine (few_no p l.length cap w1 (Nat.le_trans hcap hcm) (by omega)).mono ?_
    rintro e w' ⟨rfl, rfl⟩
    go_wp2
    go_ret
    exact ⟨rfl, S1.out.b⟩
  -- the room
  obtain ⟨R, hR⟩ : ∃ R, R = Qu.after l := ⟨_, rfl⟩
  have HMd : Hid (Made R l.length) := Lib.hid (by rw [hR]; exact made_after HOK.out)
  have HR := Lib.hid hR
  clear hR
  obtain ⟨ms, hms⟩ : ∃ ms, ms = modsB R := ⟨_, rfl⟩
  have HMS := Lib.hid hms
  have hml : ms.length ≤ l.length := by rw [hms, HR.out]; exact mods_len (by rw [← HR.out]; exact HMd.out)
  clear hms
  obtain ⟨md, hmd⟩ : ∃ md, md = (R.of user).m := ⟨_, rfl⟩
  have HMDu : Hid (decide (user ∈ ms) = md) := Lib.hid (by
    rw [hmd, HMS.out, Bool.eq_iff_iff, decide_eq_true_eq]; exact mem_modsB HMd.out.fine user)
  have HMd2 := Lib.hid hmd
  clear hmd
  obtain ⟨y0, hy0⟩ : ∃ y, y = R.votes 1 := ⟨_, rfl⟩
  obtain ⟨n0, hn0⟩ : ∃ y, y = R.votes (-1) := ⟨_, rfl⟩
  obtain ⟨d, hd⟩ : ∃ d, d = (R.of user).d := ⟨_, rfl⟩
  obtain ⟨dO, hdO⟩ : ∃ d, d = (R.of other).d := ⟨_, rfl⟩
  obtain ⟨vO, hvO⟩ : ∃ v, v = R.vote other := ⟨_, rfl⟩
  have HY0 := Lib.hid hy0; have HN0 := Lib.hid hn0; have HD := Lib.hid hd; have HDO := Lib.hid hdO; have HVO := Lib.hid hvO
  clear hy0 hn0 hd hdO hvO
  have hnil : (⟨#[]⟩ : ByteArray).size ≤ maxLen := by decide
  obtain ⟨G, hG⟩ : ∃ G, G = l ++ [(⟨0, 1, user, ⟨#[]⟩⟩ : Ev)] := ⟨_, rfl⟩
  obtain ⟨K, hK⟩ : ∃ K, K = G ++ [(⟨0, 0, user, ⟨#[]⟩⟩ : Ev)] := ⟨_, rfl⟩
  obtain ⟨T, hT⟩ : ∃ T, T = l ++ [(⟨0, 2, user, name⟩ : Ev)] := ⟨_, rfl⟩
  have HG := Lib.hid hG; have HK := Lib.hid hK; have HT := Lib.hid hT
  have hGl : G.length ≤ 31 := by rw [hG, List.length_append]; simp only [List.length_cons, List.length_nil]; omega
  have hKl : K.length ≤ 32 := by rw [hK, List.length_append]; simp only [List.length_cons, List.length_nil]; omega
  have hTl : T.length ≤ 31 := by rw [hT, List.length_append]; simp only [List.length_cons, List.length_nil]; omega
  have HGok : Hid (∀ e ∈ G, EvOk e) := Lib.hid (by rw [hG]; exact ok_app HOK.out (fun e he => by simp at he; rw [he]; exact ⟨hu, hnil⟩))
  have HKok : Hid (∀ e ∈ K, EvOk e) := Lib.hid (by rw [hK]; exact ok_app HGok.out (fun e he => by simp at he; rw [he]; exact ⟨hu, hnil⟩))
  have HTok : Hid (∀ e ∈ T, EvOk e) := Lib.hid (by rw [hT]; exact ok_app HOK.out (fun e he => by simp at he; rw [he]; exact ⟨hu, hn⟩))
  clear hG hK hT
  -- what the law leans on
  have HV1 : Hid ((Qu.after G).vote user = d) := Lib.hid (by rw [HG.out, after_snoc', ← HR.out, gone_user (e := ⟨0, 1, user, ⟨#[]⟩⟩) rfl, HD.out])
  have HV2 : Hid (dO ≠ 0 → (Qu.after G).vote other = vO) := Lib.hid (fun h => by rw [HG.out, after_snoc', ← HR.out, gone_direct (e := ⟨0, 1, user, ⟨#[]⟩⟩) rfl (by rw [← HDO.out]; exact h), HVO.out])
  have HKof : Hid (md = true → (Qu.after K).of = R.of) := Lib.hid (fun h => by
    rw [HK.out, after_snoc', HG.out, after_snoc', ← HR.out]
    exact back_same (e := ⟨0, 1, user, ⟨#[]⟩⟩) (e' := ⟨0, 0, user, ⟨#[]⟩⟩) rfl rfl rfl (by rw [← HMd2.out]; exact h))
  have HKf : Hid (Made (Qu.after K) K.length) := Lib.hid (made_after HKok.out)
  have HK1 : Hid (md = true → (Qu.after K).votes 1 = y0) := Lib.hid (fun h => by rw [votes_of HKf.out.fine HMd.out.fine (HKof.out h) 1 (by decide), HY0.out])
  have HK2 : Hid (md = true → (Qu.after K).votes (-1) = n0) := Lib.hid (fun h => by rw [votes_of HKf.out.fine HMd.out.fine (HKof.out h) (-1) (by decide), HN0.out])
  have HK3 : Hid (md = true → (Qu.after K).vote other = vO) := Lib.hid (fun h => by rw [vote_of HKf.out.fine HMd.out.fine (HKof.out h), HVO.out])
  have HTv : Hid (d ≠ 0 ∨ md = false → ∀ v : Int, v ≠ 0 → (Qu.after T).votes v = R.votes v) := Lib.hid (fun h v hv => by
    rw [HT.out, after_snoc', ← HR.out]
    exact votes_congr (HMd.out.fine.apply _) HMd.out.fine (with_same HMd.out.fine (e := ⟨0, 2, user, name⟩) rfl (by rw [← HD.out, ← HMd2.out]; exact h)) v hv)
  go_enter Try.func8, Try.ntmps8
  go_wp2_with fail
  refine HS.mono ?_
  rintro e w1 ⟨rfl, b⟩
  have S1 := Lib.hid (S0.out.step b)
  clear b HS S0
  go_wp2_with fail
  refine (few_yes p l.length cap w1 (by omega)).mono ?_
  rintro e w' ⟨rfl, rfl⟩
  go_wp2_with fail
  have hMo := moderators_any l p cap w1 S1.out.e1 (by omega)
  rw [← HR.out, ← HMS.out] at hMo
  refine hMo.mono ?_
  rintro e w2 ⟨pm, km, rfl, hst, _, _, b⟩
  have S2 := Lib.hid (S1.out.step b)
  have HST := Lib.hid hst
  clear b S1 hMo hst
  go_wp2_with fail
  go_loop [10, 12] (fun b i => ∃ k : Nat, k ≤ ms.length ∧ i = .int .i64 k ∧ b = .bool (decide (user ∈ ms.take k))) (fun _ i => ms.length - (intOf i).toNat)
  case atStart => exact ⟨0, Nat.zero_le _, rfl, by simp⟩
  case round =>
    obtain ⟨k, hk, rfl, rfl⟩ := hrel
    by_cases hlt : k < ms.length
    · obtain ⟨ab, ao, rfl, hrow⟩ : ∃ b o, pm = some ⟨b, o, none⟩ ∧ StrRow w2 b o ms := HST.out.resolve_left (fun e => by simp [e] at hlt)
      have c0 := hrow.cell k hlt
      have hadd : (⟨ab, ao, none⟩ : Addr).add k = ⟨ab, ao + k, none⟩ := add_plain _ _ _
      have ht : decide (user ∈ ms.take (k + 1)) = (decide (user ∈ ms.take k) || decide (ms[k] = user)) := by
        rw [take_mem_snoc ms k hlt]
        simp only [List.mem_append, List.mem_singleton, Bool.decide_or, eq_comm]
      obtain ⟨m, hm⟩ : ∃ m, ms[k] = m := ⟨_, rfl⟩
      rw [hm] at c0 ht
      have HTk := Lib.hid ht
      clear ht hrow hm
      cases hb : decide (user ∈ ms.take k)
      · have HB := Lib.hid hb
        by_cases he : m.toList = user.toList
        · clear hb
          go_wp2_with fail
          all_goals
            go_round
            case rel => exact ⟨k + 1, by omega, by go_num, by rw [HTk.out, HB.out, decide_eq_true (str_eq he).symm]; rfl⟩
            case measure => simp [intOf]; omega
        · clear hb
          go_wp2_with fail
          all_goals
            go_round
            case rel => exact ⟨k + 1, by omega, by go_num, by rw [HTk.out, HB.out, decide_eq_false (fun c => str_ne he c.symm)]; first | rfl | simp [he]⟩
            case measure => simp [intOf]; omega
      · have HB := Lib.hid hb
        clear hb
        go_wp2_with fail
        all_goals
          go_round
          case rel => exact ⟨k + 1, by omega, by go_num, by rw [HTk.out, HB.out]; rfl⟩
          case measure => simp [intOf]; omega
    · obtain rfl : k = ms.length := by omega
      rw [List.take_length, HMDu.out]
      clear HST
      go_wp2_with fail
      have hC := quorum_count_any l p cap w2 S2.out.e1 (by omega)
      rw [← HR.out, ← HY0.out, ← HN0.out] at hC
      refine hC.mono ?_
      rintro e w3 ⟨rfl, b⟩
      have S3 := Lib.hid (S2.out.step b)
      clear b S2 hC
      go_wp2_with fail
      have hDi := ref_direct_any l p l.length cap user w3 S3.out.e1 rfl (by omega) hcap
      rw [← HR.out, ← HD.out] at hDi
      refine hDi.mono ?_
      rintro e w' ⟨rfl, rfl⟩
      clear hDi
      have ho1 := own_lit (w := w3.alloc (.cells #[] 31)) (base := w3.heap.size) (g := w3.heap.size) (l := []) (heap_alloc_new _ _) (Nat.le_refl _) (by decide)
      have hE1 := S3.out.e1.below ((Below.refl w3.heap.size w3).alloc (Nat.le_refl _) (.cells #[] 31)) (Nat.le_refl _)
      have hevok : ∀ e ∈ [(⟨0, 1, user, ⟨#[]⟩⟩ : Ev)], EvOk e := fun e he => by simp at he; rw [he]; exact ⟨hu, hnil⟩
      go_wp2_with (first | (have := ho2; at_builtin; refine wpList_append_any rfl _ _ rfl w3.heap.size _ l [(⟨0, 1, user, ⟨#[]⟩⟩ : Ev)] rfl (ho2.alloc _) (some ⟨xw4.heap.size, 0, none⟩) 1 rfl (.inr ⟨_, _, rfl, row_lit (l := [(⟨0, 1, user, ⟨#[]⟩⟩ : Ev)]) (heap_alloc_new xw4 _) hevok⟩) (by simp only [List.length_cons, List.length_nil]; omega) (by have := bX.size; simp; omega) G HG ?_; intro p4 k4 w4 hoN hgN _; have bN := (bX.alloc bX.size (.cells (evcs [(⟨0, 1, user, ⟨#[]⟩⟩ : Ev)]).toArray 31)).trans (below_row hgN (fun g hg => (ho2.block_ge g hg).1) (by have := bX.size; simp; omega)); have EN := Lib.hid (own_evs hoN HGok.out); clear ho2 hoN hgN) | (at_builtin; refine wpList_append_any rfl _ _ rfl w3.heap.size _ [] l rfl ho1 p cap rfl hE1 (by simp only [List.length_nil]; omega) (by simp) l (Lib.hid rfl) ?_; intro pX kX xw4 ho2 hgX _; have bX := below_one hgX (Nat.le_refl _); clear ho1 hE1 hgX))
      have S4 := Lib.hid (S3.out.step bN)
      have EG4 := EN
      have hbx := bX
      clear bN hbx bX S3 EN
      have hE := effective_any G p4 k4 user w4 EG4.out (by omega) hu
      rw [HV1.out] at hE
      refine hE.mono ?_
      rintro e w5 ⟨rfl, b⟩
      have S5 := Lib.hid (S4.out.step b)
      have EG5 := Lib.hid (EG4.out.below b (Nat.le_refl _))
      clear b S4 EG4 hE
      go_wp2_with fail
      have hDi := ref_direct_any l p l.length cap other w5 S5.out.e1 rfl (by omega) hcap
      rw [← HR.out, ← HDO.out] at hDi
      refine hDi.mono ?_
      rintro e w' ⟨rfl, rfl⟩
      clear hDi
      by_cases hz : dO = 0
      all_goals
        first
        | (have e0 : (dO != 0) = false := by simpa using hz
           go_upto_region 15 with fail
           clear hz e0
           obtain ⟨w7, rfl⟩ : ∃ w7 : World, w7 = w5 := ⟨_, rfl⟩
           have S7 := S5
           have EG7 := EG5)
        | (have e0 : (dO != 0) = true := by simpa using hz
           have hV2 := HV2.out hz
           have hE := effective_any G p4 k4 other w5 EG5.out (by omega) ho
           rw [hV2] at hE
           clear hV2 hz
           go_wp2_with fail
           refine hE.mono ?_
           rintro e w6 ⟨rfl, b⟩
           have S6 := Lib.hid (S5.out.step b)
           have EG6 := Lib.hid (EG5.out.below b (Nat.le_refl _))
           clear b hE
           go_wp2_with fail
           have hE := effective_any l p cap other w6 S6.out.e1 (by omega) ho
           rw [← HR.out, ← HVO.out] at hE
           refine hE.mono ?_
           rintro e w7 ⟨rfl, b⟩
           have S7 := Lib.hid (S6.out.step b)
           have EG7 := Lib.hid (EG6.out.below b (Nat.le_refl _))
           clear b hE S6 EG6 e0
           go_upto_region 15 with fail)
      all_goals
        clear S5 EG5
        have ho1 := own_lit (w := w7.alloc (.cells #[] 31)) (base := w7.heap.size) (g := w7.heap.size) (l := []) (heap_alloc_new _ _) (Nat.le_refl _) (by decide)
        have hE1 := EG7.out.below ((Below.refl w7.heap.size w7).alloc (Nat.le_refl _) (.cells #[] 31)) (Nat.le_refl _)
        have hevok : ∀ e ∈ [(⟨0, 0, user, ⟨#[]⟩⟩ : Ev)], EvOk e := fun e he => by simp at he; rw [he]; exact ⟨hu, hnil⟩
        go_wp2_with (first | (have := ho2; at_builtin; refine wpList_append_any rfl _ _ rfl w7.heap.size _ G [(⟨0, 0, user, ⟨#[]⟩⟩ : Ev)] rfl (ho2.alloc _) (some ⟨xw8.heap.size, 0, none⟩) 1 rfl (.inr ⟨_, _, rfl, row_lit (l := [(⟨0, 0, user, ⟨#[]⟩⟩ : Ev)]) (heap_alloc_new xw8 _) hevok⟩) (by simp only [List.length_cons, List.length_nil]; omega) (by have := bX.size; simp; omega) K HK ?_; intro p8 k8 w8 hoN hgN _; have bN := (bX.alloc bX.size (.cells (evcs [(⟨0, 0, user, ⟨#[]⟩⟩ : Ev)]).toArray 31)).trans (below_row hgN (fun g hg => (ho2.block_ge g hg).1) (by have := bX.size; simp; omega)); have EN := Lib.hid (own_evs hoN HKok.out); clear ho2 hoN hgN) | (at_builtin; refine wpList_append_any rfl _ _ rfl w7.heap.size _ [] G rfl ho1 p4 k4 rfl hE1 (by simp only [List.length_nil]; omega) (by simp) G (Lib.hid rfl) ?_; intro pX kX xw8 ho2 hgX _; have bX := below_one hgX (Nat.le_refl _); clear ho1 hE1 hgX))
        have S8 := Lib.hid (S7.out.step bN)
        have EK8 := EN
        have hbx := bX
        clear bN hbx bX S7 EG7 EN
        have hC := quorum_count_any K p8 k8 w8 EK8.out (by omega)
        refine hC.mono ?_
        rintro e w9 ⟨rfl, b⟩
        have S9 := Lib.hid (S8.out.step b)
        have EK9 := Lib.hid (EK8.out.below b (Nat.le_refl _))
        clear b S8 EK8 hC
        obtain ⟨ka, hka⟩ : ∃ ka, (Qu.after K).votes 1 = ka := ⟨_, rfl⟩
        obtain ⟨kb, hkb⟩ : ∃ kb, (Qu.after K).votes (-1) = kb := ⟨_, rfl⟩
        rw [hka, hkb]
        have HKA := Lib.hid hka; have HKB := Lib.hid hkb
        clear hka hkb
        obtain ⟨mdv, hmdv⟩ : ∃ m, m = md := ⟨_, rfl⟩
        have HTa : Hid (mdv = false → (Qu.after T).votes 1 = y0 ∧ (Qu.after T).votes (-1) = n0) := Lib.hid (fun h => by
          have h' : d ≠ 0 ∨ md = false := .inr (hmdv ▸ h)
          exact ⟨by rw [HTv.out h' 1 (by decide), HY0.out], by rw [HTv.out h' (-1) (by decide), HN0.out]⟩)
        have HTb : Hid (d ≠ 0 → (Qu.after T).votes 1 = y0 ∧ (Qu.after T).votes (-1) = n0) := Lib.hid (fun h => by
          exact ⟨by rw [HTv.out (.inl h) 1 (by decide), HY0.out], by rw [HTv.out (.inl h) (-1) (by decide), HN0.out]⟩)
        have HMV := Lib.hid hmdv
        clear hmdv
        cases md
        all_goals
          first
          | (have hk1 := HK1.out rfl
             have hk2 := HK2.out rfl
             have hk3 := HK3.out rfl
             rw [HKA.out] at hk1
             rw [HKB.out] at hk2
             subst hk1 hk2
             go_wp2_with fail
             have hE := effective_any K p8 k8 other w9 EK9.out (by omega) ho
             rw [hk3] at hE
             clear hk3
             refine hE.mono ?_
             rintro e wa ⟨rfl, b⟩
             have Sa := Lib.hid (S9.out.step b)
             clear b hE
             go_wp2_with fail
             have hE := effective_any l p cap other wa Sa.out.e1 (by omega) ho
             rw [← HR.out, ← HVO.out] at hE
             refine hE.mono ?_
             rintro e wb ⟨rfl, b⟩
             have Sb := Lib.hid (Sa.out.step b)
             clear b hE Sa
             go_upto_region 19 with fail)
          | (go_upto_region 19 with fail
             obtain ⟨wb, rfl⟩ : ∃ wb : World, wb = w9 := ⟨_, rfl⟩
             have Sb := S9)
        all_goals
          clear S9 EK9
          have ho1 := own_lit (w := wb.alloc (.cells #[] 31)) (base := wb.heap.size) (g := wb.heap.size) (l := []) (heap_alloc_new _ _) (Nat.le_refl _) (by decide)
          have hE1 := Sb.out.e1.below ((Below.refl wb.heap.size wb).alloc (Nat.le_refl _) (.cells #[] 31)) (Nat.le_refl _)
          have hevok : ∀ e ∈ [(⟨0, 2, user, name⟩ : Ev)], EvOk e := fun e he => by simp at he; rw [he]; exact ⟨hu, hn⟩
          go_wp2_with (first | (have := ho2; at_builtin; refine wpList_append_any rfl _ _ rfl wb.heap.size _ l [(⟨0, 2, user, name⟩ : Ev)] rfl (ho2.alloc _) (some ⟨xwc.heap.size, 0, none⟩) 1 rfl (.inr ⟨_, _, rfl, row_lit (l := [(⟨0, 2, user, name⟩ : Ev)]) (heap_alloc_new xwc _) hevok⟩) (by simp only [List.length_cons, List.length_nil]; omega) (by have := bX.size; simp; omega) T HT ?_; intro pc kc wc hoN hgN _; have bN := (bX.alloc bX.size (.cells (evcs [(⟨0, 2, user, name⟩ : Ev)]).toArray 31)).trans (below_row hgN (fun g hg => (ho2.block_ge g hg).1) (by have := bX.size; simp; omega)); have EN := Lib.hid (own_evs hoN HTok.out); clear ho2 hoN hgN) | (at_builtin; refine wpList_append_any rfl _ _ rfl wb.heap.size _ [] l rfl ho1 p cap rfl hE1 (by simp only [List.length_nil]; omega) (by simp) l (Lib.hid rfl) ?_; intro pX kX xwc ho2 hgX _; have bX := below_one hgX (Nat.le_refl _); clear ho1 hE1 hgX))
          have Sc := Lib.hid (Sb.out.step bN)
          have ET := EN
          have hbx := bX
          clear bN hbx bX Sb EN
          have hC := quorum_count_any T pc kc wc ET.out (by omega)
          obtain ⟨ta, hta⟩ : ∃ ka, (Qu.after T).votes 1 = ka := ⟨_, rfl⟩
          obtain ⟨tb, htb⟩ : ∃ kb, (Qu.after T).votes (-1) = kb := ⟨_, rfl⟩
          rw [hta, htb] at hC
          have HTA := Lib.hid hta; have HTB := Lib.hid htb
          clear hta htb
          refine hC.mono ?_
          rintro e wd ⟨rfl, b⟩
          have Sd := Lib.hid (Sc.out.step b)
          clear b Sc ET hC
          by_cases hd0 : d = 0
          all_goals
            first
            | (have hT := HTa.out HMV.out
               obtain ⟨hT1, hT2⟩ := hT
               rw [HTA.out] at hT1
               rw [HTB.out] at hT2
               subst hT1 hT2
               clear hd0
               go_wp2
               all_goals
                 go_ret
                 exact ⟨rfl, Sd.out.b⟩)
            | (have hT := HTb.out hd0
               obtain ⟨hT1, hT2⟩ := hT
               rw [HTA.out] at hT1
               rw [HTB.out] at hT2
               subst hT1 hT2
               have e0 : (d == 0) = false := by simpa using hd0
               clear hd0
               go_wp2
               all_goals
                 go_ret
                 exact ⟨rfl, Sd.out.b⟩)
            | (have e0 : (d == 0) = true := by simpa using hd0
               clear hd0
               go_wp2
               all_goals
                 go_ret
                 exact ⟨rfl, Sd.out.b⟩)
end Go.Proofs.Ytbcldkbacdnpiaa
