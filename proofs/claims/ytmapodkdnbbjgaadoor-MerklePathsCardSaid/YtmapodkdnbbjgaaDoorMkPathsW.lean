/- MerklePaths: only, the walk. -/
import Derived.Test.YtmapodkdnbbjgaaDoorMkPaths0
namespace Go.Proofs.YtmapodkdnbbjgaaDoor
open Go.RowKit Mk Sl
set_option maxRecDepth 100000 in
set_option maxHeartbeats 4000000 in
theorem only_any (l p : List ByteArray) (i : Nat) (x : ByteArray) (v vp : Value) (w : World) (hv : SV w v l) (hp : SV w vp p) (hk : OKW w) (hl : l.length ≤ 70) (hi : i < l.length) (ha : All32 l) (hx : x.size ≤ 40) (sp : Short p 40) (lp : p.length ≤ 70) :
    Calls Tryd.prog 27 #[v, .int .i64 i, .string x, vp] w fun e w' => e = .returned (.bool true) ∧ Below w.heap.size w w' := by
  obtain ⟨pp, cap, rfl, _, _⟩ := hv.shape
  have HV := Lib.hid hv
  have HP := Lib.hid hp
  have HK := Lib.hid hk
  have SL : Short l 100000 := fun s hs => by rw [ha s hs]; omega
  have SP : Short p 100000 := fun s hs => Nat.le_trans (sp s hs) (by omega)
  have CP : Hid (∀ W, Below w.heap.size w W → Calls Tryd.prog 18 #[.slice pp l.length cap, .int .i64 i] W (Ret W (path l i))) := Lib.hid fun W hW => path_in l _ i W (HV.out.below hW (Nat.le_refl _)) (by omega) SL (HK.out.below hW) hi
  have CS : Hid (∀ W u, Below w.heap.size w W → SV W u (path l i) → Calls Tryd.prog 17 #[vp, u] W fun e w' => e = .returned (.bool (decide (p = path l i))) ∧ ∃ m, w' = W.drewN m) := Lib.hid fun W u hW hu => strings_any p (path l i) vp u W (HP.out.below hW (Nat.le_refl _)) hu
  have CR : Hid (∀ W, Below w.heap.size w W → Calls Tryd.prog 15 #[.slice pp l.length cap] W fun e w' => e = .returned (.string (root l)) ∧ Below W.heap.size W w') := Lib.hid fun W hW => root_any l _ W (by omega) SL (HV.out.below hW (Nat.le_refl _)) (HK.out.below hW)
  have CK : Hid (∀ W, Below w.heap.size w W → Calls Tryd.prog 22 #[.string (root l), .int .i64 l.length, .int .i64 i, .string x, vp] W fun e w' => e = .returned (.bool (check (root l) l.length i x p)) ∧ Below W.heap.size W w') := Lib.hid fun W hW => by
    have h := check_any (root l) x l.length i p vp W (HP.out.below hW (Nat.le_refl _)) (by omega) (by omega) (HK.out.below hW)
    unfold checkI at h
    rw [if_pos ⟨by omega, by omega⟩] at h
    simpa using h
  have CI : Hid (∀ W, Below w.heap.size w W → Calls Tryd.prog 28 #[.slice pp l.length cap] W (Ret W (inner l))) := Lib.hid fun W hW => rinner_any l _ W (by omega) (fun s hs => by rw [ha s hs]; omega) (HV.out.below hW (Nat.le_refl _))
  have CA : Hid (∀ W, Below w.heap.size w W → Calls Tryd.prog 42 #[.int .i64 l.length, .int .i64 i, .string x, vp] W (Ret W (along l.length i x p.reverse))) := Lib.hid fun W hW => ralong_any p l.length i x vp W (by omega) hi (by omega) (by omega) SP (HP.out.below hW (Nat.le_refl _))
  have hLaw : check (root l) l.length i x p = true → ¬ (x = l.getD i ⟨#[]⟩ ∧ p = path l i) → Clash (inner l ++ along l.length i x p.reverse) := only_law l i x p hi ha
  have hOwn : x = l.getD i ⟨#[]⟩ → p = path l i → check (root l) l.length i x p = true := fun h1 h2 => by rw [h1, h2]; exact check_own l i ha hi
  have lIN : (inner l).length ≤ 70 := Nat.le_trans (inner_len _ _ (Nat.le_refl _)) hl
  have sIN : Short (inner l) 65 := inner_short 32 (by omega) _ _ (Nat.le_refl _) (fun s hs => Nat.le_of_eq (ha s hs))
  have lAL : (along l.length i x p.reverse).length ≤ 70 := Nat.le_trans (along_len _ _ _ _) (by simpa using lp)
  have sAL : Short (along l.length i x p.reverse) 81 := along_size 40 (by omega) x hx p.reverse _ _ (fun s hs => sp s (by simpa using hs))
  obtain ⟨g, o, c, hpv, hg, _, _, hc⟩ := HV.out.row (by omega)
  simp only [Value.slice.injEq, true_and] at hpv
  obtain ⟨rfl, rfl⟩ := hpv
  have c0 := hc i hi
  obtain ⟨y, hy⟩ : ∃ y, l.getD i ⟨#[]⟩ = y := ⟨_, rfl⟩
  rw [hy] at c0 hLaw hOwn
  obtain ⟨P, hP⟩ : ∃ y, path l i = y := ⟨_, rfl⟩
  obtain ⟨R, hR⟩ : ∃ y, root l = y := ⟨_, rfl⟩
  obtain ⟨K, hK⟩ : ∃ y, check (root l) l.length i x p = y := ⟨_, rfl⟩
  obtain ⟨IN, hIN⟩ : ∃ y, inner l = y := ⟨_, rfl⟩
  obtain ⟨AL, hAL⟩ : ∃ y, along l.length i x p.reverse = y := ⟨_, rfl⟩
  rw [hK] at hLaw hOwn CK
  rw [hP] at CP CS hLaw hOwn
  rw [hR] at CR CK
  rw [hIN] at CI hLaw lIN sIN
  rw [hAL] at CA hLaw lAL sAL
  have HLaw := Lib.hid hLaw; have HOwn := Lib.hid hOwn
  have SIN := Lib.hid sIN; have SAL := Lib.hid sAL
  have HNum : Hid (IN.length + AL.length ≤ 1000000) := Lib.hid (by omega)
  have hlen : Hid ((IN ++ AL).length ≤ 100000) := Lib.hid (by simp; omega)
  clear hLaw hOwn sIN sAL hv hp hk ha sp lp SL SP hc hy hP hR hK hIN hAL lIN lAL

  have HB0 : Hid (Below w.heap.size w w) := Lib.hid (Below.refl _ _)
  by_cases hxy : x.toList = y.toList
  · have hb1 : (x.toList == y.toList) = true := by simp [hxy]
    have HXY : Hid (x = y) := Lib.hid (str_ext hxy)
    clear hxy
    by_cases hpp : p = P
    · have hdd : decide (p = P) = true := decide_eq_true hpp
      rw [hdd] at CS
      have HPP := Lib.hid hpp
      clear hpp hdd
      go_enter Tryd.func27, Tryd.ntmps27
      go_wp2_with fail
      refine (CP.out _ HB0.out).mono ?_
      rintro e w1 ⟨v1, rfl, ho, b1⟩
      have HB1 : Hid (Below w.heap.size w w1) := Lib.hid (HB0.out.trans b1)
      have HS1 := Lib.hid ho.sv
      clear ho b1
      go_wp2_with fail
      refine (CS.out _ _ HB1.out HS1.out).mono ?_
      rintro e w2 ⟨rfl, m2, rfl⟩
      have HB2 : Hid (Below w.heap.size w (w1.drewN m2)) := Lib.hid (below_drewN HB1.out m2)
      go_wp2_with fail
      refine (CR.out _ HB2.out).mono ?_
      rintro e wa ⟨rfl, b1⟩
      have HBa : Hid (Below w.heap.size w wa) := Lib.hid (HB2.out.trans (b1.mono HB2.out.size))
      clear b1
      have hKt : K = true := HOwn.out HXY.out HPP.out
      subst hKt
      go_wp2_with fail
      refine (CK.out _ HBa.out).mono ?_
      rintro e wb ⟨rfl, b1⟩
      have HBb : Hid (Below w.heap.size w wb) := Lib.hid (HBa.out.trans (b1.mono HBa.out.size))
      clear b1
      go_wp2
      go_ret
      exact ⟨rfl, HBb.out⟩
    · have hdd : decide (p = P) = false := decide_eq_false hpp
      rw [hdd] at CS
      have HPP := Lib.hid hpp
      clear hpp hdd
      go_enter Tryd.func27, Tryd.ntmps27
      go_wp2_with fail
      refine (CP.out _ HB0.out).mono ?_
      rintro e w1 ⟨v1, rfl, ho, b1⟩
      have HB1 : Hid (Below w.heap.size w w1) := Lib.hid (HB0.out.trans b1)
      have HS1 := Lib.hid ho.sv
      clear ho b1
      go_wp2_with fail
      refine (CS.out _ _ HB1.out HS1.out).mono ?_
      rintro e w2 ⟨rfl, m2, rfl⟩
      have HB2 : Hid (Below w.heap.size w (w1.drewN m2)) := Lib.hid (below_drewN HB1.out m2)
      go_wp2_with fail
      refine (CR.out _ HB2.out).mono ?_
      rintro e wa ⟨rfl, b1⟩
      have HBa : Hid (Below w.heap.size w wa) := Lib.hid (HB2.out.trans (b1.mono HB2.out.size))
      clear b1
      cases hKb : K with
      | false =>
        rw [hKb] at CK
        clear hKb
        go_wp2_with fail
        refine (CK.out _ HBa.out).mono ?_
        rintro e wb ⟨rfl, b1⟩
        have HBb : Hid (Below w.heap.size w wb) := Lib.hid (HBa.out.trans (b1.mono HBa.out.size))
        clear b1
        go_wp2
        go_ret
        exact ⟨rfl, HBb.out⟩
      | true =>
        have HCl : Hid (Clash (IN ++ AL)) := Lib.hid (HLaw.out hKb (fun h => HPP.out h.2))
        rw [hKb] at CK
        clear hKb
        go_wp2_with fail
        refine (CK.out _ HBa.out).mono ?_
        rintro e wb ⟨rfl, b1⟩
        have HBb : Hid (Below w.heap.size w wb) := Lib.hid (HBa.out.trans (b1.mono HBa.out.size))
        clear b1
        go_wp2_with fail
        refine (CI.out _ HBb.out).mono ?_
        rintro e wc ⟨v6, rfl, ho, b1⟩
        have HBc : Hid (Below w.heap.size w wc) := Lib.hid (HBb.out.trans (b1.mono HBb.out.size))
        have HO6 : Hid (SO wc w.heap.size v6 IN) := Lib.hid (ho.mono HBb.out.size)
        clear ho b1
        go_wp2_with fail
        refine (CA.out _ HBc.out).mono ?_
        rintro e wd ⟨v7, rfl, ho, b1⟩
        have HBd : Hid (Below w.heap.size w wd) := Lib.hid (HBc.out.trans (b1.mono HBc.out.size))
        have HO7 := Lib.hid (HO6.out.below b1 (Nat.le_refl _))
        have HV7 := Lib.hid ho.sv
        clear ho b1
        go_wp2_with (at_builtin; refine wpList_append_g (by rfl) _ _ (by rfl) w.heap.size _ IN AL (by rfl) HO7.out _ (by rfl) HV7.out HNum.out HBd.out.size ?_; intro v8 w8 ho8 hb8 _; have HO8 := Lib.hid ho8; have HB8 : Hid (Below w.heap.size w w8) := Lib.hid (HBd.out.trans hb8); clear ho8 hb8)
        have CC := Lib.hid (clash_any (IN ++ AL) v8 w8 HO8.out.sv hlen.out (by
          intro s hs
          rcases List.mem_append.1 hs with hs | hs
          · exact Nat.le_trans (SIN.out s hs) (by omega)
          · exact Nat.le_trans (SAL.out s hs) (by omega)))
        refine CC.out.mono ?_
        rintro e wf ⟨bb, rfl, hiff, b1⟩
        have hbb : bb = true := hiff.2 HCl.out
        subst hbb
        have HBf : Hid (Below w.heap.size w wf) := Lib.hid (HB8.out.trans (b1.mono HB8.out.size))
        clear b1 hiff
        go_wp2
        go_ret
        exact ⟨rfl, HBf.out⟩
  · have hb1 : (x.toList == y.toList) = false := by simp [hxy]
    have HXY : Hid (¬ x = y) := Lib.hid (fun h => hxy (by rw [h]))
    clear hxy
    go_enter Tryd.func27, Tryd.ntmps27
    go_wp2_with fail
    refine (CR.out _ HB0.out).mono ?_
    rintro e wa ⟨rfl, b1⟩
    have HBa : Hid (Below w.heap.size w wa) := Lib.hid (HB0.out.trans (b1.mono HB0.out.size))
    clear b1
    cases hKb : K with
    | false =>
      rw [hKb] at CK
      clear hKb
      go_wp2_with fail
      refine (CK.out _ HBa.out).mono ?_
      rintro e wb ⟨rfl, b1⟩
      have HBb : Hid (Below w.heap.size w wb) := Lib.hid (HBa.out.trans (b1.mono HBa.out.size))
      clear b1
      go_wp2
      go_ret
      exact ⟨rfl, HBb.out⟩
    | true =>
      have HCl : Hid (Clash (IN ++ AL)) := Lib.hid (HLaw.out hKb (fun h => HXY.out h.1))
      rw [hKb] at CK
      clear hKb
      go_wp2_with fail
      refine (CK.out _ HBa.out).mono ?_
      rintro e wb ⟨rfl, b1⟩
      have HBb : Hid (Below w.heap.size w wb) := Lib.hid (HBa.out.trans (b1.mono HBa.out.size))
      clear b1
      go_wp2_with fail
      refine (CI.out _ HBb.out).mono ?_
      rintro e wc ⟨v6, rfl, ho, b1⟩
      have HBc : Hid (Below w.heap.size w wc) := Lib.hid (HBb.out.trans (b1.mono HBb.out.size))
      have HO6 : Hid (SO wc w.heap.size v6 IN) := Lib.hid (ho.mono HBb.out.size)
      clear ho b1
      go_wp2_with fail
      refine (CA.out _ HBc.out).mono ?_
      rintro e wd ⟨v7, rfl, ho, b1⟩
      have HBd : Hid (Below w.heap.size w wd) := Lib.hid (HBc.out.trans (b1.mono HBc.out.size))
      have HO7 := Lib.hid (HO6.out.below b1 (Nat.le_refl _))
      have HV7 := Lib.hid ho.sv
      clear ho b1
      go_wp2_with (at_builtin; refine wpList_append_g (by rfl) _ _ (by rfl) w.heap.size _ IN AL (by rfl) HO7.out _ (by rfl) HV7.out HNum.out HBd.out.size ?_; intro v8 w8 ho8 hb8 _; have HO8 := Lib.hid ho8; have HB8 : Hid (Below w.heap.size w w8) := Lib.hid (HBd.out.trans hb8); clear ho8 hb8)
      have CC := Lib.hid (clash_any (IN ++ AL) v8 w8 HO8.out.sv hlen.out (by
        intro s hs
        rcases List.mem_append.1 hs with hs | hs
        · exact Nat.le_trans (SIN.out s hs) (by omega)
        · exact Nat.le_trans (SAL.out s hs) (by omega)))
      refine CC.out.mono ?_
      rintro e wf ⟨bb, rfl, hiff, b1⟩
      have hbb : bb = true := hiff.2 HCl.out
      subst hbb
      have HBf : Hid (Below w.heap.size w wf) := Lib.hid (HB8.out.trans (b1.mono HB8.out.size))
      clear b1 hiff
      go_wp2
      go_ret
      exact ⟨rfl, HBf.out⟩
end Go.Proofs.YtmapodkdnbbjgaaDoor
