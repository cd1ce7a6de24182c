/- MerkleGrows: the walk. -/
import Derived.Test.YtmapodkdnbbjgaaDoorMkGrows0
import Derived.Test.YtmapodkdnbbjgaaDoorMkTellsW
namespace Go.Proofs.YtmapodkdnbbjgaaDoor
open Go.RowKit Mk Sl
set_option maxRecDepth 100000 in
set_option maxHeartbeats 2000000 in
theorem mgrows_head (l p : List ByteArray) (v vp : Value) (i : Int) (x : ByteArray) (w : World) (hv : SV w v l) (hp : SV w vp p) (hk : OKW w) (hx : x.size ≤ maxLen)
    (bad : fewB l = false ∨ (fewB l = true ∧ fewB p = false) ∨ (fewB l = true ∧ fewB p = true ∧ i < 0) ∨ (fewB l = true ∧ fewB p = true ∧ 0 ≤ i ∧ l.length < i) ∨ (fewB l = true ∧ fewB p = true ∧ 0 ≤ i ∧ i ≤ l.length ∧ 40 < x.size)) :
    Calls Tryd.prog 5 #[v, .int .i64 i, .string x, vp] w fun e w' => e = .returned (.bool true) ∧ Below w.heap.size w w' := by
  unfold maxLen at hx
  obtain ⟨pp, cap, rfl, _, _⟩ := hv.shape
  have HK := Lib.hid hk
  have C1 : Hid (∀ W, Below w.heap.size w W → Calls Tryd.prog 10 #[.slice pp l.length cap] W fun e w' => e = .returned (.bool (fewB l)) ∧ W = w') := Lib.hid fun W hW => few_any l _ W (hv.below hW (Nat.le_refl _))
  have C2 : Hid (∀ W, Below w.heap.size w W → Calls Tryd.prog 10 #[vp] W fun e w' => e = .returned (.bool (fewB p)) ∧ W = w') := Lib.hid fun W hW => few_any p _ W (hp.below hW (Nat.le_refl _))
  clear hk hv hp
  rcases bad with h | ⟨h, h'⟩ | ⟨h, h', h1⟩ | ⟨h, h', h1, h2⟩ | ⟨h, h', h1, h2, h3⟩
  · rw [h] at C1
    clear h
    go_enter Tryd.func5, Tryd.ntmps5
    go_wp2_with fail
    refine (small_any w HK.out).mono ?_
    rintro e w0 ⟨rfl, b1⟩
    have HB0 := Lib.hid b1
    clear b1
    go_wp2_with fail
    refine (C1.out _ HB0.out).mono ?_
    rintro e w1 ⟨rfl, rfl⟩
    go_wp2
    go_ret
    exact ⟨rfl, HB0.out⟩
  · rw [h] at C1
    rw [h'] at C2
    clear h h'
    go_enter Tryd.func5, Tryd.ntmps5
    go_wp2_with fail
    refine (small_any w HK.out).mono ?_
    rintro e w0 ⟨rfl, b1⟩
    have HB0 := Lib.hid b1
    clear b1
    go_wp2_with fail
    refine (C1.out _ HB0.out).mono ?_
    rintro e w1 ⟨rfl, rfl⟩
    go_wp2_with fail
    refine (C2.out _ HB0.out).mono ?_
    rintro e w1 ⟨rfl, rfl⟩
    go_wp2
    go_ret
    exact ⟨rfl, HB0.out⟩
  · rw [h] at C1
    rw [h'] at C2
    clear h h'
    have hd1 : decide (i < 0) = true := by simp; omega
    go_enter Tryd.func5, Tryd.ntmps5
    go_wp2_with fail
    refine (small_any w HK.out).mono ?_
    rintro e w0 ⟨rfl, b1⟩
    have HB0 := Lib.hid b1
    clear b1
    go_wp2_with fail
    refine (C1.out _ HB0.out).mono ?_
    rintro e w1 ⟨rfl, rfl⟩
    go_wp2_with fail
    refine (C2.out _ HB0.out).mono ?_
    rintro e w1 ⟨rfl, rfl⟩
    go_wp2
    go_ret
    exact ⟨rfl, HB0.out⟩
  · rw [h] at C1
    rw [h'] at C2
    clear h h'
    have hd1 : decide (i < 0) = false := by simp; omega
    have hd2 : decide ((l.length : Int) < i) = true := by simp; omega
    go_enter Tryd.func5, Tryd.ntmps5
    go_wp2_with fail
    refine (small_any w HK.out).mono ?_
    rintro e w0 ⟨rfl, b1⟩
    have HB0 := Lib.hid b1
    clear b1
    go_wp2_with fail
    refine (C1.out _ HB0.out).mono ?_
    rintro e w1 ⟨rfl, rfl⟩
    go_wp2_with fail
    refine (C2.out _ HB0.out).mono ?_
    rintro e w1 ⟨rfl, rfl⟩
    go_wp2
    go_ret
    exact ⟨rfl, HB0.out⟩
  · rw [h] at C1
    rw [h'] at C2
    clear h h'
    have hd1 : decide (i < 0) = false := by simp; omega
    have hd2 : decide ((l.length : Int) < i) = false := by simp; omega
    go_enter Tryd.func5, Tryd.ntmps5
    go_wp2_with fail
    refine (small_any w HK.out).mono ?_
    rintro e w0 ⟨rfl, b1⟩
    have HB0 := Lib.hid b1
    clear b1
    go_wp2_with fail
    refine (C1.out _ HB0.out).mono ?_
    rintro e w1 ⟨rfl, rfl⟩
    go_wp2_with fail
    refine (C2.out _ HB0.out).mono ?_
    rintro e w1 ⟨rfl, rfl⟩
    go_wp2
    go_ret
    exact ⟨rfl, HB0.out⟩
set_option maxRecDepth 100000 in
set_option maxHeartbeats 4000000 in
theorem mgrows_main (l p : List ByteArray) (v vp : Value) (m : Nat) (x : ByteArray) (w : World) (hv : SV w v l) (hp : SV w vp p) (hk : OKW w) (h1 : fewB l = true) (h2 : fewB p = true) (hi : m ≤ l.length) (hx : x.size ≤ 40) :
    Calls Tryd.prog 5 #[v, .int .i64 m, .string x, vp] w fun e w' => e = .returned (.bool true) ∧ Below w.heap.size w w' := by
  obtain ⟨pp, cap, rfl, _, _⟩ := hv.shape
  obtain ⟨pb, cb, rfl, _, _⟩ := hp.shape
  have HV := Lib.hid hv
  have HP := Lib.hid hp
  have HK := Lib.hid hk
  obtain ⟨sl, ll⟩ := few_short h1
  obtain ⟨sp, lp⟩ := few_short h2
  have SL : Short l 1000 := fun s hs => Nat.le_trans (sl s hs) (by omega)
  obtain ⟨np, hnp⟩ : ∃ n, p.length = n := ⟨_, rfl⟩
  have C1 : Hid (∀ W, Below w.heap.size w W → Calls Tryd.prog 10 #[.slice pp l.length cap] W fun e w' => e = .returned (.bool true) ∧ W = w') := Lib.hid fun W hW => by
    have := few_any l _ W (HV.out.below hW (Nat.le_refl _)); rw [h1] at this; exact this
  have C2 : Hid (∀ W, Below w.heap.size w W → Calls Tryd.prog 10 #[.slice pb p.length cb] W fun e w' => e = .returned (.bool true) ∧ W = w') := Lib.hid fun W hW => by
    have := few_any p _ W (HP.out.below hW (Nat.le_refl _)); rw [h2] at this; exact this
  have CL : Hid (∀ W, Below w.heap.size w W → Calls Tryd.prog 26 #[.slice pp l.length cap] W (Ret W (l.map leaf))) := Lib.hid fun W hW => leaves_any l _ W (HV.out.below hW (Nat.le_refl _)) (by omega) SL (HK.out.below hW)
  have ha := all32_leaves l
  have hal : (l.map leaf).length = l.length := by simp
  obtain ⟨A, hA⟩ : ∃ y, l.map leaf = y := ⟨_, rfl⟩
  rw [hA] at CL ha hal
  obtain ⟨n, hn⟩ : ∃ n, l.length = n := ⟨_, rfl⟩
  rw [hn] at hal hi ll C1 CL
  rw [hn]
  have hSA : Short A 100000 := fun s hs => by rw [ha s hs]; omega
  have hPl : (growthI A m).length ≤ 8 := by
    unfold growthI
    split
    · exact growth_log A m 7 (by omega) (by omega) (by omega)
    · simp
  have hPa : All32 (growthI A m) := by
    unfold growthI
    split
    · exact growth_32 _ A _ _ (Nat.le_refl _) ha
    · intro s hs; cases hs
  have hown : checkGrown (root (A.take m)) m (root A) n (growthI A m) = true := by
    rcases Nat.eq_zero_or_pos m with h0 | h0
    · subst h0
      have := checkGrown_zero A (root (A.take 0)) n [] ha
      unfold growthI
      rw [if_neg (by omega), this]; simp
    · unfold growthI
      rw [if_pos ⟨by omega, by omega⟩, ← hal]
      exact checkGrown_own A m ha h0 (by omega)
  have GI : ∀ (o rt : ByteArray) (q : List ByteArray), checkGrownI o (m : Int) rt (n : Int) q = checkGrown o m rt n q := fun o rt q => by unfold checkGrownI; rw [if_pos ⟨by omega, by omega⟩]; rfl
  have CR : Hid (∀ W u, Below w.heap.size w W → SV W u A → Calls Tryd.prog 15 #[u] W fun e w' => e = .returned (.string (root A)) ∧ Below W.heap.size W w') := Lib.hid fun W u hW hu => root_any A u W (by omega) hSA hu (HK.out.below hW)
  have CT : Hid (∀ W u, Below w.heap.size w W → SV W u (A.take m) → Calls Tryd.prog 15 #[u] W fun e w' => e = .returned (.string (root (A.take m))) ∧ Below W.heap.size W w') := Lib.hid fun W u hW hu => root_any (A.take m) u W (by rw [List.length_take]; omega) (hSA.take m) hu (HK.out.below hW)
  have CG : Hid (∀ W u, Below w.heap.size w W → SV W u A → Calls Tryd.prog 20 #[u, .int .i64 m] W (Ret W (growthI A m))) := Lib.hid fun W u hW hu => grown_any A u m W hu (by omega) hSA (HK.out.below hW)
  have CK1 : Hid (∀ W u, Below w.heap.size w W → SV W u (growthI A m) → Calls Tryd.prog 24 #[.string (root (A.take m)), .int .i64 m, .string (root A), .int .i64 n, u] W fun e w' => e = .returned (.bool true) ∧ Below W.heap.size W w') := Lib.hid fun W u hW hu => by
    have h := grownck_any (root (A.take m)) (root A) m n (growthI A m) u W hu (by omega) (by omega) (HK.out.below hW)
    rw [GI, hown] at h; exact h
  have CKp : Hid (∀ W, Below w.heap.size w W → Calls Tryd.prog 24 #[.string x, .int .i64 m, .string (root A), .int .i64 n, .slice pb p.length cb] W fun e w' => e = .returned (.bool (checkGrown x m (root A) n p)) ∧ Below W.heap.size W w') := Lib.hid fun W hW => by
    have h := grownck_any x (root A) m n p _ W (HP.out.below hW (Nat.le_refl _)) (by omega) (by omega) (HK.out.below hW)
    rw [GI] at h; exact h
  have CKq : Hid (∀ W u, Below w.heap.size w W → SV W u (growthI A m) → Calls Tryd.prog 24 #[.string x, .int .i64 m, .string (root A), .int .i64 n, u] W fun e w' => e = .returned (.bool (checkGrown x m (root A) n (growthI A m))) ∧ Below W.heap.size W w') := Lib.hid fun W u hW hu => by
    have h := grownck_any x (root A) m n (growthI A m) u W hu (by omega) (by omega) (HK.out.below hW)
    rw [GI] at h; exact h
  have CI : Hid (∀ W u, SV W u A → Calls Tryd.prog 28 #[u] W (Ret W (inner A))) := Lib.hid fun W u hu => rinner_any A u W (by omega) (fun s hs => by rw [ha s hs]; omega) hu
  have lIN : (inner A).length ≤ 70 := Nat.le_trans (inner_len _ _ (Nat.le_refl _)) (by omega)
  have sIN : Short (inner A) 65 := inner_short 32 (by omega) _ _ (Nat.le_refl _) (fun s hs => Nat.le_of_eq (ha s hs))
  have lG1 : (growing x m n p.reverse true).length ≤ 140 := Nat.le_trans (growing_len _ _ _ _ _) (by rw [List.length_reverse]; omega)
  have sG1 : Short (growing x m n p.reverse true) 81 := growing_size 40 (by omega) x hx p.reverse _ _ _ (fun s hs => sp s (by simpa using hs))
  have lG2 : (growing x m n (growthI A m).reverse true).length ≤ 140 := Nat.le_trans (growing_len _ _ _ _ _) (by rw [List.length_reverse]; omega)
  have sG2 : Short (growing x m n (growthI A m).reverse true) 81 := growing_size 40 (by omega) x hx _ _ _ _ (fun s hs => by rw [hPa s (by simpa using hs)]; omega)
  have CG1 : Hid (1 ≤ m → ∀ W, Below w.heap.size w W → Calls Tryd.prog 30 #[.string x, .int .i64 m, .int .i64 n, .slice pb p.length cb, .bool true] W (Ret W (growing x m n p.reverse true))) := Lib.hid fun h0 W hW => rgrowing_any p x m n true _ W (by omega) h0 hi (by omega) (by omega) (fun s hs => Nat.le_trans (sp s hs) (by omega)) (HP.out.below hW (Nat.le_refl _))
  have CG2 : Hid (1 ≤ m → ∀ W u, Below w.heap.size w W → SV W u (growthI A m) → Calls Tryd.prog 30 #[.string x, .int .i64 m, .int .i64 n, u, .bool true] W (Ret W (growing x m n (growthI A m).reverse true))) := Lib.hid fun h0 W u _ hu => rgrowing_any _ x m n true _ W (by omega) h0 hi (by omega) (by omega) (fun s hs => by rw [hPa s hs]; omega) hu
  have HL1 : Hid (1 ≤ m → checkGrown x m (root A) n p = true → x ≠ root (A.take m) → Clash (inner A ++ growing x m n p.reverse true)) := Lib.hid fun h0 hc hne => by
    have := grows_law A m x p h0 (by omega) ha (by rw [hal]; exact hc) hne
    rw [hal] at this; exact this
  have HL2 : Hid (1 ≤ m → checkGrown x m (root A) n (growthI A m) = true → x ≠ root (A.take m) → Clash (inner A ++ growing x m n (growthI A m).reverse true)) := Lib.hid fun h0 hc hne => by
    have := grows_law A m x (growthI A m) h0 (by omega) ha (by rw [hal]; exact hc) hne
    rw [hal] at this; exact this
  have HZ : Hid (m = 0 → ∀ W, Below w.heap.size w W → Calls Tryd.prog 24 #[.string x, .int .i64 0, .string (root A), .int .i64 n, .slice pb p.length cb] W fun e w' => e = .returned (.bool (decide (x = root (A.take m)) && p.isEmpty)) ∧ Below W.heap.size W w') := Lib.hid fun h0 W hW => by
    subst h0
    have h := grownck_any x (root A) 0 n p _ W (HP.out.below hW (Nat.le_refl _)) (by omega) (by omega) (HK.out.below hW)
    have hz := checkGrown_zero A x n p ha
    have e : checkGrownI x 0 (root A) n p = checkGrown x 0 (root A) n p := GI x (root A) p
    rw [e, hz] at h; exact h
  have hpe : p.isEmpty = decide (p.length = 0) := by cases p <;> simp
  rw [hpe] at HZ
  rw [hnp] at HZ C2 CKp CG1 lp
  rw [hnp]
  obtain ⟨R, hR⟩ : ∃ y, root A = y := ⟨_, rfl⟩
  obtain ⟨T, hT⟩ : ∃ y, root (A.take m) = y := ⟨_, rfl⟩
  obtain ⟨P, hP⟩ : ∃ y, growthI A m = y := ⟨_, rfl⟩
  obtain ⟨IN, hIN⟩ : ∃ y, inner A = y := ⟨_, rfl⟩
  rw [hR] at CR CK1 CKp CKq HL1 HL2 HZ
  rw [hT] at CT CK1 HL1 HL2 HZ
  rw [hP] at hPl CG CK1 CKq CG2 HL2 lG2 sG2
  rw [hIN] at CI HL1 HL2 lIN sIN
  obtain ⟨G1, hG1⟩ : ∃ y, growing x m n p.reverse true = y := ⟨_, rfl⟩
  obtain ⟨G2, hG2⟩ : ∃ y, growing x m n P.reverse true = y := ⟨_, rfl⟩
  obtain ⟨K1, hK1⟩ : ∃ y, checkGrown x m R n p = y := ⟨_, rfl⟩
  obtain ⟨K2, hK2⟩ : ∃ y, checkGrown x m R n P = y := ⟨_, rfl⟩
  rw [hG1] at CG1 HL1 lG1 sG1
  rw [hG2] at CG2 HL2 lG2 sG2
  rw [hK1] at CKp HL1
  rw [hK2] at CKq HL2
  have SIN := Lib.hid sIN; have SG1 := Lib.hid sG1; have SG2 := Lib.hid sG2
  have N1 : Hid (IN.length + G1.length ≤ 1000000 ∧ (IN ++ G1).length ≤ 100000) := Lib.hid ⟨by omega, by simp; omega⟩
  have N2 : Hid (IN.length + G2.length ≤ 1000000 ∧ (IN ++ G2).length ≤ 100000) := Lib.hid ⟨by omega, by simp; omega⟩
  have hd1 : decide ((m : Int) < 0) = false := by simp
  have hd2 : decide (n < m) = false := by simp; omega
  have hd3 : decide (8 < P.length) = false := by simp; omega
  have hmn0 : 0 ≤ (m : Int) := by omega
  have HMA : Hid (m ≤ A.length) := Lib.hid (by omega)
  clear hv hp hk h1 h2 sl sp SL hA hn hSA hPa hown GI hpe hR hT hP hIN hG1 hG2 hK1 hK2 sIN sG1 sG2 lIN lG1 lG2 ha hnp
  go_enter Tryd.func5, Tryd.ntmps5
  go_wp2_with fail
  refine (small_any w HK.out).mono ?_
  rintro e w0 ⟨rfl, b1⟩
  have HB0 := Lib.hid b1
  clear b1
  go_wp2_with fail
  refine (C1.out _ HB0.out).mono ?_
  rintro e w1 ⟨rfl, rfl⟩
  go_wp2_with fail
  refine (C2.out _ HB0.out).mono ?_
  rintro e w1 ⟨rfl, rfl⟩
  go_wp2_with fail
  refine (CL.out _ HB0.out).mono ?_
  rintro e w1 ⟨v1, rfl, ho, b1⟩
  have HB1 : Hid (Below w.heap.size w w1) := Lib.hid (HB0.out.trans (b1.mono HB0.out.size))
  have hva := ho.sv
  clear ho b1
  obtain ⟨pa, ca, rfl, _, _⟩ := hva.shape
  rw [hal] at hva
  rw [hal]
  have HV1 := Lib.hid hva
  obtain ⟨p1, c1, hs1, hv1⟩ := hva.upto m hi
  have HT1 := Lib.hid hv1
  clear hva hv1
  go_wp2_with fail
  refine (CR.out _ _ HB1.out HV1.out).mono ?_
  rintro e w2 ⟨rfl, b1⟩
  have HB2 : Hid (Below w.heap.size w w2) := Lib.hid (HB1.out.trans (b1.mono HB1.out.size))
  have HV2 := Lib.hid (HV1.out.below b1 (Nat.le_refl _))
  have HT2 := Lib.hid (HT1.out.below b1 (Nat.le_refl _))
  clear b1
  go_wp2_with fail
  refine (CT.out _ _ HB2.out HT2.out).mono ?_
  rintro e w3 ⟨rfl, b1⟩
  have HB3 : Hid (Below w.heap.size w w3) := Lib.hid (HB2.out.trans (b1.mono HB2.out.size))
  have HV3 := Lib.hid (HV2.out.below b1 (Nat.le_refl _))
  clear b1
  go_wp2_with fail
  refine (CG.out _ _ HB3.out HV3.out).mono ?_
  rintro e w4 ⟨v4, rfl, ho, b1⟩
  have HB4 : Hid (Below w.heap.size w w4) := Lib.hid (HB3.out.trans (b1.mono HB3.out.size))
  have HV4 := Lib.hid (HV3.out.below b1 (Nat.le_refl _))
  have hvq := ho.sv
  clear ho b1
  obtain ⟨pq, cq, rfl, _, _⟩ := hvq.shape
  have HQ4 := Lib.hid hvq
  clear hvq
  go_wp2_with fail
  refine (CK1.out _ _ HB4.out HQ4.out).mono ?_
  rintro e w5 ⟨rfl, b1⟩
  have HB5 : Hid (Below w.heap.size w w5) := Lib.hid (HB4.out.trans (b1.mono HB4.out.size))
  have HV5 := Lib.hid (HV4.out.below b1 (Nat.le_refl _))
  have HQ5 := Lib.hid (HQ4.out.below b1 (Nat.le_refl _))
  clear b1
  have HOWf : Hid (x.toList = T.toList → x = T) := Lib.hid str_ext
  rcases Nat.eq_zero_or_pos m with h0 | h0
  · have CZ := Lib.hid (HZ.out h0)
    have hm0 : ((m : Int) == 0) = true := by simp; omega
    clear HZ HL1 HL2 CG1 CG2 h0
    by_cases how : x.toList = T.toList
    · have hb : (x.toList == T.toList) = true := by simp [how]
      have hdd : decide (x = T) = true := decide_eq_true (HOWf.out how)
      by_cases hz : np = 0
      · have hz1 : ((np : Int) == 0) = true := by simp; omega
        have hz2 : decide (np = 0) = true := decide_eq_true hz
        rw [hdd, hz2] at CZ
        clear hdd hz hz2 how
        go_wp2_with fail
        refine (CZ.out _ HB5.out).mono ?_
        rintro e w6 ⟨rfl, b1⟩
        have HB6 : Hid (Below w.heap.size w w6) := Lib.hid (HB5.out.trans (b1.mono HB5.out.size))
        clear b1
        go_wp2
        go_ret
        exact ⟨rfl, HB6.out⟩
      · have hz1 : ((np : Int) == 0) = false := by simp; omega
        have hz2 : decide (np = 0) = false := decide_eq_false hz
        rw [hdd, hz2] at CZ
        clear hdd hz hz2 how
        go_wp2_with fail
        refine (CZ.out _ HB5.out).mono ?_
        rintro e w6 ⟨rfl, b1⟩
        have HB6 : Hid (Below w.heap.size w w6) := Lib.hid (HB5.out.trans (b1.mono HB5.out.size))
        clear b1
        go_wp2
        go_ret
        exact ⟨rfl, HB6.out⟩
    · have hb : (x.toList == T.toList) = false := by simp [how]
      have hdd : decide (x = T) = false := decide_eq_false (fun h => how (by rw [h]))
      rw [hdd] at CZ
      clear hdd how
      go_wp2_with fail
      refine (CZ.out _ HB5.out).mono ?_
      rintro e w6 ⟨rfl, b1⟩
      have HB6 : Hid (Below w.heap.size w w6) := Lib.hid (HB5.out.trans (b1.mono HB5.out.size))
      clear b1
      go_wp2
      go_ret
      exact ⟨rfl, HB6.out⟩
  · have CH1 := Lib.hid (CG1.out h0)
    have CH2 := Lib.hid (CG2.out h0)
    have CL1 := Lib.hid (HL1.out h0)
    have CL2 := Lib.hid (HL2.out h0)
    have hm0 : ((m : Int) == 0) = false := by simp; omega
    clear HZ HL1 HL2 CG1 CG2 h0
    go_wp2_with fail
    refine (CI.out _ _ HV5.out).mono ?_
    rintro e w6 ⟨v6, rfl, ho, b1⟩
    have HB6 : Hid (Below w.heap.size w w6) := Lib.hid (HB5.out.trans (b1.mono HB5.out.size))
    have HQ6 := Lib.hid (HQ5.out.below b1 (Nat.le_refl _))
    have HO6 : Hid (SO w6 w.heap.size v6 IN) := Lib.hid (ho.mono HB5.out.size)
    clear ho b1
    by_cases how : x.toList = T.toList
    · have hb : (!x.toList == T.toList) = false := by simp [how]
      clear how
      cases hk1 : K1 with
      | false =>
        rw [hk1] at CKp
        clear hk1
        go_wp2_with fail
        refine (CKp.out _ HB6.out).mono ?_
        rintro e w7 ⟨rfl, b1⟩
        have HB7 : Hid (Below w.heap.size w w7) := Lib.hid (HB6.out.trans (b1.mono HB6.out.size))
        have HQ7 := Lib.hid (HQ6.out.below b1 (Nat.le_refl _))
        have HO7 := Lib.hid (HO6.out.below b1 (Nat.le_refl _))
        clear b1
        cases hk2 : K2 with
        | false =>
          rw [hk2] at CKq
          clear hk2
          go_wp2_with fail
          refine (CKq.out _ _ HB7.out HQ7.out).mono ?_
          rintro e w8 ⟨rfl, b1⟩
          have HB8 : Hid (Below w.heap.size w w8) := Lib.hid (HB7.out.trans (b1.mono HB7.out.size))
          have HQ8 := Lib.hid (HQ7.out.below b1 (Nat.le_refl _))
          have HO8 := Lib.hid (HO7.out.below b1 (Nat.le_refl _))
          clear b1
          go_wp2
          go_ret
          exact ⟨rfl, HB8.out⟩
        | true =>
          rw [hk2] at CKq
          clear hk2
          go_wp2_with fail
          refine (CKq.out _ _ HB7.out HQ7.out).mono ?_
          rintro e w8 ⟨rfl, b1⟩
          have HB8 : Hid (Below w.heap.size w w8) := Lib.hid (HB7.out.trans (b1.mono HB7.out.size))
          have HQ8 := Lib.hid (HQ7.out.below b1 (Nat.le_refl _))
          have HO8 := Lib.hid (HO7.out.below b1 (Nat.le_refl _))
          clear b1
          go_wp2
          go_ret
          exact ⟨rfl, HB8.out⟩
      | true =>
        rw [hk1] at CKp
        clear hk1
        go_wp2_with fail
        refine (CKp.out _ HB6.out).mono ?_
        rintro e w7 ⟨rfl, b1⟩
        have HB7 : Hid (Below w.heap.size w w7) := Lib.hid (HB6.out.trans (b1.mono HB6.out.size))
        have HQ7 := Lib.hid (HQ6.out.below b1 (Nat.le_refl _))
        have HO7 := Lib.hid (HO6.out.below b1 (Nat.le_refl _))
        clear b1
        cases hk2 : K2 with
        | false =>
          rw [hk2] at CKq
          clear hk2
          go_wp2_with fail
          refine (CKq.out _ _ HB7.out HQ7.out).mono ?_
          rintro e w8 ⟨rfl, b1⟩
          have HB8 : Hid (Below w.heap.size w w8) := Lib.hid (HB7.out.trans (b1.mono HB7.out.size))
          have HQ8 := Lib.hid (HQ7.out.below b1 (Nat.le_refl _))
          have HO8 := Lib.hid (HO7.out.below b1 (Nat.le_refl _))
          clear b1
          go_wp2
          go_ret
          exact ⟨rfl, HB8.out⟩
        | true =>
          rw [hk2] at CKq
          clear hk2
          go_wp2_with fail
          refine (CKq.out _ _ HB7.out HQ7.out).mono ?_
          rintro e w8 ⟨rfl, b1⟩
          have HB8 : Hid (Below w.heap.size w w8) := Lib.hid (HB7.out.trans (b1.mono HB7.out.size))
          have HQ8 := Lib.hid (HQ7.out.below b1 (Nat.le_refl _))
          have HO8 := Lib.hid (HO7.out.below b1 (Nat.le_refl _))
          clear b1
          go_wp2
          go_ret
          exact ⟨rfl, HB8.out⟩
    · have hb : (!x.toList == T.toList) = true := by simp [how]
      have HNE : Hid (x ≠ T) := Lib.hid (fun h => how (by rw [h]))
      clear how
      cases hk1 : K1 with
      | true =>
        have HCl := Lib.hid (CL1.out hk1 HNE.out)
        rw [hk1] at CKp
        clear hk1
        go_wp2_with fail
        refine (CKp.out _ HB6.out).mono ?_
        rintro e w7 ⟨rfl, b1⟩
        have HB7 : Hid (Below w.heap.size w w7) := Lib.hid (HB6.out.trans (b1.mono HB6.out.size))
        have HQ7 := Lib.hid (HQ6.out.below b1 (Nat.le_refl _))
        have HO7 := Lib.hid (HO6.out.below b1 (Nat.le_refl _))
        clear b1
        go_wp2_with fail
        refine (CH1.out _ HB7.out).mono ?_
        rintro e wa ⟨va, rfl, ho, b1⟩
        have HBa : Hid (Below w.heap.size w wa) := Lib.hid (HB7.out.trans (b1.mono HB7.out.size))
        have HOa := Lib.hid (HO7.out.below b1 (Nat.le_refl _))
        have HVa := Lib.hid ho.sv
        clear ho b1
        go_wp2_with (at_builtin; refine wpList_append_g (by rfl) _ _ (by rfl) w.heap.size _ IN G1 (by rfl) HOa.out _ (by rfl) HVa.out N1.out.1 HBa.out.size ?_; intro vb wb hob hbb _; have HOb := Lib.hid hob; have HBb : Hid (Below w.heap.size w wb) := Lib.hid (HBa.out.trans hbb); clear hob hbb)
        have CC := Lib.hid (clash_any (IN ++ G1) vb wb HOb.out.sv N1.out.2 (by
          intro s hs
          rcases List.mem_append.1 hs with hs | hs
          · exact Nat.le_trans (SIN.out s hs) (by omega)
          · exact Nat.le_trans (SG1.out s hs) (by omega)))
        refine CC.out.mono ?_
        rintro e wf ⟨bb, rfl, hiff, b1⟩
        have hbb : bb = true := hiff.2 HCl.out
        subst hbb
        have HBf : Hid (Below w.heap.size w wf) := Lib.hid (HBb.out.trans (b1.mono HBb.out.size))
        clear b1 hiff
        go_wp2
        go_ret
        exact ⟨rfl, HBf.out⟩
      | false =>
        rw [hk1] at CKp
        clear hk1
        go_wp2_with fail
        refine (CKp.out _ HB6.out).mono ?_
        rintro e w7 ⟨rfl, b1⟩
        have HB7 : Hid (Below w.heap.size w w7) := Lib.hid (HB6.out.trans (b1.mono HB6.out.size))
        have HQ7 := Lib.hid (HQ6.out.below b1 (Nat.le_refl _))
        have HO7 := Lib.hid (HO6.out.below b1 (Nat.le_refl _))
        clear b1
        cases hk2 : K2 with
        | false =>
          rw [hk2] at CKq
          clear hk2
          go_wp2_with fail
          refine (CKq.out _ _ HB7.out HQ7.out).mono ?_
          rintro e w8 ⟨rfl, b1⟩
          have HB8 : Hid (Below w.heap.size w w8) := Lib.hid (HB7.out.trans (b1.mono HB7.out.size))
          have HQ8 := Lib.hid (HQ7.out.below b1 (Nat.le_refl _))
          have HO8 := Lib.hid (HO7.out.below b1 (Nat.le_refl _))
          clear b1
          go_wp2
          go_ret
          exact ⟨rfl, HB8.out⟩
        | true =>
          have HCl := Lib.hid (CL2.out hk2 HNE.out)
          rw [hk2] at CKq
          clear hk2
          go_wp2_with fail
          refine (CKq.out _ _ HB7.out HQ7.out).mono ?_
          rintro e w8 ⟨rfl, b1⟩
          have HB8 : Hid (Below w.heap.size w w8) := Lib.hid (HB7.out.trans (b1.mono HB7.out.size))
          have HQ8 := Lib.hid (HQ7.out.below b1 (Nat.le_refl _))
          have HO8 := Lib.hid (HO7.out.below b1 (Nat.le_refl _))
          clear b1
          go_wp2_with fail
          refine (CH2.out _ _ HB8.out HQ8.out).mono ?_
          rintro e wa ⟨va, rfl, ho, b1⟩
          have HBa : Hid (Below w.heap.size w wa) := Lib.hid (HB8.out.trans (b1.mono HB8.out.size))
          have HOa := Lib.hid (HO8.out.below b1 (Nat.le_refl _))
          have HVa := Lib.hid ho.sv
          clear ho b1
          go_wp2_with (at_builtin; refine wpList_append_g (by rfl) _ _ (by rfl) w.heap.size _ IN G2 (by rfl) HOa.out _ (by rfl) HVa.out N2.out.1 HBa.out.size ?_; intro vb wb hob hbb _; have HOb := Lib.hid hob; have HBb : Hid (Below w.heap.size w wb) := Lib.hid (HBa.out.trans hbb); clear hob hbb)
          have CC := Lib.hid (clash_any (IN ++ G2) vb wb HOb.out.sv N2.out.2 (by
            intro s hs
            rcases List.mem_append.1 hs with hs | hs
            · exact Nat.le_trans (SIN.out s hs) (by omega)
            · exact Nat.le_trans (SG2.out s hs) (by omega)))
          refine CC.out.mono ?_
          rintro e wf ⟨bb, rfl, hiff, b1⟩
          have hbb : bb = true := hiff.2 HCl.out
          subst hbb
          have HBf : Hid (Below w.heap.size w wf) := Lib.hid (HBb.out.trans (b1.mono HBb.out.size))
          clear b1 hiff
          go_wp2
          go_ret
          exact ⟨rfl, HBf.out⟩
theorem mgrows_walk (l p : List ByteArray) (v vp : Value) (i : Int) (x : ByteArray) (w : World) (hv : SV w v l) (hp : SV w vp p) (hk : OKW w) (hx : x.size ≤ maxLen) :
    Calls Tryd.prog 5 #[v, .int .i64 i, .string x, vp] w fun e w' => e = .returned (.bool true) ∧ Below w.heap.size w w' := by
  cases h1 : fewB l with
  | false => exact mgrows_head l p v vp i x w hv hp hk hx (.inl h1)
  | true =>
    cases h2 : fewB p with
    | false => exact mgrows_head l p v vp i x w hv hp hk hx (.inr (.inl ⟨h1, h2⟩))
    | true =>
      by_cases h3 : i < 0
      · exact mgrows_head l p v vp i x w hv hp hk hx (.inr (.inr (.inl ⟨h1, h2, h3⟩)))
      · by_cases h4 : (l.length : Int) < i
        · exact mgrows_head l p v vp i x w hv hp hk hx (.inr (.inr (.inr (.inl ⟨h1, h2, by omega, h4⟩))))
        · by_cases h5 : 40 < x.size
          · exact mgrows_head l p v vp i x w hv hp hk hx (.inr (.inr (.inr (.inr ⟨h1, h2, by omega, by omega, h5⟩))))
          · obtain ⟨I, rfl⟩ := Int.eq_ofNat_of_zero_le (show 0 ≤ i by omega)
            exact mgrows_main l p v vp I x w hv hp hk h1 h2 (by omega) (by omega)
end Go.Proofs.YtmapodkdnbbjgaaDoor
