/- MerklePaths: the walk. -/
import Derived.Test.YtmapodkdnbbjgaaDoorMkPathsW
import Derived.Test.YtmapodkdnbbjgaaDoorMkTellsW
namespace Go.Proofs.YtmapodkdnbbjgaaDoor
open Go.RowKit Mk Sl
set_option maxRecDepth 100000 in
set_option maxHeartbeats 2000000 in
theorem mpaths_head (l p : List ByteArray) (v vp : Value) (i : Int) (x : ByteArray) (w : World) (hv : SV w v l) (hp : SV w vp p) (hk : OKW w) (hx : x.size ≤ maxLen)
    (bad : fewB l = false ∨ (fewB l = true ∧ fewB p = false) ∨ (fewB l = true ∧ fewB p = true ∧ i < 0) ∨ (fewB l = true ∧ fewB p = true ∧ 0 ≤ i ∧ l.length ≤ i) ∨ (fewB l = true ∧ fewB p = true ∧ 0 ≤ i ∧ i < l.length ∧ 40 < x.size)) :
    Calls Tryd.prog 4 #[v, .int .i64 i, .string x, vp] w fun e w' => e = .returned (.bool true) ∧ Below w.heap.size w w' := by
  unfold maxLen at hx
  obtain ⟨pp, cap, rfl, _, _⟩ := hv.shape
  have HK := Lib.hid hk
  have C1 : Hid (∀ W, Below w.heap.size w W → Calls Tryd.prog 10 #[.slice pp l.length cap] W fun e w' => e = .returned (.bool (fewB l)) ∧ W = w') := Lib.hid fun W hW => few_any l _ W (hv.below hW (Nat.le_refl _))
  have C2 : Hid (∀ W, Below w.heap.size w W → Calls Tryd.prog 10 #[vp] W fun e w' => e = .returned (.bool (fewB p)) ∧ W = w') := Lib.hid fun W hW => few_any p _ W (hp.below hW (Nat.le_refl _))
  clear hk hv hp
  rcases bad with h | ⟨h, h'⟩ | ⟨h, h', h1⟩ | ⟨h, h', h1, h2⟩ | ⟨h, h', h1, h2, h3⟩
  · rw [h] at C1
    clear h
    go_enter Tryd.func4, Tryd.ntmps4
    go_wp2_with fail
    refine (small_any w HK.out).mono ?_
    rintro e w0 ⟨rfl, b1⟩
    have HB0 := Lib.hid b1
    clear b1
    go_wp2_with fail
    refine (C1.out _ HB0.out).mono ?_
    rintro e w1 ⟨rfl, rfl⟩
    go_wp2
    go_ret
    exact ⟨rfl, HB0.out⟩
  · rw [h] at C1
    rw [h'] at C2
    clear h h'
    go_enter Tryd.func4, Tryd.ntmps4
    go_wp2_with fail
    refine (small_any w HK.out).mono ?_
    rintro e w0 ⟨rfl, b1⟩
    have HB0 := Lib.hid b1
    clear b1
    go_wp2_with fail
    refine (C1.out _ HB0.out).mono ?_
    rintro e w1 ⟨rfl, rfl⟩
    go_wp2_with fail
    refine (C2.out _ HB0.out).mono ?_
    rintro e w1 ⟨rfl, rfl⟩
    go_wp2
    go_ret
    exact ⟨rfl, HB0.out⟩
  · rw [h] at C1
    rw [h'] at C2
    clear h h'
    have hd1 : decide (i < 0) = true := by simp; omega
    go_enter Tryd.func4, Tryd.ntmps4
    go_wp2_with fail
    refine (small_any w HK.out).mono ?_
    rintro e w0 ⟨rfl, b1⟩
    have HB0 := Lib.hid b1
    clear b1
    go_wp2_with fail
    refine (C1.out _ HB0.out).mono ?_
    rintro e w1 ⟨rfl, rfl⟩
    go_wp2_with fail
    refine (C2.out _ HB0.out).mono ?_
    rintro e w1 ⟨rfl, rfl⟩
    go_wp2
    go_ret
    exact ⟨rfl, HB0.out⟩
  · rw [h] at C1
    rw [h'] at C2
    clear h h'
    have hd1 : decide (i < 0) = false := by simp; omega
    have hd2 : decide ((l.length : Int) ≤ i) = true := by simp; omega
    go_enter Tryd.func4, Tryd.ntmps4
    go_wp2_with fail
    refine (small_any w HK.out).mono ?_
    rintro e w0 ⟨rfl, b1⟩
    have HB0 := Lib.hid b1
    clear b1
    go_wp2_with fail
    refine (C1.out _ HB0.out).mono ?_
    rintro e w1 ⟨rfl, rfl⟩
    go_wp2_with fail
    refine (C2.out _ HB0.out).mono ?_
    rintro e w1 ⟨rfl, rfl⟩
    go_wp2
    go_ret
    exact ⟨rfl, HB0.out⟩
  · rw [h] at C1
    rw [h'] at C2
    clear h h'
    have hd1 : decide (i < 0) = false := by simp; omega
    have hd2 : decide ((l.length : Int) ≤ i) = false := by simp; omega
    go_enter Tryd.func4, Tryd.ntmps4
    go_wp2_with fail
    refine (small_any w HK.out).mono ?_
    rintro e w0 ⟨rfl, b1⟩
    have HB0 := Lib.hid b1
    clear b1
    go_wp2_with fail
    refine (C1.out _ HB0.out).mono ?_
    rintro e w1 ⟨rfl, rfl⟩
    go_wp2_with fail
    refine (C2.out _ HB0.out).mono ?_
    rintro e w1 ⟨rfl, rfl⟩
    go_wp2
    go_ret
    exact ⟨rfl, HB0.out⟩
set_option maxRecDepth 100000 in
set_option maxHeartbeats 4000000 in
theorem mpaths_main (l p : List ByteArray) (v vp : Value) (i : Nat) (x : ByteArray) (w : World) (hv : SV w v l) (hp : SV w vp p) (hk : OKW w) (h1 : fewB l = true) (h2 : fewB p = true) (hi : i < l.length) (hx : x.size ≤ 40) :
    Calls Tryd.prog 4 #[v, .int .i64 i, .string x, vp] w fun e w' => e = .returned (.bool true) ∧ Below w.heap.size w w' := by
  obtain ⟨pp, cap, rfl, _, _⟩ := hv.shape
  have HV := Lib.hid hv
  have HP := Lib.hid hp
  have HK := Lib.hid hk
  obtain ⟨sl, ll⟩ := few_short h1
  obtain ⟨sp, lp⟩ := few_short h2
  have SL : Short l 1000 := fun s hs => Nat.le_trans (sl s hs) (by omega)
  have C1 : Hid (∀ W, Below w.heap.size w W → Calls Tryd.prog 10 #[.slice pp l.length cap] W fun e w' => e = .returned (.bool true) ∧ W = w') := Lib.hid fun W hW => by
    have := few_any l _ W (HV.out.below hW (Nat.le_refl _)); rw [h1] at this; exact this
  have C2 : Hid (∀ W, Below w.heap.size w W → Calls Tryd.prog 10 #[vp] W fun e w' => e = .returned (.bool true) ∧ W = w') := Lib.hid fun W hW => by
    have := few_any p _ W (HP.out.below hW (Nat.le_refl _)); rw [h2] at this; exact this
  have CL : Hid (∀ W, Below w.heap.size w W → Calls Tryd.prog 26 #[.slice pp l.length cap] W (Ret W (l.map leaf))) := Lib.hid fun W hW => leaves_any l _ W (HV.out.below hW (Nat.le_refl _)) (by omega) SL (HK.out.below hW)
  have ha := all32_leaves l
  have hal : (l.map leaf).length = l.length := by simp
  obtain ⟨A, hA⟩ : ∃ y, l.map leaf = y := ⟨_, rfl⟩
  rw [hA] at CL ha hal
  obtain ⟨n, hn⟩ : ∃ n, l.length = n := ⟨_, rfl⟩
  rw [hn] at hal hi ll C1 CL
  rw [hn]
  have hSA : Short A 100000 := fun s hs => by rw [ha s hs]; omega
  have hPl : (path A i).length ≤ 7 := path_log A i 7 (by omega) (by omega)
  have hPa : All32 (path A i) := path_32 _ A i (Nat.le_refl _) ha
  have CR : Hid (∀ W u, Below w.heap.size w W → SV W u A → Calls Tryd.prog 15 #[u] W fun e w' => e = .returned (.string (root A)) ∧ Below W.heap.size W w') := Lib.hid fun W u hW hu => root_any A u W (by omega) hSA hu (HK.out.below hW)
  have CP : Hid (∀ W u, Below w.heap.size w W → SV W u A → Calls Tryd.prog 18 #[u, .int .i64 i] W (Ret W (path A i))) := Lib.hid fun W u hW hu => path_in A u i W hu (by omega) hSA (HK.out.below hW) (by omega)
  have CK : Hid (∀ W u, Below w.heap.size w W → SV W u (path A i) → Calls Tryd.prog 22 #[.string (root A), .int .i64 n, .int .i64 i, .string (A.getD i ⟨#[]⟩), u] W fun e w' => e = .returned (.bool true) ∧ Below W.heap.size W w') := Lib.hid fun W u hW hu => by
    have h := check_any (root A) (A.getD i ⟨#[]⟩) n i (path A i) u W hu (by omega) (by omega) (HK.out.below hW)
    unfold checkI at h
    rw [if_pos ⟨by omega, by omega⟩] at h
    have hc := check_own A i ha (by omega)
    rw [hal] at hc
    rw [show ((n : Int).toNat) = n from rfl, show ((i : Int).toNat) = i from rfl, hc] at h
    exact h
  have hyz : (A.getD i ⟨#[]⟩).size = 32 := get_32 ha i (by omega)
  have CO : Hid (∀ W u u2 (y : ByteArray) (q : List ByteArray), Below w.heap.size w W → SV W u A → SV W u2 q → y.size ≤ 40 → Short q 40 → q.length ≤ 70 → Calls Tryd.prog 27 #[u, .int .i64 i, .string y, u2] W fun e w' => e = .returned (.bool true) ∧ Below W.heap.size W w') := Lib.hid fun W u u2 y q hW hu hu2 hy hq1 hq2 => only_any A q i y u u2 W hu hu2 (HK.out.below hW) (by omega) (by omega) ha hy hq1 hq2
  obtain ⟨R, hR⟩ : ∃ y, root A = y := ⟨_, rfl⟩
  obtain ⟨y, hy⟩ : ∃ y, A.getD i ⟨#[]⟩ = y := ⟨_, rfl⟩
  obtain ⟨P, hP⟩ : ∃ y, path A i = y := ⟨_, rfl⟩
  rw [hP] at hPl hPa CP CK
  rw [hR] at CR CK
  rw [hy] at CK hyz
  have HY := Lib.hid hy
  have HSP : Hid (Short p 40) := Lib.hid sp
  have HSQ : Hid (Short P 40) := Lib.hid fun s hs => by rw [hPa s hs]; omega
  have HAl := Lib.hid hal
  have hd1 : decide ((i : Int) < 0) = false := by simp
  have hd2 : decide (n ≤ i) = false := by simp; omega
  have hd3 : decide (7 < P.length) = false := by simp; omega
  have hin : i < A.length := by omega
  clear hv hp hk h1 h2 sl sp SL hA hn hSA hPa hR hy hP hal ha
  go_enter Tryd.func4, Tryd.ntmps4
  go_wp2_with fail
  refine (small_any w HK.out).mono ?_
  rintro e w0 ⟨rfl, b1⟩
  have HB0 := Lib.hid b1
  clear b1
  go_wp2_with fail
  refine (C1.out _ HB0.out).mono ?_
  rintro e w1 ⟨rfl, rfl⟩
  go_wp2_with fail
  refine (C2.out _ HB0.out).mono ?_
  rintro e w1 ⟨rfl, rfl⟩
  go_wp2_with fail
  refine (CL.out _ HB0.out).mono ?_
  rintro e w1 ⟨v1, rfl, ho, b1⟩
  have HB1 : Hid (Below w.heap.size w w1) := Lib.hid (HB0.out.trans (b1.mono HB0.out.size))
  have hva := ho.sv
  clear ho b1
  obtain ⟨pa, ca, rfl, _, _⟩ := hva.shape
  have HV1 := Lib.hid hva
  clear hva
  go_wp2_with fail
  refine (CR.out _ _ HB1.out HV1.out).mono ?_
  rintro e w2 ⟨rfl, b1⟩
  have HB2 : Hid (Below w.heap.size w w2) := Lib.hid (HB1.out.trans (b1.mono HB1.out.size))
  have HV2 := Lib.hid (HV1.out.below b1 (Nat.le_refl _))
  clear b1
  go_wp2_with fail
  refine (CP.out _ _ HB2.out HV2.out).mono ?_
  rintro e w3 ⟨v3, rfl, ho, b1⟩
  have HB3 : Hid (Below w.heap.size w w3) := Lib.hid (HB2.out.trans (b1.mono HB2.out.size))
  have HV3 := Lib.hid (HV2.out.below b1 (Nat.le_refl _))
  have hvq := ho.sv
  clear ho b1
  obtain ⟨pq, cq, rfl, _, _⟩ := hvq.shape
  have HQ3 := Lib.hid hvq
  clear hvq
  obtain ⟨g, o, c, hpv, hg, _, _, hc⟩ := HV3.out.row (by omega)
  simp only [Value.slice.injEq, true_and] at hpv
  obtain ⟨rfl, -⟩ := hpv
  have c3 := hc i hin
  rw [HY.out] at c3
  clear hc
  go_wp2_with fail
  refine (CK.out _ _ HB3.out HQ3.out).mono ?_
  rintro e w4 ⟨rfl, b1⟩
  have HB4 : Hid (Below w.heap.size w w4) := Lib.hid (HB3.out.trans (b1.mono HB3.out.size))
  have HV4 := Lib.hid (HV3.out.below b1 (Nat.le_refl _))
  have HQ4 := Lib.hid (HQ3.out.below b1 (Nat.le_refl _))
  clear b1 c3
  go_wp2_with fail
  refine (CO.out w4 _ _ x p HB4.out HV4.out (HP.out.below HB4.out (Nat.le_refl _)) hx HSP.out (by omega)).mono ?_
  rintro e w5 ⟨rfl, b1⟩
  have HB5 : Hid (Below w.heap.size w w5) := Lib.hid (HB4.out.trans (b1.mono HB4.out.size))
  have HV5 := Lib.hid (HV4.out.below b1 (Nat.le_refl _))
  have HQ5 := Lib.hid (HQ4.out.below b1 (Nat.le_refl _))
  clear b1
  go_wp2_with fail
  refine (CO.out w5 _ _ x P HB5.out HV5.out HQ5.out hx HSQ.out (by omega)).mono ?_
  rintro e w6 ⟨rfl, b1⟩
  have HB6 : Hid (Below w.heap.size w w6) := Lib.hid (HB5.out.trans (b1.mono HB5.out.size))
  have HV6 := Lib.hid (HV5.out.below b1 (Nat.le_refl _))
  clear b1
  obtain ⟨g', o', c', hpv, hg', _, _, hc⟩ := HV6.out.row (by omega)
  simp only [Value.slice.injEq, true_and] at hpv
  obtain ⟨hpv, -⟩ := hpv
  obtain ⟨rfl, rfl⟩ : g = g' ∧ o = o' := by simpa using hpv
  have c6 := hc i hin
  rw [HY.out] at c6
  clear hc hpv
  go_wp2_with fail
  refine (CO.out w6 _ _ y p HB6.out HV6.out (HP.out.below HB6.out (Nat.le_refl _)) (by omega) HSP.out (by omega)).mono ?_
  rintro e w7 ⟨rfl, b1⟩
  have HB7 : Hid (Below w.heap.size w w7) := Lib.hid (HB6.out.trans (b1.mono HB6.out.size))
  clear b1
  go_wp2
  go_ret
  exact ⟨rfl, HB7.out⟩
theorem mpaths_walk (l p : List ByteArray) (v vp : Value) (i : Int) (x : ByteArray) (w : World) (hv : SV w v l) (hp : SV w vp p) (hk : OKW w) (hx : x.size ≤ maxLen) :
    Calls Tryd.prog 4 #[v, .int .i64 i, .string x, vp] w fun e w' => e = .returned (.bool true) ∧ Below w.heap.size w w' := by
  cases h1 : fewB l with
  | false => exact mpaths_head l p v vp i x w hv hp hk hx (.inl h1)
  | true =>
    cases h2 : fewB p with
    | false => exact mpaths_head l p v vp i x w hv hp hk hx (.inr (.inl ⟨h1, h2⟩))
    | true =>
      by_cases h3 : i < 0
      · exact mpaths_head l p v vp i x w hv hp hk hx (.inr (.inr (.inl ⟨h1, h2, h3⟩)))
      · by_cases h4 : (l.length : Int) ≤ i
        · exact mpaths_head l p v vp i x w hv hp hk hx (.inr (.inr (.inr (.inl ⟨h1, h2, by omega, h4⟩))))
        · by_cases h5 : 40 < x.size
          · exact mpaths_head l p v vp i x w hv hp hk hx (.inr (.inr (.inr (.inr ⟨h1, h2, by omega, by omega, h5⟩))))
          · obtain ⟨I, rfl⟩ := Int.eq_ofNat_of_zero_le (show 0 ≤ i by omega)
            exact mpaths_main l p v vp I x w hv hp hk h1 h2 (by omega) (by omega)
end Go.Proofs.YtmapodkdnbbjgaaDoor
