/- missivelaw38: VerpOnly, VerpBack: the walks. -/
import Derived.Test.YtlegmhmmoadggaaDoorVpLaw
namespace Go.Proofs.YtlegmhmmoadggaaDoor
open Go.RowKit Wr Vp
open Dg hiding bs bs_size bs_data
namespace Vp
theorem lower_len (l : List UInt8) : (lower l).length = l.length := by unfold lower; simp
theorem local_ge (s : List UInt8) (k : Int) (c : List UInt8) : c.length ≤ (localV s k c).length := by
  unfold localV
  rw [List.length_append, List.length_cons, b32L_len, List.length_append, mac5_len]; omega
theorem content_ge {k : Int} (n : Int) (u : List UInt8) (h : k ≠ 1) : u.length ≤ (content k n u).length := by
  have e : u.length ≤ (etext u).length := by unfold etext; simp only [List.length_append, List.length_cons, List.length_nil]; omega
  unfold content
  rw [if_neg h]
  split
  · rw [List.length_append]; omega
  · exact e
end Vp
set_option maxRecDepth 100000 in
set_option maxHeartbeats 1000000 in
theorem only_walk (k s : ByteArray) (w : World) (hE : VE w) :
    Calls Tryd.prog 3 #[.string k, .string s] w fun e w' => e = .returned (.bool true) ∧ Below w.heap.size w w' := by
  have HE := Lib.hid hE
  clear hE
  by_cases hk : 300 < k.size
  · go_enter Tryd.func3, Tryd.ntmps3
    go_wp2_with fail
    refine (small_any w HE.out).mono ?_
    rintro e w1 ⟨rfl, hb⟩
    have HB1 := Lib.hid hb
    clear hb
    go_wp2
    go_ret
    exact ⟨rfl, HB1.out⟩
  · by_cases hs : 300 < s.size
    · go_enter Tryd.func3, Tryd.ntmps3
      go_wp2_with fail
      refine (small_any w HE.out).mono ?_
      rintro e w1 ⟨rfl, hb⟩
      have HB1 := Lib.hid hb
      clear hb
      go_wp2
      go_ret
      exact ⟨rfl, HB1.out⟩
    · go_enter Tryd.func3, Tryd.ntmps3
      go_wp2_with fail
      refine (small_any w HE.out).mono ?_
      rintro e w1 ⟨rfl, hb⟩
      have HB1 := Lib.hid hb
      have HE1 := Lib.hid (HE.out.step hb)
      clear hb
      go_wp2_with fail
      obtain ⟨⟨ki, n, u, ok⟩, ho⟩ : ∃ o, o = parse k.data.toList s.data.toList := ⟨_, rfl⟩
      refine (parse_as k s w1 HE1.out (by omega) (by omega) _ ho.symm).mono ?_
      rintro e w2 ⟨rfl, hb⟩
      have HB2 := Lib.hid (Bt HB1.out hb)
      have HE2 := Lib.hid (HE1.out.step hb)
      clear hb
      simp only
      cases ok with
      | false =>
        have hn := parse_none (secret := k.data.toList) (l := s.data.toList) (by rw [← ho])
        rw [← ho] at hn
        cases hn
        clear ho
        go_wp2
        go_ret
        exact ⟨rfl, HB2.out⟩
      | true =>
        have hp := parse_only (secret := k.data.toList) (l := s.data.toList) (by rw [← ho])
        rw [← ho] at hp
        simp only at hp
        obtain ⟨p1, p2, p3, p4, p5, p6, p7⟩ := hp
        have hul : u.length ≤ 300 := by
          have h1 := congrArg List.length p5
          rw [lower_len, bs_len] at h1
          have h2 := local_ge k.data.toList ki (content ki n u)
          by_cases e1 : ki = 1
          · rw [p6 e1]; exact Nat.zero_le _
          · have h3 := content_ge n u e1
            omega
        have HX : Hid (bs (localV k.data.toList ki (content ki (max n 0) u)) = Dg.bs (lower s.data.toList)) := by
          show _ = _
          rw [Int.max_eq_left p3, p5]; rfl
        have HN := Lib.hid p4
        clear p4 p5 ho
        have : ki = 1 ∨ ki = 2 ∨ ki = 3 := by omega
        rcases this with rfl | rfl | rfl
        · obtain rfl := p6 rfl
          obtain ⟨t, ht⟩ : ∃ t, t = bs (localV k.data.toList 1 (content 1 (max n 0) [])) := ⟨_, rfl⟩
          rw [← ht] at HX
          go_wp2_with fail
          refine (vwrite_any k 1 n (bs []) w2 HE2.out (by omega) (by omega) HN.out (by rw [bs_size]; exact Nat.zero_le _)).mono ?_
          rintro e w3 ⟨rfl, hb⟩
          have HB3 := Lib.hid (Bt HB2.out hb)
          clear hb
          rw [bs_data, ← ht]
          clear ht
          go_wp2_with fail
          refine (lower_any s w3 (by omega)).mono ?_
          rintro e w4 ⟨rfl, hb⟩
          have HB4 := Lib.hid (Bt HB3.out hb)
          clear hb
          rw [← HX.out]
          go_wp2
          go_ret
          exact ⟨rfl, HB4.out⟩
        · clear p6 p7
          obtain ⟨t, ht⟩ : ∃ t, t = bs (localV k.data.toList 2 (content 2 (max n 0) u)) := ⟨_, rfl⟩
          rw [← ht] at HX
          go_wp2_with fail
          refine (vwrite_any k 2 n (bs u) w2 HE2.out (by omega) (by omega) HN.out (by rw [bs_size]; omega)).mono ?_
          rintro e w3 ⟨rfl, hb⟩
          have HB3 := Lib.hid (Bt HB2.out hb)
          clear hb
          rw [bs_data, ← ht]
          clear ht
          go_wp2_with fail
          refine (lower_any s w3 (by omega)).mono ?_
          rintro e w4 ⟨rfl, hb⟩
          have HB4 := Lib.hid (Bt HB3.out hb)
          clear hb
          rw [← HX.out]
          go_wp2
          go_ret
          exact ⟨rfl, HB4.out⟩
        · obtain rfl := p7 rfl
          obtain ⟨t, ht⟩ : ∃ t, t = bs (localV k.data.toList 3 (content 3 (max 0 0) u)) := ⟨_, rfl⟩
          rw [← ht] at HX
          go_wp2_with fail
          refine (vwrite_any k 3 0 (bs u) w2 HE2.out (by omega) (by omega) HN.out (by rw [bs_size]; omega)).mono ?_
          rintro e w3 ⟨rfl, hb⟩
          have HB3 := Lib.hid (Bt HB2.out hb)
          clear hb
          rw [bs_data, ← ht]
          clear ht
          go_wp2_with fail
          refine (lower_any s w3 (by omega)).mono ?_
          rintro e w4 ⟨rfl, hb⟩
          have HB4 := Lib.hid (Bt HB3.out hb)
          clear hb
          rw [← HX.out]
          go_wp2
          go_ret
          exact ⟨rfl, HB4.out⟩
end Go.Proofs.YtlegmhmmoadggaaDoor
