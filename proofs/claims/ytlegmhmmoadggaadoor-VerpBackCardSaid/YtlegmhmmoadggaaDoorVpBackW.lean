/- missivelaw38.VerpBack: the walk. -/
import Derived.Test.YtlegmhmmoadggaaDoorVpLaws
namespace Go.Proofs.YtlegmhmmoadggaaDoor
open Go.RowKit Wr Vp
open Dg hiding bs bs_size bs_data
theorem parse_to (k s : ByteArray) (w : World) (hE : VE w) (hk : k.size ≤ 1000000) (hs : s.size ≤ 400000) (ki n : Int) (u : ByteArray) (o : Bool) (ho : parse k.data.toList s.data.toList = ⟨ki, n, u.data.toList, o⟩) :
    Calls Tryd.prog 7 #[.string k, .string s] w fun e w' => e = .returned (.tuple #[.int .i64 ki, .int .i64 n, .string u, .bool o]) ∧ Below w.heap.size w w' :=
  (parse_any k s w hE hk hs).mono fun e w' ⟨h, hb⟩ => ⟨by rw [h, ho]; rfl, hb⟩
set_option maxRecDepth 100000 in
set_option maxHeartbeats 1000000 in
theorem back_walk (k : ByteArray) (n : Int) (u : ByteArray) (w : World) (hn : I64 n) (hE : VE w) :
    Calls Tryd.prog 5 #[.string k, .int .i64 n, .string u] w fun e w' => e = .returned (.bool true) ∧ Below w.heap.size w w' := by
  have HE := Lib.hid hE
  have HN := Lib.hid hn
  clear hE hn
  by_cases hk : 300 < k.size
  · go_enter Tryd.func5, Tryd.ntmps5
    go_wp2_with fail
    refine (small_any w HE.out).mono ?_
    rintro e w1 ⟨rfl, hb⟩
    have HB1 := Lib.hid hb
    clear hb
    go_wp2
    go_ret
    exact ⟨rfl, HB1.out⟩
  · by_cases hs : 300 < u.size
    · go_enter Tryd.func5, Tryd.ntmps5
      go_wp2_with fail
      refine (small_any w HE.out).mono ?_
      rintro e w1 ⟨rfl, hb⟩
      have HB1 := Lib.hid hb
      clear hb
      go_wp2
      go_ret
      exact ⟨rfl, HB1.out⟩
    · have HNM := Lib.hid (I64_max HN.out)
      have hul : u.data.toList.length ≤ 300 := by rw [bs_len]; omega
      go_enter Tryd.func5, Tryd.ntmps5
      go_wp2_with fail
      refine (small_any w HE.out).mono ?_
      rintro e w1 ⟨rfl, hb⟩
      have HB1 := Lib.hid hb
      have HE1 := Lib.hid (HE.out.step hb)
      clear hb
      go_wp2_with fail
      refine (bounce_any k n w1 HE1.out (by omega) HN.out).mono ?_
      rintro e w2 ⟨rfl, hb⟩
      have HB2 := Lib.hid (Bt HB1.out hb)
      have HE2 := Lib.hid (HE1.out.step hb)
      clear hb
      have l1 := local_len k.data.toList 1 (content 1 (max n 0) [])
      have z1 := content_len (k := 1) (u := []) HNM.out (Nat.zero_le _)
      obtain ⟨a, ha⟩ : ∃ a, a = bs (localV k.data.toList 1 (content 1 (max n 0) [])) := ⟨_, rfl⟩
      rw [← ha]
      have has : a.size ≤ 1000 := by rw [ha, bs_size]; simp only [List.length_nil] at z1; omega
      have HP1 : Hid (parse k.data.toList (upper a.data.toList) = ⟨1, max n 0, (⟨#[]⟩ : ByteArray).data.toList, true⟩) := by
        show _ = _
        rw [ha, bs_data]
        exact back (k := 1) (n := max n 0) (u := []) (by omega) HNM.out (by omega) (Nat.zero_le _) (lower_upper_local _ _ _)
      clear ha l1 z1
      go_wp2_with fail
      refine (upper_any a w2 (by omega)).mono ?_
      rintro e w3 ⟨rfl, hb⟩
      have HB3 := Lib.hid (Bt HB2.out hb)
      have HE3 := Lib.hid (HE2.out.step hb)
      clear hb
      have l1 := upper_len a.data.toList
      rw [bs_len] at l1
      go_wp2_with fail
      refine (parse_to k (Dg.bs (upper a.data.toList)) w3 HE3.out (by omega) (by rw [Dg.bs_size]; omega) 1 (max n 0) ⟨#[]⟩ true HP1.out).mono ?_
      rintro e w4 ⟨rfl, hb⟩
      have HB4 := Lib.hid (Bt HB3.out hb)
      have HE4 := Lib.hid (HE3.out.step hb)
      clear hb l1
      go_wp2_with fail
      refine (vote_any k n u w4 HE4.out (by omega) HN.out (by omega)).mono ?_
      rintro e w5 ⟨rfl, hb⟩
      have HB5 := Lib.hid (Bt HB4.out hb)
      have HE5 := Lib.hid (HE4.out.step hb)
      clear hb
      have l1 := local_len k.data.toList 2 (content 2 (max n 0) u.data.toList)
      have z1 := content_len (k := 2) (u := u.data.toList) HNM.out (by omega)
      obtain ⟨b, hB⟩ : ∃ a, a = bs (localV k.data.toList 2 (content 2 (max n 0) u.data.toList)) := ⟨_, rfl⟩
      rw [← hB]
      have hbs : b.size ≤ 2000 := by rw [hB, bs_size]; omega
      have HP2 : Hid (parse k.data.toList b.data.toList = ⟨2, max n 0, u.data.toList, true⟩) := by
        show _ = _
        rw [hB, bs_data]
        exact back (k := 2) (n := max n 0) (u := u.data.toList) (by omega) HNM.out (by omega) (by omega) (lower_local _ _ _)
      clear hB l1 z1
      go_wp2_with fail
      refine (parse_to k b w5 HE5.out (by omega) (by omega) 2 (max n 0) u true HP2.out).mono ?_
      rintro e w6 ⟨rfl, hb⟩
      have HB6 := Lib.hid (Bt HB5.out hb)
      have HE6 := Lib.hid (HE5.out.step hb)
      clear hb
      go_wp2_with fail
      refine (confirm_any k u 0 w6 HE6.out (by omega) (by omega)).mono ?_
      rintro e w7 ⟨rfl, hb⟩
      have HB7 := Lib.hid (Bt HB6.out hb)
      have HE7 := Lib.hid (HE6.out.step hb)
      clear hb
      have l1 := local_len k.data.toList 3 (content 3 0 u.data.toList)
      have z1 := content_len (k := 3) (n := 0) (u := u.data.toList) ⟨by decide, by decide⟩ (by omega)
      obtain ⟨c, hc⟩ : ∃ a, a = bs (localV k.data.toList 3 (content 3 0 u.data.toList)) := ⟨_, rfl⟩
      rw [← hc]
      have hcs : c.size ≤ 2000 := by rw [hc, bs_size]; omega
      have HP3 : Hid (parse k.data.toList (upper c.data.toList) = ⟨3, 0, u.data.toList, true⟩) := by
        show _ = _
        rw [hc, bs_data]
        exact back (k := 3) (n := 0) (u := u.data.toList) (by omega) ⟨by decide, by decide⟩ (by omega) (by omega) (lower_upper_local _ _ _)
      clear hc l1 z1
      go_wp2_with fail
      refine (upper_any c w7 (by omega)).mono ?_
      rintro e w8 ⟨rfl, hb⟩
      have HB8 := Lib.hid (Bt HB7.out hb)
      have HE8 := Lib.hid (HE7.out.step hb)
      clear hb
      have l1 := upper_len c.data.toList
      rw [bs_len] at l1
      go_wp2_with fail
      refine (parse_to k (Dg.bs (upper c.data.toList)) w8 HE8.out (by omega) (by rw [Dg.bs_size]; omega) 3 0 u true HP3.out).mono ?_
      rintro e w9 ⟨rfl, hb⟩
      have HB9 := Lib.hid (Bt HB8.out hb)
      clear hb l1
      go_wp2
      go_ret
      exact ⟨rfl, HB9.out⟩
end Go.Proofs.YtlegmhmmoadggaaDoor
