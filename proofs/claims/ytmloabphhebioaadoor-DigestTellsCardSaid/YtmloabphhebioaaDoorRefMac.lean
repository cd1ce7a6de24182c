/- missiveref03.Mac: the walk, from a contract of Sum. -/
import Derived.Test.YtmloabphhebioaaDoorRefShort
namespace Go.Proofs.YtmloabphhebioaaDoor
open Go.RowKit Dg
theorem rmixed54 (s : ByteArray) (w : World) : Calls Tryd.prog 39 #[.string s, .int .i64 54] w fun e w' => e = .returned (.string (bs (maskL s.data.toList 54))) ∧ Below w.heap.size w w' := rmixed_any s 54 w
theorem rmixed92 (s : ByteArray) (w : World) : Calls Tryd.prog 39 #[.string s, .int .i64 92] w fun e w' => e = .returned (.string (bs (maskL s.data.toList 92))) ∧ Below w.heap.size w w' := rmixed_any s 92 w
set_option maxHeartbeats 1000000 in
theorem rmac_any (H : RSum) (key s : ByteArray) (w : World) (hk : key.size ≤ 1000000) (hs : s.size ≤ 900000) :
    Calls Tryd.prog 27 #[.string key, .string s] w fun e w' => e = .returned (.string (bs (macL key.data.toList s.data.toList))) ∧ Below w.heap.size w w' := by
  obtain ⟨V, hV⟩ : ∃ V, bs (macL key.data.toList s.data.toList) = V := ⟨_, rfl⟩
  rw [hV]
  have HV := Lib.hid hV
  have HH := Lib.hid H
  clear hV H
  -- the two digests, from the key that is masked
  obtain ⟨k2, hk2⟩ : ∃ k2, bs (keyL key.data.toList) = k2 := ⟨_, rfl⟩
  obtain ⟨A, hA⟩ : ∃ A, bs (maskL (keyL key.data.toList) 54) = A := ⟨_, rfl⟩
  obtain ⟨B, hB⟩ : ∃ B, bs (maskL (keyL key.data.toList) 92) = B := ⟨_, rfl⟩
  have hAl : A.size = 64 := by rw [← hA]; exact maskL_len _ _
  have hBl : B.size = 64 := by rw [← hB]; exact maskL_len _ _
  obtain ⟨I, hI⟩ : ∃ I, bs (sumL (A ++ s).data.toList) = I := ⟨_, rfl⟩
  have hIl : I.size = 32 := by rw [← hI]; exact sumL_len _
  have hm1 := fun W => rmixed54 k2 W
  have hm2 := fun W => rmixed92 k2 W
  have hkd : k2.data.toList = keyL key.data.toList := by rw [← hk2]; rfl
  rw [hkd, hA] at hm1
  rw [hkd, hB] at hm2
  have hAs : (A ++ s).size ≤ 1000000 := by rw [ByteArray.size_append]; omega
  have hBI : (B ++ I).size ≤ 1000000 := by rw [ByteArray.size_append]; omega
  have hs1 := fun W => HH.out (A ++ s) W hAs
  rw [hI] at hs1
  have hs2 := fun W => HH.out (B ++ I) W hBI
  have hfin : bs (sumL (B ++ I).data.toList) = V := by
    have e1 : (A ++ s).data.toList = maskL (keyL key.data.toList) 54 ++ s.data.toList := by rw [← hA]; simp [bs]
    have e2 : (B ++ I).data.toList = maskL (keyL key.data.toList) 92 ++ sumL (maskL (keyL key.data.toList) 54 ++ s.data.toList) := by rw [← hB, ← hI, e1]; simp [bs]
    rw [← HV.out, macL, e2]
  rw [hfin] at hs2
  have HM1 := Lib.hid hm1; have HM2 := Lib.hid hm2; have HS1 := Lib.hid hs1; have HS2 := Lib.hid hs2
  clear hA hB hI hkd hAs hBI hm1 hm2 hs1 hs2 hfin
  by_cases hkl : 64 < key.size
  · have hsk := HH.out key w hk
    have e : bs (sumL key.data.toList) = k2 := by rw [← hk2]; unfold keyL; rw [if_pos (show 64 < key.data.toList.length from hkl)]
    rw [e] at hsk
    clear e hk2
    go_enter Tryd.func27, Tryd.ntmps27
    go_wp2_with fail
    refine hsk.mono ?_
    rintro e w1 ⟨rfl, b⟩
    have HB1 := Lib.hid b
    clear b hsk
    go_wp2_with fail
    refine (HM1.out _).mono ?_
    rintro e w2 ⟨rfl, b⟩
    have HB2 := Lib.hid (HB1.out.trans (b.mono HB1.out.size))
    clear b
    go_wp2_with fail
    refine (HS1.out _).mono ?_
    rintro e w3 ⟨rfl, b⟩
    have HB3 := Lib.hid (HB2.out.trans (b.mono HB2.out.size))
    clear b
    go_wp2_with fail
    refine (HM2.out _).mono ?_
    rintro e w4 ⟨rfl, b⟩
    have HB4 := Lib.hid (HB3.out.trans (b.mono HB3.out.size))
    clear b
    go_wp2_with fail
    refine (HS2.out _).mono ?_
    rintro e w5 ⟨rfl, b⟩
    have HB5 := Lib.hid (HB4.out.trans (b.mono HB4.out.size))
    clear b
    go_wp2
    go_ret
    exact ⟨rfl, HB5.out⟩
  · have e : key = k2 := by rw [← hk2]; unfold keyL; rw [if_neg (show ¬ 64 < key.data.toList.length from hkl)]; rfl
    subst e
    clear hk2
    go_enter Tryd.func27, Tryd.ntmps27
    go_wp2_with fail
    refine (HM1.out _).mono ?_
    rintro e w2 ⟨rfl, b⟩
    have HB2 := Lib.hid b
    clear b
    go_wp2_with fail
    refine (HS1.out _).mono ?_
    rintro e w3 ⟨rfl, b⟩
    have HB3 := Lib.hid (HB2.out.trans (b.mono HB2.out.size))
    clear b
    go_wp2_with fail
    refine (HM2.out _).mono ?_
    rintro e w4 ⟨rfl, b⟩
    have HB4 := Lib.hid (HB3.out.trans (b.mono HB3.out.size))
    clear b
    go_wp2_with fail
    refine (HS2.out _).mono ?_
    rintro e w5 ⟨rfl, b⟩
    have HB5 := Lib.hid (HB4.out.trans (b.mono HB4.out.size))
    clear b
    go_wp2
    go_ret
    exact ⟨rfl, HB5.out⟩
end Go.Proofs.YtmloabphhebioaaDoor
