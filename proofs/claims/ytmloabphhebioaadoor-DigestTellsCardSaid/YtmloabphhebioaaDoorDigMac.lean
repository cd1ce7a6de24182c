/- digest.masked, Mac and Short. -/
import Derived.Test.YtmloabphhebioaaDoorDigSum
namespace Go.Proofs.YtmloabphhebioaaDoor
open Go.RowKit Dg
/-- a key of a block's length -/
def padK (key : List UInt8) : List UInt8 := (List.range 64).map fun i => key.getD i 0
theorem padK_len (key : List UInt8) : (padK key).length = 64 := by simp [padK]
theorem maskL_len (key : List UInt8) (m : UInt8) : (maskL key m).length = 64 := by simp [maskL]
theorem padK_eq (key : List UInt8) : key.take 64 ++ (List.replicate 64 0).drop key.length = padK key := by
  apply List.ext_getElem?
  intro i
  simp only [padK, List.getElem?_append, List.length_take, List.getElem?_take, List.getElem?_drop, List.getElem?_map, List.getElem?_replicate]
  by_cases hi : i < 64
  · by_cases hk : i < key.length
    · simp [hi, hk, show i < min 64 key.length by omega]
    · simp [hi, hk, show ¬ i < min 64 key.length by omega, show key.length + (i - min 64 key.length) < 64 by omega]
  · have h1 : ¬ i < min 64 key.length := by omega
    simp [hi, h1]
    omega
/-- the key while it is masked: the first i bytes are done -/
def mixK (key : List UInt8) (m : UInt8) (i : Nat) : List UInt8 := (maskL key m).take i ++ (padK key).drop i
theorem mixK_get (key : List UInt8) (m : UInt8) (i : Nat) (h : i < 64) : (mixK key m i)[i]? = some (key.getD i 0) := by
  have e : ((maskL key m).take i).length = i := by rw [List.length_take, maskL_len]; omega
  rw [mixK, List.getElem?_append_right (by omega), e, Nat.sub_self, List.getElem?_drop, Nat.add_zero]
  simp [padK, h]
theorem mixK_set (key : List UInt8) (m : UInt8) (i : Nat) (h : i < 64) : (mixK key m i).set i (key.getD i 0 ^^^ m) = mixK key m (i + 1) := by
  have e : ((maskL key m).take i).length = i := by rw [List.length_take, maskL_len]; omega
  have e1 : (maskL key m).take (i + 1) = (maskL key m).take i ++ [key.getD i 0 ^^^ m] := by
    rw [List.take_succ_eq_append_getElem (by rw [maskL_len]; exact h)]; simp [maskL]
  have e2 : (padK key).drop i = key.getD i 0 :: (padK key).drop (i + 1) := by
    rw [List.drop_eq_getElem_cons (by rw [padK_len]; exact h)]; simp [padK]
  rw [mixK, mixK, e1, e2, List.set_append_right _ _ (by omega), e, Nat.sub_self]; simp
theorem xor8 (x m : UInt8) : bits .xor .u8 (x.toNat : Int) (m.toNat : Int) = ((x ^^^ m).toNat : Int) := by
  rw [u8_xor_nat _ _ (w8_lt x) (w8_lt m), UInt8.toNat_xor]
theorem make64 (w : World) : (Instr.makeSlice 30 (.int .i64 64) (.int .i64 64)).run Tryd.prog w = .ok (.slice (some ⟨w.heap.size, 0, none⟩) 64 64) (w.alloc (.cells (cb (List.replicate 64 0)) 5)) := by kernel_rfl
set_option maxHeartbeats 1000000 in
theorem masked_any (s : ByteArray) (m : UInt8) (w : World) :
    Calls Tryd.prog 31 #[.string s, .int .u8 m.toNat] w fun e w' => e = .returned (.string (bs (maskL s.data.toList m))) ∧ Below w.heap.size w w' := by
  have hmk := make64
  have hbi : (Tryd.prog.info? 5).map (·.size) = some 1 := by kernel_rfl
  have HBI := Lib.hid hbi
  clear hbi
  go_enter Tryd.func31, Tryd.ntmps31
  go_wp2_with ((with_reducible show wpList _ _ _ (Oper.mk (some 10) _ _ _ _ _ :: _) _ _); refine wpList_copy_str rfl _ _ 30 9 rfl 5 Tryd.underlying30 HBI.out w.heap.size 64 64 s rfl rfl (List.replicate 64 0) 5 (heap_alloc_new w _) (by simp) ?_; generalize hW : World.setRow _ _ _ = W2; have R2 : Hid (W2.heap[w.heap.size]? = some (.cells (cb (mixK s.data.toList m 0)) 5 (0, 0))) := (by show _ = _; rw [← hW, ← ByteArray.size_data] at *; refine (setRow_heap _ _ _ _ _ _ (heap_alloc_new w _)).trans ?_; rw [show s.data.size = s.data.toList.length by simp, padK_eq]; rfl); have B2 : Hid (Below w.heap.size w W2) := (by show Below _ _ _; rw [← hW]; exact below_setRow ((Below.refl _ _).alloc (Nat.le_refl _) _) (Nat.le_refl _) _); clear hW)
  clear hmk HBI
  go_loopw [6, 13] (fun _ i wr => ∃ k : Nat, k ≤ 64 ∧ i = .int .i64 k ∧ wr.heap[w.heap.size]? = some (.cells (cb (mixK s.data.toList m k)) 5 (0, 0)) ∧ Below w.heap.size w wr) (fun _ i _ => 64 - (intOf i).toNat)
  case atStart => exact ⟨0, by omega, rfl, R2.out, B2.out⟩
  case round =>
    clear R2 B2
    obtain ⟨k, hk, rfl, hr, hb⟩ := hrel
    by_cases hk64 : k < 64
    · have c1 : wr.cell? ⟨w.heap.size, k, none⟩ = some (.int .u8 (s.data.toList.getD k 0).toNat) := cell_cb hr k _ (mixK_get _ m k hk64)
      have f1 := frozen_of_row wr w.heap.size k _ _ hr
      have HR : Hid ((wr.setCell ⟨w.heap.size, k, none⟩ (.int .u8 (s.data.toList.getD k 0 ^^^ m).toNat)).heap[w.heap.size]? = some (.cells (cb (mixK s.data.toList m (k + 1))) 5 (0, 0))) :=
        (set_cb hr k _).trans (by rw [mixK_set _ m k hk64])
      have HB := Lib.hid (hb.setCell (p := ⟨w.heap.size, k, none⟩) (Nat.le_refl _) (.int .u8 (s.data.toList.getD k 0 ^^^ m).toNat))
      obtain ⟨x, hx⟩ : ∃ x, x = s.data.toList.getD k 0 := ⟨_, rfl⟩
      rw [← hx] at c1 HR HB
      have r1 := xor8 x m
      obtain ⟨y, hy⟩ : ∃ y, y = x ^^^ m := ⟨_, rfl⟩
      rw [← hy] at r1 HR HB
      clear hx hy hr hb
      go_wp2
      go_roundw
      case rel => exact ⟨k + 1, by omega, by go_num, HR.out, HB.out⟩
      case measure => simp [intOf]; omega
    · have e : mixK s.data.toList m k = maskL s.data.toList m := by
        have h1 : (padK s.data.toList).drop k = [] := List.drop_eq_nil_of_le (by rw [padK_len]; omega)
        rw [mixK, h1, List.append_nil, List.take_of_length_le (by rw [maskL_len]; omega)]
      rw [e] at hr
      have hcv : (convert 30 9 (.slice (some ⟨w.heap.size, 0, none⟩) 64 64)).run Tryd.prog wr = .ok (.string (bs (maskL s.data.toList m))) wr :=
        run_str_cells (P := Tryd.prog) wr 30 5 9 Tryd.underlying30 Tryd.underlying5 Tryd.underlying9 w.heap.size 0 64 64 (maskL s.data.toList m) (maskL_len _ _)
          (fun i hi => by rw [Nat.zero_add, cell_of_row wr _ i _ _ _ hr]; simp [cb])
      have HB := Lib.hid hb
      clear e hr hb
      go_wp2
      go_ret
      exact ⟨rfl, HB.out⟩
theorem sumL_len (l : List UInt8) : (sumL l).length = 32 := by simp [sumL, St.list, bytes4]
theorem keyL_len (k : List UInt8) : (keyL k).length ≤ 64 := by
  unfold keyL; split
  · rw [sumL_len]; omega
  · omega
theorem bs_append (a b : List UInt8) : bs a ++ bs b = bs (a ++ b) := by
  apply ByteArray.ext; simp [bs, ByteArray.data_append]
set_option maxHeartbeats 1000000 in
theorem mac_any (key s : ByteArray) (w : World) (hk : key.size ≤ 1000000) (hs : s.size ≤ 900000) (hK : KOK w) (hg : 0 < w.heap.size) :
    Calls Tryd.prog 17 #[.string key, .string s] w fun e w' => e = .returned (.string (bs (macL key.data.toList s.data.toList))) ∧ Below w.heap.size w w' := by
  have HK := Lib.hid hK
  clear hK
  by_cases h64 : 64 < key.size
  · have HKL : Hid ((bs (sumL key.data.toList)).data.toList = keyL key.data.toList) := by
      show _ = _; rw [bs_data, keyL, if_pos (by simpa using h64)]
    go_enter Tryd.func17, Tryd.ntmps17
    go_wp2_with fail
    refine (sum_any key w hk HK.out hg).mono ?_
    rintro e w0 ⟨rfl, hb0⟩
    have HB0 := Lib.hid hb0
    clear hb0
    have z1 : (bs (maskL (bs (sumL key.data.toList)).data.toList 54)).size = 64 := maskL_len _ _
    have z2 : (bs (maskL (bs (sumL key.data.toList)).data.toList 92)).size = 64 := maskL_len _ _
    go_wp2_with fail
    refine (masked_any (bs (sumL key.data.toList)) 92 w0).mono ?_
    rintro e w1 ⟨rfl, hb1⟩
    have HB1 := Lib.hid (HB0.out.trans (hb1.mono HB0.out.size))
    clear hb1
    go_wp2_with fail
    refine (masked_any (bs (sumL key.data.toList)) 54 w1).mono ?_
    rintro e w2 ⟨rfl, hb2⟩
    have HB2 := Lib.hid (HB1.out.trans (hb2.mono HB1.out.size))
    clear hb2
    have HK2 : Hid (KOK w2) := fun i hi => (HB2.out.cell (p := ⟨_, i, none⟩) hg).trans (HK.out i hi)
    have hg2 : 0 < w2.heap.size := Nat.lt_of_lt_of_le hg HB2.out.size
    have HL1 : Hid ((bs (maskL (bs (sumL key.data.toList)).data.toList 54) ++ s).size ≤ 1000000) := by show _ ≤ _; rw [ByteArray.size_append, z1]; omega
    go_wp2_with fail
    refine (sum_any _ w2 HL1.out HK2.out hg2).mono ?_
    rintro e w3 ⟨rfl, hb3⟩
    have HB3 := Lib.hid (HB2.out.trans (hb3.mono HB2.out.size))
    clear hb3
    have HK3 : Hid (KOK w3) := fun i hi => (HB3.out.cell (p := ⟨_, i, none⟩) hg).trans (HK.out i hi)
    have hg3 : 0 < w3.heap.size := Nat.lt_of_lt_of_le hg HB3.out.size
    have HE : Hid ((bs (maskL (bs (sumL key.data.toList)).data.toList 54) ++ s).data.toList = maskL (bs (sumL key.data.toList)).data.toList 54 ++ s.data.toList) := by show _ = _; simp [bs]
    rw [HE.out]
    obtain ⟨Y, hY⟩ : ∃ Y, Y = sumL (maskL (bs (sumL key.data.toList)).data.toList 54 ++ s.data.toList) := ⟨_, rfl⟩
    have HY : Hid (Y.length = 32) := by show _ = _; rw [hY, sumL_len]
    have z3 : (bs Y).size = 32 := HY.out
    rw [← hY]
    have HYe := Lib.hid hY
    clear hY
    have HL3 : Hid ((bs (maskL (bs (sumL key.data.toList)).data.toList 92) ++ bs Y).size ≤ 1000000) := by show _ ≤ _; rw [ByteArray.size_append, z2, z3]; omega
    go_wp2_with fail
    refine (sum_any _ w3 HL3.out HK3.out hg3).mono ?_
    rintro e w4 ⟨rfl, hb4⟩
    have HB4 := Lib.hid (HB3.out.trans (hb4.mono HB3.out.size))
    clear hb4
    have HF : Hid ((bs (sumL (bs (maskL (bs (sumL key.data.toList)).data.toList 92) ++ bs Y).data.toList)) = bs (macL key.data.toList s.data.toList)) := by
      show _ = _
      rw [macL, ← HKL.out, ← HYe.out]; congr 2
    rw [HF.out]
    clear z1 z2 z3
    go_wp2
    go_ret
    exact ⟨rfl, HB4.out⟩
  · have HKL : Hid (key.data.toList = keyL key.data.toList) := by
      show _ = _; rw [keyL, if_neg (by simpa using h64)]
    have HB0 := Lib.hid (Below.refl w.heap.size w)
    go_enter Tryd.func17, Tryd.ntmps17
    have z1 : (bs (maskL (key).data.toList 54)).size = 64 := maskL_len _ _
    have z2 : (bs (maskL (key).data.toList 92)).size = 64 := maskL_len _ _
    go_wp2_with fail
    refine (masked_any (key) 92 w).mono ?_
    rintro e w1 ⟨rfl, hb1⟩
    have HB1 := Lib.hid (HB0.out.trans (hb1.mono HB0.out.size))
    clear hb1
    go_wp2_with fail
    refine (masked_any (key) 54 w1).mono ?_
    rintro e w2 ⟨rfl, hb2⟩
    have HB2 := Lib.hid (HB1.out.trans (hb2.mono HB1.out.size))
    clear hb2
    have HK2 : Hid (KOK w2) := fun i hi => (HB2.out.cell (p := ⟨_, i, none⟩) hg).trans (HK.out i hi)
    have hg2 : 0 < w2.heap.size := Nat.lt_of_lt_of_le hg HB2.out.size
    have HL1 : Hid ((bs (maskL (key).data.toList 54) ++ s).size ≤ 1000000) := by show _ ≤ _; rw [ByteArray.size_append, z1]; omega
    go_wp2_with fail
    refine (sum_any _ w2 HL1.out HK2.out hg2).mono ?_
    rintro e w3 ⟨rfl, hb3⟩
    have HB3 := Lib.hid (HB2.out.trans (hb3.mono HB2.out.size))
    clear hb3
    have HK3 : Hid (KOK w3) := fun i hi => (HB3.out.cell (p := ⟨_, i, none⟩) hg).trans (HK.out i hi)
    have hg3 : 0 < w3.heap.size := Nat.lt_of_lt_of_le hg HB3.out.size
    have HE : Hid ((bs (maskL (key).data.toList 54) ++ s).data.toList = maskL (key).data.toList 54 ++ s.data.toList) := by show _ = _; simp [bs]
    rw [HE.out]
    obtain ⟨Y, hY⟩ : ∃ Y, Y = sumL (maskL (key).data.toList 54 ++ s.data.toList) := ⟨_, rfl⟩
    have HY : Hid (Y.length = 32) := by show _ = _; rw [hY, sumL_len]
    have z3 : (bs Y).size = 32 := HY.out
    rw [← hY]
    have HYe := Lib.hid hY
    clear hY
    have HL3 : Hid ((bs (maskL (key).data.toList 92) ++ bs Y).size ≤ 1000000) := by show _ ≤ _; rw [ByteArray.size_append, z2, z3]; omega
    go_wp2_with fail
    refine (sum_any _ w3 HL3.out HK3.out hg3).mono ?_
    rintro e w4 ⟨rfl, hb4⟩
    have HB4 := Lib.hid (HB3.out.trans (hb4.mono HB3.out.size))
    clear hb4
    have HF : Hid ((bs (sumL (bs (maskL (key).data.toList 92) ++ bs Y).data.toList)) = bs (macL key.data.toList s.data.toList)) := by
      show _ = _
      rw [macL, ← HKL.out, ← HYe.out]; congr 2
    rw [HF.out]
    clear z1 z2 z3
    go_wp2
    go_ret
    exact ⟨rfl, HB4.out⟩
theorem num8_take (l : List UInt8) (k : Nat) (h : k < l.length) : num8 (l.take (k + 1)) = num8 (l.take k) * 256 + l[k].toNat := by
  rw [List.take_succ_eq_append_getElem h, num8_snoc]
theorem num8_lt (l : List UInt8) : num8 l < 256 ^ l.length := by
  have : ∀ (m : List UInt8) (n j : Nat), n < 256 ^ j → (m.map (·.toNat)).foldl (fun n d => n * 256 + d) n < 256 ^ (j + m.length) := by
    intro m
    induction m with
    | nil => intro n j h; simpa using h
    | cons c m ih =>
      intro n j h
      have hc := w8_lt c
      have := ih (n * 256 + c.toNat) (j + 1) (by rw [Nat.pow_succ]; omega)
      simpa [Nat.add_assoc, Nat.add_comm 1] using this
  have := this l 0 0 (by simp)
  simpa [num8, num] using this
theorem shortN_eq (l : List UInt8) : shortN l = num8 ((sumL l).take 8) / 16 := by
  simp only [shortN, num8, num, List.foldl_map]
set_option maxHeartbeats 1000000 in
theorem short_any (s : ByteArray) (w : World) (hs : s.size ≤ 1000000) (hK : KOK w) (hg : 0 < w.heap.size) :
    Calls Tryd.prog 22 #[.string s] w fun e w' => e = .returned (.int .i64 (shortN s.data.toList)) ∧ Below w.heap.size w w' := by
  have HF := Lib.hid (shortN_eq s.data.toList)
  go_enter Tryd.func22, Tryd.ntmps22
  go_wp2_with fail
  refine (sum_any s w hs hK hg).mono ?_
  rintro e w1 ⟨rfl, hb1⟩
  have HB1 := Lib.hid hb1
  clear hb1 hK
  have HL : Hid (((sumL s.data.toList).take 8).length = 8) := by show _ = _; rw [List.length_take, sumL_len]; rfl
  have z1 : (bs (sumL s.data.toList)).size = 32 := sumL_len _
  have e1 : (bs (sumL s.data.toList)).extract 0 8 = bs ((sumL s.data.toList).take 8) := ext_take _ 8
  obtain ⟨D, hD⟩ : ∃ D, D = (sumL s.data.toList).take 8 := ⟨_, rfl⟩
  rw [← hD] at HL e1 HF
  clear hD
  have z2 : (bs D).size = 8 := HL.out
  go_wp2_with ((with_reducible show wpList _ _ _ (Oper.mk (some 9) _ _ _ _ _ :: _) _ _); refine wpList_to_bytes rfl 9 30 5 _ rfl (bs D) rfl Tryd.underlying9 Tryd.underlying30 Tryd.underlying5 (by rw [z2]; decide) w1.heap.size (Nat.le_refl _) ?_; intro v0 w3 hown hb3 hv0; obtain ⟨g, cap, rfl, hg1, hg2, hc1, hc2, hcell⟩ := hown.shape (by rw [z2]; decide); clear hown; rw [z2] at hcell hc1; rw [z2]; have HC := Lib.hid hcell; have HB3 := Lib.hid (HB1.out.trans (hb3.mono HB1.out.size)); clear hcell hb3 hv0 hc1 hc2)
  go_loop [3, 5, 11] (fun n _ i => ∃ k : Nat, k ≤ 8 ∧ i = .int .i64 k ∧ n = .int .u64 (w64 (num8 (D.take k)))) (fun _ _ i => 8 - (intOf i).toNat)
  case atStart => exact ⟨0, by omega, rfl, rfl⟩
  case round =>
    obtain ⟨k, hk, rfl, rfl⟩ := hrel
    by_cases hk8 : k < 8
    · have hlt : k < D.length := by rw [HL.out]; exact hk8
      have HS := Lib.hid (num8_take D k hlt)
      have c1 : w3.cell? ⟨g, k, none⟩ = some (.int .u8 D[k].toNat) := by
        rw [HC.out k (by omega), bs_data]; simp [Lib.byteCells, hlt]
      have r1 : bits .or .u64 (IntKind.u64.wrap (w64 (num8 (D.take k)) * 256)) (IntKind.u64.wrap (D[k].toNat : Int)) = w64 (num8 (D.take k) * 256 + D[k].toNat) := or64 _ 256 D[k].toNat 8 rfl (by decide) (w8_lt _)
      have r1b : bits .or .u64 (IntKind.u64.wrap (w64 (num8 (D.take k)) * 256)) (D[k].toNat : Int) = w64 (num8 (D.take k) * 256 + D[k].toNat) := by
        have h := w8_lt D[k]
        rwa [show IntKind.u64.wrap (D[k].toNat : Int) = (D[k].toNat : Int) by rw [IntKind.wrap_u64]; omega] at r1
      rw [← HS.out] at r1 r1b
      obtain ⟨N, hN⟩ : ∃ N, N = num8 (D.take (k + 1)) := ⟨_, rfl⟩
      rw [← hN] at r1 r1b
      have HN := Lib.hid hN
      clear hN HS
      go_wp2
      go_round
      case rel => exact ⟨k + 1, by omega, by go_num, by rw [HN.out]⟩
      case measure => simp [intOf]; omega
    · have e : k = 8 := by omega
      have hlt : num8 (D.take k) < 18446744073709551616 := by
        have := num8_lt (D.take k)
        rw [e, List.length_take, HL.out] at this
        rw [e]; exact this
      have hw : w64 (num8 (D.take k)) = ((num8 (D.take k) : Nat) : Int) := by unfold w64; rw [Nat.mod_eq_of_lt hlt]
      have hn : num8 (D.take k) = num8 D := by rw [e, List.take_of_length_le (by rw [HL.out]; omega)]
      rw [hn] at hw
      have r1 : w64 (num8 (D.take k)) / 16 = (shortN s.data.toList : Int) := by rw [hn, hw, HF.out]; simp
      have hb : shortN s.data.toList < 1152921504606846976 := by rw [HF.out, ← hn]; omega
      obtain ⟨Z, hZ⟩ : ∃ Z, Z = shortN s.data.toList := ⟨_, rfl⟩
      rw [← hZ] at r1 hb
      have HZ := Lib.hid hZ
      have hb2 : (Z : Int) ≤ 1152921504606846976 := by omega
      clear hlt hw hn hZ HF hb e
      go_wp2
      go_ret
      exact ⟨by rw [← HZ.out]; rfl, HB3.out⟩
end Go.Proofs.YtmloabphhebioaaDoor
