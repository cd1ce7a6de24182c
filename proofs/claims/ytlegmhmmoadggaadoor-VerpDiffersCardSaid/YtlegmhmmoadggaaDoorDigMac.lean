/- digest.masked, Mac and Short. -/
import Derived.Test.YtlegmhmmoadggaaDoorDigSum
import Derived.Test.YtlegmhmmoadggaaDoorDigW64
namespace Go.Proofs.YtlegmhmmoadggaaDoor
open Go.RowKit Dg
/-- a key of a block's length -/
def padK (key : List UInt8) : List UInt8 := (List.range 64).map fun i => key.getD i 0
theorem padK_len (key : List UInt8) : (padK key).length = 64 := by simp [padK]
theorem maskL_len (key : List UInt8) (m : UInt8) : (maskL key m).length = 64 := by simp [maskL]
theorem padK_eq (key : List UInt8) : key.take 64 ++ (List.replicate 64 0).drop key.length = padK key := by
  apply List.ext_getElem?
  intro i
  simp only [padK, List.getElem?_append, List.length_take, List.getElem?_take, List.getElem?_drop, List.getElem?_map, List.getElem?_replicate]
  by_cases hi : i < 64
  · by_cases hk : i < key.length
    · simp [hi, hk, show i < min 64 key.length by omega]
    · simp [hi, hk, show ¬ i < min 64 key.length by omega, show key.length + (i - min 64 key.length) < 64 by omega]
  · have h1 : ¬ i < min 64 key.length := by omega
    simp [hi, h1]
    omega
/-- the key while it is masked: the first i bytes are done -/
def mixK (key : List UInt8) (m : UInt8) (i : Nat) : List UInt8 := (maskL key m).take i ++ (padK key).drop i
theorem mixK_get (key : List UInt8) (m : UInt8) (i : Nat) (h : i < 64) : (mixK key m i)[i]? = some (key.getD i 0) := by
  have e : ((maskL key m).take i).length = i := by rw [List.length_take, maskL_len]; omega
  rw [mixK, List.getElem?_append_right (by omega), e, Nat.sub_self, List.getElem?_drop, Nat.add_zero]
  simp [padK, h]
theorem mixK_set (key : List UInt8) (m : UInt8) (i : Nat) (h : i < 64) : (mixK key m i).set i (key.getD i 0 ^^^ m) = mixK key m (i + 1) := by
  have e : ((maskL key m).take i).length = i := by rw [List.length_take, maskL_len]; omega
  have e1 : (maskL key m).take (i + 1) = (maskL key m).take i ++ [key.getD i 0 ^^^ m] := by
    rw [List.take_succ_eq_append_getElem (by rw [maskL_len]; exact h)]; simp [maskL]
  have e2 : (padK key).drop i = key.getD i 0 :: (padK key).drop (i + 1) := by
    rw [List.drop_eq_getElem_cons (by rw [padK_len]; exact h)]; simp [padK]
  rw [mixK, mixK, e1, e2, List.set_append_right _ _ (by omega), e, Nat.sub_self]; simp
theorem xor8 (x m : UInt8) : bits .xor .u8 (x.toNat : Int) (m.toNat : Int) = ((x ^^^ m).toNat : Int) := by
  rw [u8_xor_nat _ _ (w8_lt x) (w8_lt m), UInt8.toNat_xor]
theorem make64 (w : World) : (Instr.makeSlice 45 (.int .i64 64) (.int .i64 64)).run Tryd.prog w = .ok (.slice (some ⟨w.heap.size, 0, none⟩) 64 64) (w.alloc (.cells (cb (List.replicate 64 0)) 5)) := by kernel_rfl
set_option maxRecDepth 100000 in
set_option maxHeartbeats 1000000 in
theorem masked_any (s : ByteArray) (m : UInt8) (w : World) :
    Calls Tryd.prog 51 #[.string s, .int .u8 m.toNat] w fun e w' => e = .returned (.string (bs (maskL s.data.toList m))) ∧ Below w.heap.size w w' := by
  have hmk := make64
  have hbi : (Tryd.prog.info? 5).map (·.size) = some 1 := by kernel_rfl
  have HBI := Lib.hid hbi
  clear hbi
  go_enter Tryd.func51, Tryd.ntmps51
  go_wp2_with ((with_reducible show wpList _ _ _ (Oper.mk (some 10) _ _ _ _ _ :: _) _ _); refine wpList_copy_str rfl _ _ 45 9 rfl 5 Tryd.underlying45 HBI.out w.heap.size 64 64 s rfl rfl (List.replicate 64 0) 5 (heap_alloc_new w _) (by simp) ?_; generalize hW : World.setRow _ _ _ = W2; have R2 : Hid (W2.heap[w.heap.size]? = some (.cells (cb (mixK s.data.toList m 0)) 5 (0, 0))) := (by show _ = _; rw [← hW, ← ByteArray.size_data] at *; refine (setRow_heap _ _ _ _ _ _ (heap_alloc_new w _)).trans ?_; rw [show s.data.size = s.data.toList.length by simp, padK_eq]; rfl); have B2 : Hid (Below w.heap.size w W2) := (by show Below _ _ _; rw [← hW]; exact below_setRow ((Below.refl _ _).alloc (Nat.le_refl _) _) (Nat.le_refl _) _); clear hW)
  clear hmk HBI
  go_loopw [6, 13] (fun _ i wr => ∃ k : Nat, k ≤ 64 ∧ i = .int .i64 k ∧ wr.heap[w.heap.size]? = some (.cells (cb (mixK s.data.toList m k)) 5 (0, 0)) ∧ Below w.heap.size w wr) (fun _ i _ => 64 - (intOf i).toNat)
  case atStart => exact ⟨0, by omega, rfl, R2.out, B2.out⟩
  case round =>
    clear R2 B2
    obtain ⟨k, hk, rfl, hr, hb⟩ := hrel
    by_cases hk64 : k < 64
    · have c1 : wr.cell? ⟨w.heap.size, k, none⟩ = some (.int .u8 (s.data.toList.getD k 0).toNat) := cell_cb hr k _ (mixK_get _ m k hk64)
      have f1 := frozen_of_row wr w.heap.size k _ _ hr
      have HR : Hid ((wr.setCell ⟨w.heap.size, k, none⟩ (.int .u8 (s.data.toList.getD k 0 ^^^ m).toNat)).heap[w.heap.size]? = some (.cells (cb (mixK s.data.toList m (k + 1))) 5 (0, 0))) :=
        (set_cb hr k _).trans (by rw [mixK_set _ m k hk64])
      have HB := Lib.hid (hb.setCell (p := ⟨w.heap.size, k, none⟩) (Nat.le_refl _) (.int .u8 (s.data.toList.getD k 0 ^^^ m).toNat))
      obtain ⟨x, hx⟩ : ∃ x, x = s.data.toList.getD k 0 := ⟨_, rfl⟩
      rw [← hx] at c1 HR HB
      have r1 := xor8 x m
      obtain ⟨y, hy⟩ : ∃ y, y = x ^^^ m := ⟨_, rfl⟩
      rw [← hy] at r1 HR HB
      clear hx hy hr hb
      go_wp2
      go_roundw
      case rel => exact ⟨k + 1, by omega, by go_num, HR.out, HB.out⟩
      case measure => simp [intOf]; omega
    · have e : mixK s.data.toList m k = maskL s.data.toList m := by
        have h1 : (padK s.data.toList).drop k = [] := List.drop_eq_nil_of_le (by rw [padK_len]; omega)
        rw [mixK, h1, List.append_nil, List.take_of_length_le (by rw [maskL_len]; omega)]
      rw [e] at hr
      have hcv : (convert 45 9 (.slice (some ⟨w.heap.size, 0, none⟩) 64 64)).run Tryd.prog wr = .ok (.string (bs (maskL s.data.toList m))) wr :=
        run_str_cells (P := Tryd.prog) wr 45 5 9 Tryd.underlying45 Tryd.underlying5 Tryd.underlying9 w.heap.size 0 64 64 (maskL s.data.toList m) (maskL_len _ _)
          (fun i hi => by rw [Nat.zero_add, cell_of_row wr _ i _ _ _ hr]; simp [cb])
      have HB := Lib.hid hb
      clear e hr hb
      go_wp2
      go_ret
      exact ⟨rfl, HB.out⟩
theorem sumL_len (l : List UInt8) : (sumL l).length = 32 := by simp [sumL, St.list, bytes4]
theorem keyL_len (k : List UInt8) : (keyL k).length ≤ 64 := by
  unfold keyL; split
  · rw [sumL_len]; omega
  · omega
theorem bs_append (a b : List UInt8) : bs a ++ bs b = bs (a ++ b) := by
  apply ByteArray.ext; simp [bs, ByteArray.data_append]
set_option maxRecDepth 100000 in
set_option maxHeartbeats 1000000 in
theorem mac_any (key s : ByteArray) (w : World) (hk : key.size ≤ 1000000) (hs : s.size ≤ 900000) (hK : KOK w) (hg : 4 < w.heap.size) :
    Calls Tryd.prog 40 #[.string key, .string s] w fun e w' => e = .returned (.string (bs (macL key.data.toList s.data.toList))) ∧ Below w.heap.size w w' := by
  have HK := Lib.hid hK
  clear hK
  by_cases h64 : 64 < key.size
  · have HKL : Hid ((bs (sumL key.data.toList)).data.toList = keyL key.data.toList) := by
      show _ = _; rw [bs_data, keyL, if_pos (by simpa using h64)]
    go_enter Tryd.func40, Tryd.ntmps40
    go_wp2_with fail
    refine (sum_any key w hk HK.out hg).mono ?_
    rintro e w0 ⟨rfl, hb0⟩
    have HB0 := Lib.hid hb0
    clear hb0
    have z1 : (bs (maskL (bs (sumL key.data.toList)).data.toList 54)).size = 64 := maskL_len _ _
    have z2 : (bs (maskL (bs (sumL key.data.toList)).data.toList 92)).size = 64 := maskL_len _ _
    go_wp2_with fail
    refine (masked_any (bs (sumL key.data.toList)) 92 w0).mono ?_
    rintro e w1 ⟨rfl, hb1⟩
    have HB1 := Lib.hid (HB0.out.trans (hb1.mono HB0.out.size))
    clear hb1
    go_wp2_with fail
    refine (masked_any (bs (sumL key.data.toList)) 54 w1).mono ?_
    rintro e w2 ⟨rfl, hb2⟩
    have HB2 := Lib.hid (HB1.out.trans (hb2.mono HB1.out.size))
    clear hb2
    have HK2 : Hid (KOK w2) := fun i hi => (HB2.out.cell (p := ⟨_, i, none⟩) hg).trans (HK.out i hi)
    have hg2 : 4 < w2.heap.size := Nat.lt_of_lt_of_le hg HB2.out.size
    have HL1 : Hid ((bs (maskL (bs (sumL key.data.toList)).data.toList 54) ++ s).size ≤ 1000000) := by show _ ≤ _; rw [ByteArray.size_append, z1]; omega
    go_wp2_with fail
    refine (sum_any _ w2 HL1.out HK2.out hg2).mono ?_
    rintro e w3 ⟨rfl, hb3⟩
    have HB3 := Lib.hid (HB2.out.trans (hb3.mono HB2.out.size))
    clear hb3
    have HK3 : Hid (KOK w3) := fun i hi => (HB3.out.cell (p := ⟨_, i, none⟩) hg).trans (HK.out i hi)
    have hg3 : 4 < w3.heap.size := Nat.lt_of_lt_of_le hg HB3.out.size
    have HE : Hid ((bs (maskL (bs (sumL key.data.toList)).data.toList 54) ++ s).data.toList = maskL (bs (sumL key.data.toList)).data.toList 54 ++ s.data.toList) := by show _ = _; simp [bs]
    rw [HE.out]
    obtain ⟨Y, hY⟩ : ∃ Y, Y = sumL (maskL (bs (sumL key.data.toList)).data.toList 54 ++ s.data.toList) := ⟨_, rfl⟩
    have HY : Hid (Y.length = 32) := by show _ = _; rw [hY, sumL_len]
    have z3 : (bs Y).size = 32 := HY.out
    rw [← hY]
    have HYe := Lib.hid hY
    clear hY
    have HL3 : Hid ((bs (maskL (bs (sumL key.data.toList)).data.toList 92) ++ bs Y).size ≤ 1000000) := by show _ ≤ _; rw [ByteArray.size_append, z2, z3]; omega
    go_wp2_with fail
    refine (sum_any _ w3 HL3.out HK3.out hg3).mono ?_
    rintro e w4 ⟨rfl, hb4⟩
    have HB4 := Lib.hid (HB3.out.trans (hb4.mono HB3.out.size))
    clear hb4
    have HF : Hid ((bs (sumL (bs (maskL (bs (sumL key.data.toList)).data.toList 92) ++ bs Y).data.toList)) = bs (macL key.data.toList s.data.toList)) := by
      show _ = _
      rw [macL, ← HKL.out, ← HYe.out]; congr 2
    rw [HF.out]
    clear z1 z2 z3
    go_wp2
    go_ret
    exact ⟨rfl, HB4.out⟩
  · have HKL : Hid (key.data.toList = keyL key.data.toList) := by
      show _ = _; rw [keyL, if_neg (by simpa using h64)]
    have HB0 := Lib.hid (Below.refl w.heap.size w)
    go_enter Tryd.func40, Tryd.ntmps40
    have z1 : (bs (maskL (key).data.toList 54)).size = 64 := maskL_len _ _
    have z2 : (bs (maskL (key).data.toList 92)).size = 64 := maskL_len _ _
    go_wp2_with fail
    refine (masked_any (key) 92 w).mono ?_
    rintro e w1 ⟨rfl, hb1⟩
    have HB1 := Lib.hid (HB0.out.trans (hb1.mono HB0.out.size))
    clear hb1
    go_wp2_with fail
    refine (masked_any (key) 54 w1).mono ?_
    rintro e w2 ⟨rfl, hb2⟩
    have HB2 := Lib.hid (HB1.out.trans (hb2.mono HB1.out.size))
    clear hb2
    have HK2 : Hid (KOK w2) := fun i hi => (HB2.out.cell (p := ⟨_, i, none⟩) hg).trans (HK.out i hi)
    have hg2 : 4 < w2.heap.size := Nat.lt_of_lt_of_le hg HB2.out.size
    have HL1 : Hid ((bs (maskL (key).data.toList 54) ++ s).size ≤ 1000000) := by show _ ≤ _; rw [ByteArray.size_append, z1]; omega
    go_wp2_with fail
    refine (sum_any _ w2 HL1.out HK2.out hg2).mono ?_
    rintro e w3 ⟨rfl, hb3⟩
    have HB3 := Lib.hid (HB2.out.trans (hb3.mono HB2.out.size))
    clear hb3
    have HK3 : Hid (KOK w3) := fun i hi => (HB3.out.cell (p := ⟨_, i, none⟩) hg).trans (HK.out i hi)
    have hg3 : 4 < w3.heap.size := Nat.lt_of_lt_of_le hg HB3.out.size
    have HE : Hid ((bs (maskL (key).data.toList 54) ++ s).data.toList = maskL (key).data.toList 54 ++ s.data.toList) := by show _ = _; simp [bs]
    rw [HE.out]
    obtain ⟨Y, hY⟩ : ∃ Y, Y = sumL (maskL (key).data.toList 54 ++ s.data.toList) := ⟨_, rfl⟩
    have HY : Hid (Y.length = 32) := by show _ = _; rw [hY, sumL_len]
    have z3 : (bs Y).size = 32 := HY.out
    rw [← hY]
    have HYe := Lib.hid hY
    clear hY
    have HL3 : Hid ((bs (maskL (key).data.toList 92) ++ bs Y).size ≤ 1000000) := by show _ ≤ _; rw [ByteArray.size_append, z2, z3]; omega
    go_wp2_with fail
    refine (sum_any _ w3 HL3.out HK3.out hg3).mono ?_
    rintro e w4 ⟨rfl, hb4⟩
    have HB4 := Lib.hid (HB3.out.trans (hb4.mono HB3.out.size))
    clear hb4
    have HF : Hid ((bs (sumL (bs (maskL (key).data.toList 92) ++ bs Y).data.toList)) = bs (macL key.data.toList s.data.toList)) := by
      show _ = _
      rw [macL, ← HKL.out, ← HYe.out]; congr 2
    rw [HF.out]
    clear z1 z2 z3
    go_wp2
    go_ret
    exact ⟨rfl, HB4.out⟩
theorem num8_take (l : List UInt8) (k : Nat) (h : k < l.length) : num8 (l.take (k + 1)) = num8 (l.take k) * 256 + l[k].toNat := by
  rw [List.take_succ_eq_append_getElem h, num8_snoc]
theorem num8_lt (l : List UInt8) : num8 l < 256 ^ l.length := by
  have : ∀ (m : List UInt8) (n j : Nat), n < 256 ^ j → (m.map (·.toNat)).foldl (fun n d => n * 256 + d) n < 256 ^ (j + m.length) := by
    intro m
    induction m with
    | nil => intro n j h; simpa using h
    | cons c m ih =>
      intro n j h
      have hc := w8_lt c
      have := ih (n * 256 + c.toNat) (j + 1) (by rw [Nat.pow_succ]; omega)
      simpa [Nat.add_assoc, Nat.add_comm 1] using this
  have := this l 0 0 (by simp)
  simpa [num8, num] using this
theorem shortN_eq (l : List UInt8) : shortN l = num8 ((sumL l).take 8) / 16 := by
  simp only [shortN, num8, num, List.foldl_map]
end Go.Proofs.YtlegmhmmoadggaaDoor
