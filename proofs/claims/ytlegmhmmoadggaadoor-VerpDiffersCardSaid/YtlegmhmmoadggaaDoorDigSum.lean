/- digest.Sum. -/
import Derived.Test.YtlegmhmmoadggaaDoorDigProc
import Derived.Test.YtlegmhmmoadggaaDoorBldW
import Derived.Test.YtlegmhmmoadggaaDoorShelf
namespace Go.Proofs.YtlegmhmmoadggaaDoor
open Go.RowKit Dg
theorem iv_cells : cw iv.list = #[.int .u32 1779033703, .int .u32 3144134277, .int .u32 1013904242, .int .u32 2773480762, .int .u32 1359893119, .int .u32 2600822924, .int .u32 528734635, .int .u32 1541459225] := rfl
theorem begin_any (w : World) : Calls Tryd.prog 60 #[] w fun e w' => e = .returned (.agg (cw iv.list)) ∧ Below w.heap.size w w' := by
  go_enter Tryd.func60, Tryd.ntmps60
  go_wp2
  refine bodyPost_ret (v := .agg (cw iv.list)) (results_cell_row rfl _ _ w.heap.size 79 _ (0, 0) _ rfl (by rw [iv_cells]; exact heap_alloc_new w _) Tryd.underlying79 rfl (info_st _ (St_len _))) rfl ⟨rfl, (Below.refl _ _).alloc (Nat.le_refl _) _⟩
theorem run_index_st (l : List UInt32) (hl : l.length = 8) (i : Nat) (hi : i < 8) (w : World) :
    (Instr.index 79 (.agg (cw l)) (.int .i64 (i : Int))).run Tryd.prog w = .ok (.int .u32 (v32 (l.getD i 0))) w := by
  have e : (cw l)[i]? = some (.int .u32 (v32 (l.getD i 0))) := by
    simp only [cw, List.getElem?_toArray, List.getElem?_map]
    rw [List.getD_eq_getElem?_getD, List.getElem?_eq_getElem (by omega)]; rfl
  simp [Instr.index, run_underlying Tryd.underlying79, asIntOf, go_sem, e, hi]
theorem ext_drop (l : List UInt8) (k : Nat) : (bs l).extract k l.length = bs (l.drop k) := by
  apply ByteArray.ext
  simp only [bs, ByteArray.data_extract, List.extract_toArray]
  congr 1
  rw [List.extract_eq_take_drop, List.take_of_length_le (by simp)]
theorem ext_take (l : List UInt8) (k : Nat) : (bs l).extract 0 k = bs (l.take k) := by
  apply ByteArray.ext
  simp [bs, ByteArray.data_extract]
theorem run_step (l T : List UInt8) (st : St) (h : 64 ≤ l.length) :
    run ((l ++ T).length / 64) st (l ++ T) = run ((l.drop 64 ++ T).length / 64) (comp st (l.take 64)) (l.drop 64 ++ T) := by
  have e1 : (l ++ T).length / 64 = (l.drop 64 ++ T).length / 64 + 1 := by simp only [List.length_append, List.length_drop]; omega
  rw [e1]
  show run _ (comp st ((l ++ T).take 64)) ((l ++ T).drop 64) = _
  rw [List.take_append_of_le_length h, List.drop_append_of_le_length h]
def strLen : Value → Nat | .string s => s.size | _ => 0
def sliceLen : Value → Nat | .slice _ n _ => n | _ => 0
def zs (j : Nat) : List UInt8 := List.replicate j 0
theorem zs_succ (j : Nat) : zs (j + 1) = zs j ++ [0] := List.replicate_succ'
theorem bytes_one (c : UInt8) : ∀ u ∈ [Value.int .u8 (c.toNat : Int)], u.oneCell' = true := by intro u hu; simp at hu; subst hu; rfl
/-- a slice of n bytes of the call's own -/
def OB (w : World) (B : Nat) (v : Value) (n : Nat) (l : List UInt8) : Prop := Own w B 5 1 v n (Lib.byteCells l)
theorem OB.snoc {w : World} {B : Nat} {v : Value} {l : List UInt8} {n : Nat} {c : UInt8} (h : Own w B 5 1 v (n + 1) (Lib.byteCells l ++ [.int .u8 (c.toNat : Int)])) : OB w B v (n + 1) (l ++ [c]) := by
  unfold OB
  rw [Lib.byteCells_append]; exact h
theorem OB.len {w : World} {B : Nat} {v : Value} {l : List UInt8} {n : Nat} (h : OB w B v n l) : l.length = n := by
  have := h.1; simpa [Lib.byteCells] using this
theorem be64_len (n : Nat) : (be64 n).length = 8 := rfl
theorem be64_take (n k : Nat) (h : k < 8) : (be64 n).take (k + 1) = (be64 n).take k ++ [UInt8.ofNat (n / 2 ^ (8 * (7 - k)))] := by
  match k, h with
  | 0, _ => rfl
  | 1, _ => rfl
  | 2, _ => rfl
  | 3, _ => rfl
  | 4, _ => rfl
  | 5, _ => rfl
  | 6, _ => rfl
  | 7, _ => rfl
theorem be64_byte (n k : Nat) : (n : Int) * 8 / 2 ^ (8 * (7 - k)) % 256 = ((UInt8.ofNat (8 * n / 2 ^ (8 * (7 - k)))).toNat : Int) := by
  rw [UInt8.toNat_ofNat']
  have e : (n : Int) * 8 / 2 ^ (8 * (7 - k)) = ((8 * n / 2 ^ (8 * (7 - k)) : Nat) : Int) := by
    rw [Int.natCast_ediv, Int.natCast_mul, Int.mul_comm]; simp
  rw [e]; simp
theorem zeros_eq (l j : Nat) (_hl : l < 64) (hj : j ≤ zeros l) (h : (l + 1 + j) % 64 = 56) : j = zeros l := by unfold zeros at *; omega
theorem zeros_ne (l : Nat) : (l + 1 + zeros l) % 64 = 56 := by unfold zeros; omega
theorem zeros_le (l : Nat) : zeros l < 64 := by unfold zeros; omega
theorem zeros_mod (a b : Nat) (h : a % 64 = b) (_hb : b < 64) : zeros a = zeros b := by unfold zeros; omega
theorem byteCells_drop (r : List UInt8) (i : Nat) : (Lib.byteCells (r.drop 64))[i]? = (Lib.byteCells r)[64 + i]? := by
  simp [Lib.byteCells, List.getElem?_map, List.getElem?_drop]
theorem byteCells_take (r : List UInt8) (i : Nat) (h : i < 64) : (Lib.byteCells (r.take 64))[i]? = (Lib.byteCells r)[i]? := by
  simp [Lib.byteCells, List.getElem?_map, h]
theorem run_step0 (r : List UInt8) (st : St) (h : 64 ≤ r.length) : run (r.length / 64) st r = run ((r.drop 64).length / 64) (comp st (r.take 64)) (r.drop 64) := by
  have := run_step r [] st h; simpa using this
theorem byte_24 (x : UInt32) : v32 x / 16777216 % 256 = ((UInt8.ofNat (x.toNat / 16777216)).toNat : Int) := by
  rw [UInt8.toNat_ofNat']; unfold v32; omega
theorem byte_16 (x : UInt32) : v32 x / 65536 % 256 = ((UInt8.ofNat (x.toNat / 65536)).toNat : Int) := by
  rw [UInt8.toNat_ofNat']; unfold v32; omega
theorem byte_8 (x : UInt32) : v32 x / 256 % 256 = ((UInt8.ofNat (x.toNat / 256)).toNat : Int) := by
  rw [UInt8.toNat_ofNat']; unfold v32; omega
theorem byte_0 (x : UInt32) : v32 x % 256 = ((UInt8.ofNat x.toNat).toNat : Int) := by
  rw [UInt8.toNat_ofNat']; unfold v32; omega
theorem write4 (b : Nat) (l : List UInt8) (x : UInt32) (w0 w : World) (h : Bld b l w0) (hlen : l.length + 4 ≤ 140737488355328) (hB : b < w0.heap.size)
    (hw : w = w0.alloc (.cells #[.int .u8 ((x.toNat : Int) / 16777216 % 256), .int .u8 ((x.toNat : Int) / 65536 % 256), .int .u8 ((x.toNat : Int) / 256 % 256), .int .u8 ((x.toNat : Int) % 256)] 5)) :
    Calls Tryd.prog 62 #[.pointer (some ⟨b, 0, none⟩), .slice (some ⟨w0.heap.size, 0, none⟩) 4 4] w fun e w' => e = .returned (.tuple #[.int .i64 4, .nilIface]) ∧ Bld b (l ++ bytes4 x) w' ∧ Below b w0 w' := by
  have h2 : Bld b l w := by
    rw [hw]
    rcases h with h | h
    · exact .inl (h.alloc _)
    · exact .inr (h.alloc _)
  have hb0 : Below b w0 w := by rw [hw]; exact (Below.refl b w0).alloc (by omega) _
  refine (write_any b l (bytes4 x) ⟨w0.heap.size, 0, none⟩ 4 w h2 hlen (by rw [hw]; simp; omega) (by simp; omega) (by rw [hw]; simp) ?_).mono fun e w' ⟨h1, h2, h3, _⟩ => ⟨h1, h2, hb0.trans h3⟩
  intro j u hj
  have hc : w.heap[w0.heap.size]? = some (.cells #[.int .u8 ((x.toNat : Int) / 16777216 % 256), .int .u8 ((x.toNat : Int) / 65536 % 256), .int .u8 ((x.toNat : Int) / 256 % 256), .int .u8 ((x.toNat : Int) % 256)] 5 (0, 0)) := by rw [hw]; exact heap_alloc_new w0 _
  have hadd : (⟨w0.heap.size, 0, none⟩ : Addr).add j = ⟨w0.heap.size, j, none⟩ := by unfold Addr.add; split <;> simp_all
  rw [hadd, cell_of_row w _ j _ _ _ hc, ← hj]
  simp [Lib.byteCells, bytes4]
set_option maxRecDepth 100000 in
set_option maxHeartbeats 4000000 in
theorem sum_any (s : ByteArray) (w : World) (hs : s.size ≤ 1000000) (hK : KOK w) (hg : 4 < w.heap.size) :
    Calls Tryd.prog 50 #[.string s] w fun e w' => e = .returned (.string (bs (sumL s.data.toList))) ∧ Below w.heap.size w w' := by
  obtain ⟨L, rfl⟩ : ∃ L, s = bs L := ⟨s.data.toList, rfl⟩
  rw [bs_data]
  rw [bs_size] at hs
  have z0 : (bs L).size = L.length := rfl
  have HK := Lib.hid hK
  clear hK
  go_enter Tryd.func50, Tryd.ntmps50
  go_wp2_with fail
  refine (begin_any w).mono ?_
  rintro e w1 ⟨rfl, hb1⟩
  have HB1 := Lib.hid hb1
  have hsz1 := hb1.size
  clear hb1
  go_wp2_with ((with_reducible show wpList _ _ _ (Oper.mk none (Op.store 79 _ (.tmp 10)) _ _ _ _ :: _) _ _); refine wpList_store_row rfl 79 _ _ rfl w1.heap.size (cw iv.list) rfl rfl 79 _ (heap_alloc_new w1 _) (info_st _ (St_len _)) rfl (cw_one _) ?_; generalize hW : World.setRow _ _ _ = W2; have R2 : Hid (W2.heap[w1.heap.size]? = some (.cells (cw iv.list) 79 (0, 0))) := (by show _ = _; rw [← hW]; exact setRow_heap _ _ _ _ _ _ (heap_alloc_new w1 _)); have B2 : Hid (Below w1.heap.size w1 W2) := (by show Below _ _ _; rw [← hW]; exact below_setRow ((Below.refl _ _).alloc (Nat.le_refl _) _) (Nat.le_refl _) _); clear hW)
  obtain ⟨B, hB⟩ : ∃ B, B = w1.heap.size := ⟨_, rfl⟩
  rw [← hB] at hsz1 R2 B2 ⊢
  have BW : Hid (Below w.heap.size w W2) := HB1.out.trans (B2.out.mono hsz1)
  clear hB HB1 B2
  go_loopw [0] (fun v wr => ∃ (l : List UInt8) (st : St), v = .string (bs l) ∧ l.length ≤ L.length ∧ Hid (∀ T, run ((L ++ T).length / 64) iv (L ++ T) = run ((l ++ T).length / 64) st (l ++ T)) ∧ Hid (L.length % 64 = l.length % 64) ∧ wr.heap[B]? = some (.cells (cw st.list) 79 (0, 0)) ∧ Below w.heap.size w wr)
    (fun v _ => strLen v)
  case atStart => exact ⟨L, iv, rfl, Nat.le_refl _, fun _ => rfl, rfl, R2.out, BW.out⟩
  case round =>
    clear R2 BW
    obtain ⟨l, st, rfl, hl, HR, HM, hst, hb⟩ := hrel
    have HSt := Lib.hid hst
    have HBe := Lib.hid hb
    clear hst hb
    have z1 : (bs l).size = l.length := rfl
    by_cases h64 : 64 ≤ l.length
    · have e1 := ext_drop l 64
      have e2 := ext_take l 64
      have HK1 : Hid (KOK wr) := fun i hi => (HBe.out.cell (p := ⟨_, i, none⟩) hg).trans (HK.out i hi)
      have HR2 : Hid (∀ T, run ((L ++ T).length / 64) iv (L ++ T) = run ((l.drop 64 ++ T).length / 64) (comp st (l.take 64)) (l.drop 64 ++ T)) := fun T => (HR.out T).trans (run_step l T st h64)
      have HS4 : Hid ((bs (l.take 64)).size = 64) := by show (l.take 64).length = 64; rw [List.length_take]; omega
      have hz := HBe.out.size
      go_wp2_with fail
      refine (process_any _ st B wr HS4.out HSt.out HK1.out (by omega)).mono ?_
      rintro x w3 ⟨rfl, hst3, hf3⟩
      have HST : Hid (w3.heap[B]? = some (.cells (cw (comp st (l.take 64)).list) 79 (0, 0))) := hst3
      have HB3 : Hid (Below w.heap.size w w3) := HBe.out.trans (hf3.below HBe.out.size (fun i hi e => by omega))
      clear hst3 hf3
      go_wp2
      go_roundw
      case rel => exact ⟨l.drop 64, comp st (l.take 64), rfl, by rw [List.length_drop]; omega, HR2, by show _ = _; rw [HM.out, List.length_drop]; omega, HST.out, HB3.out⟩
      case measure => simp only [strLen, bs_size, List.length_drop]; omega
    · have hlB := lt_block HSt.out
      have HM2 : Hid (L.length % 64 = l.length) := by show _ = _; rw [HM.out]; omega
      have hl64 : l.length < 64 := by omega
      obtain ⟨i0, hi, hz0, hz1, hz2⟩ := info_parts byte_info
      clear HM h64
      go_wp2_with (first
        | ((with_reducible show wpList _ _ _ (Oper.mk (some 24) _ _ _ _ _ :: _) _ _); refine wpList_to_bytes rfl 9 45 5 _ rfl (bs l) rfl Tryd.underlying9 Tryd.underlying45 Tryd.underlying5 (by rw [bs_size]; unfold maxLen; omega) wr.heap.size (Nat.le_refl _) ?_; intro v0 w3 hown hb3 hv0)
        | (at_builtin; refine wpList_append_x rfl _ _ 45 rfl wr.heap.size 5 i0 (.int .u8 0) 1 1 Tryd.underlying45 hi hz0 hz1 hz2 rfl (by decide) _ _ _ rfl (hown.alloc _) ⟨w3.heap.size, 0, none⟩ 1 1 [.int .u8 128] rfl rfl (cell_one_new _ _ _) (bytes_one 128) (by rw [bs_size]; unfold maxLen; omega) (by rw [bs_size]; omega) (by have := hb3.size; simp; omega) ?_; intro v1 w4 hown1 hg1 _ _))
      have HO1 : Hid (OB w4 wr.heap.size v1 (l.length + 1) (l ++ [128])) := OB.snoc (c := 128) hown1
      have HB4 : Hid (Below wr.heap.size wr w4) := (hb3.alloc hb3.size _).grown hg1 (by have := hb3.size; simp; omega) (fun k hk => by
        have h2 : v0.ownBlock = some k := hk
        rw [hv0] at h2; simp at h2; omega)
      clear hown hb3 hv0 hown1 hg1
      obtain ⟨wo, rfl⟩ : ∃ wo : World, wo = wr := ⟨_, rfl⟩
      go_loopw [5] (fun v wr => ∃ (j n : Nat) (M : List UInt8), j ≤ zeros l.length ∧ n ≤ l.length + 1 + j ∧ l.length + 1 + j ≤ n ∧ Hid (M = l ++ [128] ++ zs j) ∧ OB wr wo.heap.size v n M ∧ Below wo.heap.size wo wr) (fun v _ => l.length + 65 - sliceLen v)
      case atStart => exact ⟨0, _, _, Nat.zero_le _, Nat.le_refl _, Nat.le_refl _, by simp [zs, Hid], HO1.out, HB4.out⟩
      case round =>
        clear HO1 HB4
        obtain ⟨j, n, M, hj, hn1, hn2, HM, hown, hb⟩ := hrel
        obtain ⟨a, cap, rfl, _, _⟩ := hown.shape'
        have hzl := zeros_le l.length
        have HOw := Lib.hid hown
        have HBo := Lib.hid hb
        clear hown hb
        by_cases he : n % 64 = 56
        · have r1 : ((n : Int) % 64 != 56) = false := by simp; omega
          have HP : Hid (M = l ++ [128] ++ zs (zeros L.length)) := by
            have h1 := zeros_eq l.length j hl64 hj (by rw [show l.length + 1 + j = n by omega]; exact he)
            have h2 := zeros_mod L.length l.length HM2.out hl64
            show _ = _; rw [HM.out, h2, h1]
          clear he HM
          go_wp2
          obtain ⟨wi, rfl⟩ : ∃ wi : World, wi = wr := ⟨_, rfl⟩
          go_loopw [5, 6, 34] (fun v _ i wr => ∃ (k m : Nat) (R : List UInt8), k ≤ 8 ∧ i = .int .i64 k ∧ m ≤ n + k ∧ n + k ≤ m ∧ Hid (R = M ++ (be64 (8 * L.length)).take k) ∧ OB wr wo.heap.size v m R ∧ Below wo.heap.size wo wr) (fun _ _ i _ => 8 - (intOf i).toNat)
          case atStart => exact ⟨0, n, M, by omega, rfl, Nat.le_refl _, Nat.le_refl _, by simp [Hid], HOw.out, HBo.out⟩
          case round =>
            clear HOw HBo
            obtain ⟨k, m, R, hk, rfl, hm1, hm2, HRr, hown, hb⟩ := hrel
            obtain ⟨a, cap, rfl, _, _⟩ := hown.shape'
            have HOw := Lib.hid hown
            have HBo := Lib.hid hb
            clear hown hb r1
            by_cases hk8 : k < 8
            · have r2 := be64_byte L.length k
              have HC := Lib.hid (be64_take (8 * L.length) k hk8)
              obtain ⟨c, hc⟩ : ∃ c, c = UInt8.ofNat (8 * L.length / 2 ^ (8 * (7 - k))) := ⟨_, rfl⟩
              rw [← hc] at r2 HC
              clear hc
              go_wp2_with ((at_builtin; refine wpList_append_x rfl _ _ 45 rfl wo.heap.size 5 i0 (.int .u8 0) 1 1 Tryd.underlying45 hi hz0 hz1 hz2 rfl (by decide) _ _ _ rfl (HOw.out.alloc _) ⟨wr.heap.size, 0, none⟩ 1 1 [.int .u8 (c.toNat : Int)] rfl rfl (cell_one_new _ _ _) (bytes_one c) (by unfold maxLen; omega) (by omega) (by have := HBo.out.size; simp; omega) ?_; intro v1 w4 hown1 hg1 _ hv1))
              have HO1 : Hid (OB w4 wo.heap.size v1 (m + 1) (R ++ [c])) := OB.snoc hown1
              have HB4 : Hid (Below wo.heap.size wo w4) := (HBo.out.alloc HBo.out.size _).grown hg1 (by have := HBo.out.size; simp; omega) (fun k hk => (HOw.out.block_ge k hk).1)
              obtain ⟨a', cap', rfl, _, _⟩ := HO1.out.shape'
              clear hown1 hg1 hv1
              go_wp2
              go_roundw
              case rel => exact ⟨k + 1, m + 1, R ++ [c], by omega, by go_num, by omega, by omega, by show _ = _; rw [HRr.out, HC.out, List.append_assoc], HO1.out, HB4.out⟩
              case measure => simp [intOf]; omega
            · have HT : Hid (R = l ++ ([128] ++ zs (zeros L.length) ++ be64 (8 * L.length))) := by
                have e : k = 8 := by omega
                show _ = _; rw [HRr.out, HP.out, e, List.take_of_length_le (by rw [be64_len]; omega)]; simp [List.append_assoc]
              have HRun := Lib.hid (HR.out ([128] ++ zs (zeros L.length) ++ be64 (8 * L.length)))
              have hmR := HOw.out.len
              have HX : Hid (run ((pad L).length / 64) iv (pad L) = run (R.length / 64) st R) := by
                have e : pad L = L ++ ([128] ++ zs (zeros L.length) ++ be64 (8 * L.length)) := by simp [pad, zs, List.append_assoc]
                show _ = _; rw [e, HRun.out, HT.out]
              have HM64 : Hid (R.length % 64 = 0) := by
                have h1 := zeros_ne L.length
                have h2 := HM2.out
                show _ = _; rw [HT.out]; simp [zs, be64_len]; omega
              have HS2 : Hid (wr.heap[B]? = some (.cells (cw st.list) 79 (0, 0))) := (HBo.out.block B hlB).trans HSt.out
              have HB2 : Hid (Below w.heap.size w wr) := HBe.out.trans (HBo.out.mono HBe.out.size)
              have HSh := HOw.out.shape (by have := HOw.out.len; rw [HT.out] at this; simp at this; omega)
              obtain ⟨g, cp, hgv, hgB, hgl, hcp, hcm, hcl⟩ := HSh
              simp only [Value.slice.injEq, true_and] at hgv
              obtain ⟨rfl, rfl⟩ := hgv
              have HCl := Lib.hid hcl
              rw [← hmR] at hcp
              clear HP HRr HT HRun HR HM2 HSt HBe hcl hm1 hm2 hn1 hn2 hzl hj
              have wid : wo.heap.size ≤ wr.heap.size := HBo.out.size
              clear HBo HOw
              subst hmR
              go_wp2
              obtain ⟨wj, rfl⟩ : ∃ wj : World, wj = wr := ⟨_, rfl⟩
              go_loopw [5] (fun v wr => ∃ (r : List UInt8) (n : Nat) (st' : St) (ad : Option Addr) (cp : Nat), v = .slice ad n cp ∧ n ≤ r.length ∧ r.length ≤ n ∧ n ≤ cp ∧ cp ≤ maxLen ∧ Hid (r.length % 64 = 0) ∧ Hid (run (R.length / 64) st R = run (r.length / 64) st' r) ∧ (0 < n → ∃ o, ad = some ⟨g, o, none⟩ ∧ ∀ i, i < n → wr.cell? ⟨g, o + i, none⟩ = (Lib.byteCells r)[i]?) ∧ wr.heap[B]? = some (.cells (cw st'.list) 79 (0, 0)) ∧ Below w.heap.size w wr ∧ g < wr.heap.size) (fun v _ => sliceLen v)
              case atStart => exact ⟨R, R.length, st, _, cap, rfl, Nat.le_refl _, Nat.le_refl _, hcp, hcm, HM64.out, rfl, fun _ => ⟨0, rfl, fun i hi => by rw [Nat.zero_add]; exact HCl.out i (by omega)⟩, HS2.out, HB2.out, hgl⟩
              case round =>
                clear HM64 HCl HS2 HB2 hgl hcp hcm
                obtain ⟨r, n, st', ad, cp, rfl, hn1, hn2, hcp, hcm, HM, HR, hcell, hst, hb, hgl⟩ := hrel
                have HSt := Lib.hid hst
                have HBe := Lib.hid hb
                by_cases hn0 : 0 < n
                · obtain ⟨o, rfl, hc⟩ := hcell hn0
                  have HC := Lib.hid hc
                  have h64 : 64 ≤ n := by have := HM.out; omega
                  have hcv := run_str_cells (P := Tryd.prog) wr 45 5 9 Tryd.underlying45 Tryd.underlying5 Tryd.underlying9 g o 64 cp (r.take 64) (by rw [List.length_take]; omega) (fun i hi => by rw [hc i (by omega), byteCells_take r i hi])
                  have hcv2 : (convert 45 9 (.slice (some ⟨g, o, none⟩) 64 cp)).run Tryd.prog wr = .ok (.string (bs (r.take 64))) wr := hcv
                  have HK1 : Hid (KOK wr) := fun i hi => (hb.cell (p := ⟨_, i, none⟩) hg).trans (HK.out i hi)
                  have HS4 : Hid ((bs (r.take 64)).size = 64) := by show (r.take 64).length = 64; rw [List.length_take]; omega
                  have hz := hb.size
                  clear hc hcell hst hb hcv
                  go_wp2_with fail
                  refine (process_any _ st' B wr HS4.out HSt.out HK1.out (by omega)).mono ?_
                  rintro x w5 ⟨rfl, hst3, hf3⟩
                  have HST : Hid (w5.heap[B]? = some (.cells (cw (comp st' (r.take 64)).list) 79 (0, 0))) := hst3
                  have HB3 : Hid (Below w.heap.size w w5) := HBe.out.trans (hf3.below HBe.out.size (fun i hi e => by omega))
                  have HC3 : Hid (∀ i, i < n → w5.cell? ⟨g, o + i, none⟩ = (Lib.byteCells r)[i]?) := fun i hi => (hf3.cell (p := ⟨g, o + i, none⟩) hgl (by simp; omega)).trans (HC.out i hi)
                  have hgl3 : g < w5.heap.size := Nat.lt_of_lt_of_le hgl hf3.size
                  have HR3 : Hid (run (R.length / 64) st R = run ((r.drop 64).length / 64) (comp st' (r.take 64)) (r.drop 64)) := HR.out.trans (run_step0 r st' (by omega))
                  have HM3 : Hid ((r.drop 64).length % 64 = 0) := by show _ = _; rw [List.length_drop]; have := HM.out; omega
                  clear hst3 hf3 hcv2 HC HS4 HK1
                  by_cases hcz : cp = 64
                  · have e64 : n = 64 := by omega
                    go_wp2
                    go_roundw
                    case rel => exact ⟨r.drop 64, 0, comp st' (r.take 64), _, 0, rfl, Nat.zero_le _, by rw [List.length_drop]; omega, Nat.le_refl _, Nat.zero_le _, HM3, HR3, fun h => by omega, HST.out, HB3.out, hgl3⟩
                    case measure => simp only [sliceLen]; omega
                  · go_wp2
                    go_roundw
                    case rel => exact ⟨r.drop 64, n - 64, comp st' (r.take 64), _, cp - 64, rfl, by rw [List.length_drop]; omega, by rw [List.length_drop]; omega, by omega, by omega, HM3, HR3, fun _ => ⟨o + 64, rfl, fun i hi => by rw [byteCells_drop, Nat.add_assoc]; exact HC3.out (64 + i) (by omega)⟩, HST.out, HB3.out, hgl3⟩
                    case measure => simp only [sliceLen]; omega
                · have HF : Hid (sumL L = st'.list.flatMap bytes4) := by
                    have h0 : r.length = 0 := by omega
                    show _ = _; rw [sumL, HX.out, HR.out, h0]; rfl
                  have hz := hb.size
                  have hBz := lt_block hst
                  clear hcell hst hb HR HM HX
                  obtain ⟨T, hT⟩ : ∃ T, T = st' := ⟨_, rfl⟩
                  rw [← hT] at HF HSt
                  clear hT
                  have HSt2 : Hid (∀ W, Below wr.heap.size wr W → W.heap[B]? = some (.cells (cw T.list) 79 (0, 0))) := fun W h => (h.block B hBz).trans HSt.out
                  have hA : Below wr.heap.size wr (wr.alloc (.cells #[.pointer none, .slice none 0 0] 47)) := (Below.refl _ _).alloc (Nat.le_refl _) _
                  have HA := Lib.hid hA
                  clear hA
                  go_wp2_with ((with_reducible show wpList _ _ _ (Oper.mk (some 56) _ _ _ _ _ :: _) _ _); refine wpList_load_row rfl 79 _ rfl B rfl 79 (cw T.list) (0, 0) _ (HSt2.out _ HA.out) Tryd.underlying79 rfl (info_st _ (St_len _)) ?_)
                  obtain ⟨wk, rfl⟩ : ∃ wk : World, wk = wr := ⟨_, rfl⟩
                  go_loopw [9, 57] (fun _ i wr => ∃ k : Nat, k ≤ 8 ∧ i = .int .i64 k ∧ Bld wk.heap.size ((T.list.take k).flatMap bytes4) wr ∧ Below wk.heap.size wk wr ∧ wk.heap.size < wr.heap.size) (fun _ i _ => 8 - (intOf i).toNat)
                  case atStart => exact ⟨0, by omega, rfl, bld_new wk, HA.out, by simp⟩
                  case round =>
                    clear HA HSt2
                    obtain ⟨k, hk, rfl, hB, hb, hlt⟩ := hrel
                    have HBd := Lib.hid hB
                    have HBo := Lib.hid hb
                    clear hB hb
                    by_cases hk8 : k < 8
                    · have hix := fun w => run_index_st T.list (St_len T) k hk8 w
                      have HS : Hid ((T.list.take (k + 1)).flatMap bytes4 = (T.list.take k).flatMap bytes4 ++ bytes4 (T.list.getD k 0)) := by
                        show _ = _; rw [List.take_succ_eq_append_getElem (by rw [St_len]; exact hk8), List.flatMap_append, List.getD_eq_getElem?_getD, List.getElem?_eq_getElem (by rw [St_len]; exact hk8)]; simp
                      have HL : Hid (((T.list.take k).flatMap bytes4).length + 4 ≤ 140737488355328) := by
                        have e : ∀ l : List UInt32, (l.flatMap bytes4).length = 4 * l.length := by
                          intro l; induction l with
                          | nil => rfl
                          | cons a l ih => simp only [List.flatMap_cons, List.length_append, List.length_cons, ih]; simp [bytes4]; omega
                        show _ ≤ _; rw [e, List.length_take]; omega
                      obtain ⟨x, hx⟩ : ∃ x, x = T.list.getD k 0 := ⟨_, rfl⟩
                      rw [← hx] at hix HS
                      clear hx
                      have b1 := byte_24 x
                      have b2 := byte_16 x
                      have b3 := byte_8 x
                      have b4 := byte_0 x
                      go_wp2_with fail
                      refine (write4 wk.heap.size _ x wr _ HBd.out HL.out hlt rfl).mono ?_
                      rintro y w6 ⟨rfl, hB6, hb6⟩
                      have HB6 : Hid (Bld wk.heap.size ((T.list.take (k + 1)).flatMap bytes4) w6) := by rw [HS.out]; exact hB6
                      have Hb6 := Lib.hid (HBo.out.trans hb6)
                      have hlt6 : wk.heap.size < w6.heap.size := Nat.lt_of_lt_of_le hlt hb6.size
                      clear hB6 hb6
                      go_wp2
                      go_roundw
                      case rel => exact ⟨k + 1, by omega, by go_num, HB6.out, Hb6.out, hlt6⟩
                      case measure => simp [intOf]; omega
                    · have HB6 : Hid (Bld wk.heap.size (sumL L) wr) := by
                        have e : k = 8 := by omega
                        rw [HF.out, e] at *
                        rw [List.take_of_length_le (by rw [St_len]; omega)] at HBd
                        exact HBd
                      go_wp2_with (go_at_call 27; refine (Tryd.Builder_String_any_k wk.heap.size wk.heap.size _ wr HB6.out (by omega)).mono ?_; rintro y w7 ⟨rfl, _, h7, _⟩)
                      go_ret
                      exact ⟨rfl, HBe.out.trans ((HBo.out.trans h7).mono hz)⟩
        · have r1 : ((n : Int) % 64 != 56) = true := by simp; omega
          have hj2 : j < zeros l.length := by
            rcases Nat.lt_or_ge j (zeros l.length) with h | h
            · exact h
            · have := zeros_ne l.length; rw [show l.length + 1 + zeros l.length = n by omega] at this; exact absurd this he
          go_wp2_with ((at_builtin; refine wpList_append_x rfl _ _ 45 rfl wo.heap.size 5 i0 (.int .u8 0) 1 1 Tryd.underlying45 hi hz0 hz1 hz2 rfl (by decide) _ _ _ rfl (HOw.out.alloc _) ⟨wr.heap.size, 0, none⟩ 1 1 [.int .u8 0] rfl rfl (cell_one_new _ _ _) (bytes_one 0) (by unfold maxLen; omega) (by omega) (by have := HBo.out.size; simp; omega) ?_; intro v1 w4 hown1 hg1 _ hv1))
          have HO1 : Hid (OB w4 wo.heap.size v1 (n + 1) (M ++ [0])) := OB.snoc (c := 0) hown1
          have HB4 : Hid (Below wo.heap.size wo w4) := (HBo.out.alloc HBo.out.size _).grown hg1 (by have := HBo.out.size; simp; omega) (fun k hk => (HOw.out.block_ge k hk).1)
          obtain ⟨a', cap', rfl, _, _⟩ := HO1.out.shape'
          clear hown1 hg1 hv1
          go_wp2
          go_roundw
          case rel => exact ⟨j + 1, n + 1, M ++ [0], by omega, by omega, by omega, by show _ = _; rw [HM.out, zs_succ, ← List.append_assoc], HO1.out, HB4.out⟩
          case measure => simp only [sliceLen]; omega
end Go.Proofs.YtlegmhmmoadggaaDoor
