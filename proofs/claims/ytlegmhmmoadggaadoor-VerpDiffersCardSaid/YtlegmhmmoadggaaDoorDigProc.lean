/- (*digest.state).process: a block of 64 bytes goes into the state. -/
import Derived.Test.YtlegmhmmoadggaaDoorDigSched

namespace Go.Proofs.YtlegmhmmoadggaaDoor
open Go.RowKit Dg
/-- the constants of the rounds lie in the package's variable -/
def KOK (w : World) : Prop := ∀ i, i < 64 → w.cell? ⟨4, i, none⟩ = some (.int .u32 (v32 (K.getD i 0)))
theorem KOK.below {w w' : World} {B : Nat} (h : KOK w) (hb : Below B w w') (hg : 4 < B) : KOK w' := fun i hi => (hb.cell (p := ⟨_, i, none⟩) hg).trans (h i hi)
theorem info_st (l : List UInt32) (h : l.length = 8) : (Tryd.prog.info? 79).map (·.size) = some (cw l).size := by
  rw [cw_size, h]; kernel_rfl
theorem St_len (s : St) : s.list.length = 8 := rfl
theorem cw_sizes (s t : St) : (cw s.list).size = (cw t.list).size := by rw [cw_size, cw_size, St_len, St_len]

theorem round_eq (t : St) (k w X Y : UInt32) (hX : t.h + (rotr t.e 6 ^^^ rotr t.e 11 ^^^ rotr t.e 25) + (t.e &&& t.f ^^^ ~~~t.e &&& t.g) + k + w = X)
    (hY : (rotr t.a 2 ^^^ rotr t.a 13 ^^^ rotr t.a 22) + (t.a &&& t.b ^^^ t.a &&& t.c ^^^ t.b &&& t.c) = Y) : round t k w = ⟨X + Y, t.a, t.b, t.c, t.d + X, t.e, t.f, t.g⟩ := by
  subst hX hY; rfl

theorem add_list (s t : St) (i : Nat) (h : i < 8) : (s.add t).list[i]? = some (s.list.getD i 0 + t.list.getD i 0) ∧ s.list[i]? = some (s.list.getD i 0) ∧ t.list[i]? = some (t.list.getD i 0) := by
  match i, h with
  | 0, _ => exact ⟨rfl, rfl, rfl⟩
  | 1, _ => exact ⟨rfl, rfl, rfl⟩
  | 2, _ => exact ⟨rfl, rfl, rfl⟩
  | 3, _ => exact ⟨rfl, rfl, rfl⟩
  | 4, _ => exact ⟨rfl, rfl, rfl⟩
  | 5, _ => exact ⟨rfl, rfl, rfl⟩
  | 6, _ => exact ⟨rfl, rfl, rfl⟩
  | 7, _ => exact ⟨rfl, rfl, rfl⟩
/-- the state while the sums are made: the first i words are done -/
def mixed (s t : St) (i : Nat) : List UInt32 := (s.add t).list.take i ++ s.list.drop i
theorem mixed_get (s t : St) (i : Nat) (h : i < 8) : (mixed s t i)[i]? = some (s.list.getD i 0) := by
  have h1 := (add_list s t i h).2.1
  have e : ((s.add t).list.take i).length = i := by rw [List.length_take, St_len]; omega
  rw [mixed, List.getElem?_append_right (by omega), e, Nat.sub_self, List.getElem?_drop, Nat.add_zero, h1]
theorem mixed_set (s t : St) (i : Nat) (h : i < 8) : (mixed s t i).set i (s.list.getD i 0 + t.list.getD i 0) = mixed s t (i + 1) := by
  have h1 := (add_list s t i h)
  have e1 : (s.add t).list.take (i + 1) = (s.add t).list.take i ++ [s.list.getD i 0 + t.list.getD i 0] := by
    rw [List.take_add_one, h1.1]; rfl
  have e2 : s.list.drop i = s.list.getD i 0 :: s.list.drop (i + 1) := by
    rw [List.drop_eq_getElem_cons (by rw [St_len]; exact h), List.getD_eq_getElem?_getD, List.getElem?_eq_getElem (by rw [St_len]; exact h)]; rfl
  rw [mixed, mixed, e1, e2, set_mid _ _ _ _ _ (by rw [List.length_take, St_len]; omega), List.append_assoc]; rfl
theorem mixed_end (s t : St) : mixed s t 8 = (s.add t).list := rfl

set_option maxRecDepth 100000 in
set_option maxHeartbeats 2000000 in
theorem process_any (s : ByteArray) (st : St) (b : Nat) (w : World) (hs : s.size = 64) (hst : w.heap[b]? = some (.cells (cw st.list) 79 (0, 0)))
    (hK : KOK w) (hg : 4 < w.heap.size) :
    Calls Tryd.prog 61 #[.pointer (some ⟨b, 0, none⟩), .string s] w fun e w' => e = .returned (.tuple #[]) ∧
      w'.heap[b]? = some (.cells (cw (comp st s.data.toList).list) 79 (0, 0)) ∧ Fr (· = b) w w' := by
  have hbl := lt_block hst
  go_enter Tryd.func61, Tryd.ntmps61
  go_wp2_with fail
  refine (schedule_any s w hs).mono ?_
  rintro e w1 ⟨rfl, hb1⟩
  obtain ⟨S, hS⟩ : ∃ S, S = sched s.data.toList := ⟨_, rfl⟩
  have hSl : S.length = 64 := by rw [hS]; exact sched_len _
  rw [← hS]
  have HSl := Lib.hid hSl
  have HS := Lib.hid hS
  have HB1 := Lib.hid hb1
  clear hSl hS hb1
  have hsz1 : w.heap.size ≤ w1.heap.size := HB1.out.size
  have hst2 : ∀ W2 : World, Below w1.heap.size w1 W2 → W2.heap[b]? = some (.cells (cw st.list) 79 (0, 0)) := fun W2 h => (h.block b (by omega)).trans ((HB1.out.block b hbl).trans hst)
  have Hst2 := Lib.hid hst2
  have Hst := Lib.hid hst
  have HK := Lib.hid hK
  clear hst2 hst hK
  go_wp2_with (first
    | ((with_reducible show wpList _ _ _ (Oper.mk none (Op.store 94 _ (.tmp 17)) _ _ _ _ :: _) _ _); refine wpList_store_row rfl 94 _ _ rfl w1.heap.size (cw S) rfl rfl 94 _ (heap_alloc_new w1 _) (info_w64 _ HSl.out) (by rw [cw_size, HSl.out]; rfl) (cw_one _) ?_; generalize hW : World.setRow _ _ _ = W2; have R2 : Hid (W2.heap[w1.heap.size]? = some (.cells (cw S) 94 (0, 0))) := (by show _ = _; rw [← hW]; exact setRow_heap _ _ _ _ _ _ (heap_alloc_new w1 _)); have B2 : Hid (Below w1.heap.size w1 W2) := (by show Below _ _ _; rw [← hW]; exact below_setRow ((Below.refl _ _).alloc (Nat.le_refl _) _) (Nat.le_refl _) _); have Z2 : Hid (W2.heap.size = w1.heap.size + 1) := (by show _ = _; rw [← hW]; simp); clear hW)
    | ((with_reducible show wpList _ _ _ (Oper.mk (some 20) _ _ _ _ _ :: _) _ _); refine wpList_load_row rfl 79 _ rfl b rfl 79 (cw st.list) (0, 0) _ (Hst2.out _ B2.out) Tryd.underlying79 rfl (info_st _ (St_len _)) ?_)
    | ((with_reducible show wpList _ _ _ (Oper.mk none (Op.store 79 _ (.tmp 20)) _ _ _ _ :: _) _ _); refine wpList_store_row rfl 79 _ _ rfl W2.heap.size (cw st.list) rfl rfl 79 _ (heap_alloc_new W2 _) (info_st _ (St_len _)) rfl (cw_one _) ?_; generalize hW : World.setRow _ _ _ = W3; have R3 : Hid (W3.heap[W2.heap.size]? = some (.cells (cw st.list) 79 (0, 0))) := (by show _ = _; rw [← hW]; exact setRow_heap _ _ _ _ _ _ (heap_alloc_new W2 _)); have B3 : Hid (Below W2.heap.size W2 W3) := (by show Below _ _ _; rw [← hW]; exact below_setRow ((Below.refl _ _).alloc (Nat.le_refl _) _) (Nat.le_refl _) _); have Z3 : Hid (W3.heap.size = W2.heap.size + 1) := (by show _ = _; rw [← hW]; simp); clear hW))
  have hz2 : w1.heap.size < W2.heap.size := by rw [Z2.out]; omega
  have hz3 : W2.heap.size < W3.heap.size := by rw [Z3.out]; omega
  have RS : Hid (W3.heap[w1.heap.size]? = some (.cells (cw S) 94 (0, 0))) := (B3.out.block _ hz2).trans R2.out
  have BW : Hid (Below w.heap.size w W3) := (HB1.out.trans (B2.out.mono hsz1)).trans (B3.out.mono (by omega))
  clear R2 B2 Z2 B3 Z3 Hst2 HB1
  obtain ⟨g1, hg1⟩ : ∃ g, g = w1.heap.size := ⟨_, rfl⟩
  obtain ⟨g2, hg2⟩ : ∃ g, g = W2.heap.size := ⟨_, rfl⟩
  rw [← hg1] at hsz1 hz2 RS ⊢
  rw [← hg2] at hz2 hz3 R3 ⊢
  clear hg1 hg2
  have hb2 : b ≠ g2 := by omega
  have h02 : (4 : Nat) ≠ g2 := by omega
  have h12 : g1 ≠ g2 := by omega
  go_loopw [6, 7, 8, 9, 10, 11, 12, 13, 14, 21] (fun _ _ _ _ _ _ _ _ _ i wr => ∃ n : Nat, n ≤ 64 ∧ i = .int .i64 n ∧ wr.heap[g2]? = some (.cells (cw (rounds S n st).list) 79 (0, 0)) ∧ wr.heap[g1]? = some (.cells (cw S) 94 (0, 0)) ∧ Below w.heap.size w wr)
    (fun _ _ _ _ _ _ _ _ _ i _ => 64 - (intOf i).toNat)
  case atStart => exact ⟨0, by omega, rfl, R3.out, RS.out, BW.out⟩
  case round =>
    clear R3 RS BW
    obtain ⟨n, hn, rfl, hT, hS1, hb⟩ := hrel
    by_cases hlt : n < 64
    · have hk : wr.cell? ⟨4, n, none⟩ = some (.int .u32 (v32 (K.getD n 0))) := (hb.cell (p := ⟨4, n, none⟩) hg).trans (HK.out n hlt)
      have hw : wr.cell? ⟨g1, n, none⟩ = some (.int .u32 (v32 (S.getD n 0))) := cell_cw hS1 n _ (by rw [List.getD_eq_getElem?_getD, List.getElem?_eq_getElem (by rw [HSl.out]; exact hlt)]; rfl)
      have HT : Hid (rounds S (n + 1) st = round (rounds S n st) (K.getD n 0) (S.getD n 0)) := rfl
      obtain ⟨k, hk'⟩ : ∃ k, k = K.getD n 0 := ⟨_, rfl⟩
      obtain ⟨x, hx'⟩ : ∃ x, x = S.getD n 0 := ⟨_, rfl⟩
      obtain ⟨T, hT'⟩ : ∃ T, T = rounds S n st := ⟨_, rfl⟩
      rw [← hk'] at hk HT
      rw [← hx'] at hw HT
      rw [← hT'] at hT HT
      clear hk' hx' hT'
      have c0 : wr.cell? ⟨g2, 0, none⟩ = some (.int .u32 (v32 T.a)) := cell_cw hT 0 _ rfl
      have c1 : wr.cell? ⟨g2, 1, none⟩ = some (.int .u32 (v32 T.b)) := cell_cw hT 1 _ rfl
      have c2 : wr.cell? ⟨g2, 2, none⟩ = some (.int .u32 (v32 T.c)) := cell_cw hT 2 _ rfl
      have c3 : wr.cell? ⟨g2, 3, none⟩ = some (.int .u32 (v32 T.d)) := cell_cw hT 3 _ rfl
      have c4 : wr.cell? ⟨g2, 4, none⟩ = some (.int .u32 (v32 T.e)) := cell_cw hT 4 _ rfl
      have c5 : wr.cell? ⟨g2, 5, none⟩ = some (.int .u32 (v32 T.f)) := cell_cw hT 5 _ rfl
      have c6 : wr.cell? ⟨g2, 6, none⟩ = some (.int .u32 (v32 T.g)) := cell_cw hT 6 _ rfl
      have c7 : wr.cell? ⟨g2, 7, none⟩ = some (.int .u32 (v32 T.h)) := cell_cw hT 7 _ rfl
      have HT2 := Lib.hid hT
      have HS1 := Lib.hid hS1
      have HB := Lib.hid hb
      clear hT hS1 hb
      have rx := xor32
      have rn := not_bits
      have rd := and32
      have rg : IntKind.u32.signed = false := rfl
      have ra := add32
      obtain ⟨X, hX⟩ : ∃ X, T.h + (rotr T.e 6 ^^^ rotr T.e 11 ^^^ rotr T.e 25) + (T.e &&& T.f ^^^ ~~~T.e &&& T.g) + k + x = X := ⟨_, rfl⟩
      obtain ⟨Y, hY⟩ : ∃ Y, (rotr T.a 2 ^^^ rotr T.a 13 ^^^ rotr T.a 22) + (T.a &&& T.b ^^^ T.a &&& T.c ^^^ T.b &&& T.c) = Y := ⟨_, rfl⟩
      have HR := Lib.hid (round_eq T k x X Y hX hY)
      go_wp2
      go_quiet (fail)
      go_wp2
      go_quiet ((go_at_call 71; exact quiet_add_left (rot_lit _ _ (by decide) _)))
      go_wp2_with (first
        | (go_at_call 71; refine (rot_lit _ _ (by decide) _).mono ?_; rintro e w' ⟨rfl, rfl⟩)
        | ((with_reducible show wpList _ _ _ (Oper.mk none (Op.store 79 _ (.tmp 97)) _ _ _ _ :: _) _ _); refine wpList_store_row rfl 79 _ _ rfl g2 (cw (round T k x).list) rfl (by rw [HR.out]; rfl) 79 _ HT2.out (info_st _ (St_len _)) (cw_sizes _ _) (cw_one _) ?_))
      go_roundw
      case rel => exact ⟨n + 1, by omega, by go_num, (setRow_heap _ _ _ _ _ _ HT2.out).trans (by rw [HT.out]), (setRow_other _ _ _ _ h12).trans HS1.out, below_setRow (below_drewN HB.out _) (by omega) _⟩
      case measure => simp [intOf]; omega
    · have HT : Hid (wr.heap[g2]? = some (.cells (cw (rounds S 64 st).list) 79 (0, 0))) := by
        have e : n = 64 := by omega
        exact e ▸ hT
      have HB := Lib.hid hb
      clear hT hS1 hb
      obtain ⟨T, hT⟩ : ∃ T, T = rounds S 64 st := ⟨_, rfl⟩
      rw [← hT] at HT
      have HC : Hid (comp st s.data.toList = st.add T) := by
        show _ = _; rw [hT, HS.out]; rfl
      clear hT
      have HM : Hid (wr.heap[b]? = some (.cells (cw (mixed st T 0)) 79 (0, 0))) := (HB.out.block b hbl).trans Hst.out
      go_wp2
      obtain ⟨wo, rfl⟩ : ∃ wo : World, wo = wr := ⟨_, rfl⟩
      go_loopw [15, 99] (fun _ i wr => ∃ n : Nat, n ≤ 8 ∧ i = .int .i64 n ∧ wr.heap[b]? = some (.cells (cw (mixed st T n)) 79 (0, 0)) ∧ wr.heap[g2]? = some (.cells (cw T.list) 79 (0, 0)) ∧ Fr (· = b) w wr)
        (fun _ i _ => 8 - (intOf i).toNat)
      case atStart => exact ⟨0, by omega, rfl, HM.out, HT.out, Fr.of_below HB.out⟩
      case round =>
        clear HM HT HB
        obtain ⟨i, hi, rfl, hm, ht, hf⟩ := hrel
        by_cases hlt : i < 8
        · have c1 : wr.cell? ⟨b, i, none⟩ = some (.int .u32 (v32 (st.list.getD i 0))) := cell_cw hm i _ (mixed_get st T i hlt)
          have c2 : wr.cell? ⟨g2, i, none⟩ = some (.int .u32 (v32 (T.list.getD i 0))) := cell_cw ht i _ (add_list st T i hlt).2.2
          have f1 := frozen_of_row wr b i _ _ hm
          have HM : Hid ((wr.setCell ⟨b, i, none⟩ (.int .u32 (v32 (st.list.getD i 0 + T.list.getD i 0)))).heap[b]? = some (.cells (cw (mixed st T (i + 1))) 79 (0, 0))) :=
            (set_cw hm i _).trans (by rw [mixed_set st T i hlt])
          obtain ⟨y1, hy1⟩ : ∃ y, y = st.list.getD i 0 := ⟨_, rfl⟩
          obtain ⟨y2, hy2⟩ : ∃ y, y = T.list.getD i 0 := ⟨_, rfl⟩
          rw [← hy1] at c1 HM
          rw [← hy2] at c2 HM
          clear hy1 hy2
          have HT : Hid (∀ v, (wr.setCell ⟨b, i, none⟩ v).heap[g2]? = some (.cells (cw T.list) 79 (0, 0))) := fun v => (heap_setCell_other wr _ _ _ (fun e => hb2 e.symm)).trans ht
          have HF : Hid (∀ v, Fr (· = b) w (wr.setCell ⟨b, i, none⟩ v)) := fun v => hf.setCell (fun _ => rfl) v
          have ra := add32
          have rv := add32w
          have h8 : (i : Int) < 8 := by omega
          clear hm ht hf
          go_wp2
          go_region
          go_wp2
          go_roundw
          case rel => exact ⟨i + 1, by omega, by go_num, HM.out, HT.out _, (HF.out _).drew⟩
          case measure => simp [intOf]; omega
        · have e : i = 8 := by omega
          have HM : Hid (wr.heap[b]? = some (.cells (cw (comp st s.data.toList).list) 79 (0, 0))) := hm.trans (by rw [e, mixed_end, HC.out])
          have HF := Lib.hid hf
          clear hm ht hf e
          go_wp2
          go_end0
          exact ⟨rfl, HM.out, HF.out⟩
end Go.Proofs.YtlegmhmmoadggaaDoor
