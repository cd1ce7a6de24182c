/- digest.schedule: the words of the rounds for a block of 64 bytes. -/
import Derived.Test.YtlegmhmmoadggaaDoorDigCrc
import Derived.Test.YtlegmhmmoadggaaDoorFr
import Derived.Deep.QuietTactic
import Derived.BigQuiet
import Derived.Laws.CopyOwn
import Derived.Deep.Cut
namespace Go.Proofs.YtlegmhmmoadggaaDoor
open Go.RowKit Dg
namespace Dg
def cw (l : List UInt32) : Array Value := (l.map fun x => Value.int .u32 (v32 x)).toArray
theorem cell_cw {w : World} {b : Nat} {l : List UInt32} {T : TypeId} (h : w.heap[b]? = some (.cells (cw l) T (0, 0))) (i : Nat) (x : UInt32) (hi : l[i]? = some x) :
    w.cell? ⟨b, i, none⟩ = some (.int .u32 (v32 x)) := by
  rw [cell_of_row w b i _ T _ h]; simp [cw, hi]
theorem set_cw {w : World} {b : Nat} {l : List UInt32} {T : TypeId} (h : w.heap[b]? = some (.cells (cw l) T (0, 0))) (i : Nat) (x : UInt32) :
    (w.setCell ⟨b, i, none⟩ (.int .u32 (v32 x))).heap[b]? = some (.cells (cw (l.set i x)) T (0, 0)) := by
  rw [heap_setCell_same w b i _ T _ h]
  congr 2
  simp [cw, List.map_set]
/-- the first k bytes of a word, as a number -/
def pn (l : List UInt8) (i : Nat) : Nat → Nat
  | 0 => 0
  | k + 1 => pn l i k * 256 + (l.getD (4 * i + k) 0).toNat
def pw (l : List UInt8) (i k : Nat) : UInt32 := UInt32.ofNat (pn l i k)
theorem pn_lt (l : List UInt8) (i k : Nat) : pn l i k < 256 ^ k := by
  induction k with
  | zero => simp [pn]
  | succ k ih => have := w8_lt (l.getD (4 * i + k) 0); simp only [pn, Nat.pow_succ]; omega
theorem pw_step (s : ByteArray) (k j : Nat) (hj : j < 4) (h : 4 * k + j < s.size) :
    bits .or .u32 (v32 (pw s.data.toList k j) * 256 % 4294967296) ((s[4 * k + j].toNat : Int) % 4294967296) = v32 (pw s.data.toList k (j + 1)) := by
  have hb := w8_lt s[4 * k + j]
  have hp : pn s.data.toList k j < 16777216 := Nat.lt_of_lt_of_le (pn_lt _ _ _) (Nat.le_trans (Nat.pow_le_pow_right (by decide) (Nat.le_of_lt_succ hj)) (by decide))
  have e1 : v32 (pw s.data.toList k j) = (pn s.data.toList k j : Int) := v32_of _ (by omega)
  have e2 : s.data.toList.getD (4 * k + j) 0 = s[4 * k + j] := by
    rw [List.getD_eq_getElem?_getD, List.getElem?_eq_getElem (by simpa using h)]; rfl
  have e3 : v32 (pw s.data.toList k (j + 1)) = (pn s.data.toList k (j + 1) : Int) := v32_of _ (by simp only [pn, e2]; omega)
  have e4 : ((pn s.data.toList k j : Int) * 256 % 4294967296) = ((pn s.data.toList k j * 256 : Nat) : Int) := by omega
  have e5 : ((s[4 * k + j].toNat : Int) % 4294967296) = ((s[4 * k + j].toNat : Nat) : Int) := by omega
  rw [e1, e3, e4, e5, u32_or_nat _ _ (by omega) (by omega), nat_join 8 _ _ (by omega) (by omega)]
  simp only [pn, e2]
theorem pw_four (l : List UInt8) (i : Nat) : pw l i 4 = wordAt l i := by simp [pw, pn, wordAt, be32]

theorem schedN_succ (n : Nat) : ∀ w : List UInt32, schedN (n + 1) w = schedN n w ++ [nextW (schedN n w) (schedN n w).length] := by
  induction n with
  | zero => intro w; rfl
  | succ n ih => intro w; show schedN (n + 1) (w ++ [nextW w w.length]) = _; rw [ih]; rfl
theorem schedN_len (n : Nat) (w : List UInt32) : (schedN n w).length = w.length + n := by
  induction n with
  | zero => rfl
  | succ n ih => rw [schedN_succ]; simp [ih]; omega
theorem words_len (l : List UInt8) : (words l).length = 16 := by simp [words]
/-- the first 16 + n words of the rounds -/
def wk (l : List UInt8) (n : Nat) : List UInt32 := schedN n (words l)
theorem wk_len (l : List UInt8) (n : Nat) : (wk l n).length = 16 + n := by rw [wk, schedN_len, words_len]
theorem wk_succ (l : List UInt8) (n : Nat) : wk l (n + 1) = wk l n ++ [nextW (wk l n) (16 + n)] := by
  have := wk_len l n; simp only [wk] at *; rw [schedN_succ, this]
theorem words_take_succ (l : List UInt8) (k : Nat) (h : k < 16) : (words l).take (k + 1) = (words l).take k ++ [wordAt l k] := by
  rw [List.take_succ_eq_append_getElem (by rw [words_len]; exact h)]
  simp [words]
theorem set_mid (a b : List UInt32) (x y : UInt32) (k : Nat) (h : a.length = k) : (a ++ x :: b).set k y = a ++ y :: b := by
  subst h; simp
theorem get_mid (a b : List UInt32) (x : UInt32) (k : Nat) (h : a.length = k) : (a ++ x :: b)[k]? = some x := by
  subst h; simp
theorem take_words_len (l : List UInt8) (k : Nat) (h : k ≤ 16) : ((words l).take k).length = k := by simp [words_len]; omega
theorem rep_succ (n : Nat) (h : 0 < n) : List.replicate n (0 : UInt32) = 0 :: List.replicate (n - 1) 0 := by
  cases n with
  | zero => omega
  | succ n => rfl
theorem cw_zero : cw (List.replicate 64 0) = Array.replicate 64 (Value.int .u32 0) := rfl
theorem get_left (a b : List UInt32) (k : Nat) (h : k < a.length) : (a ++ b)[k]? = some (a.getD k 0) := by
  rw [List.getElem?_append_left h, List.getD_eq_getElem?_getD, List.getElem?_eq_getElem h]; rfl
theorem nextW_eq (w : List UInt32) (i : Nat) : nextW w i = w.getD (i - 16) 0 + sig0 (w.getD (i - 15) 0) + w.getD (i - 7) 0 + sig1 (w.getD (i - 2) 0) := rfl
theorem cw_size (l : List UInt32) : (cw l).size = l.length := by simp [cw]
theorem cw_one (l : List UInt32) : (cw l).all (·.oneCell') = true := by simp [cw, Value.oneCell']
theorem sched_len (l : List UInt8) : (sched l).length = 64 := by simp [sched, schedN_len, words_len]
end Dg
theorem info_w64 (l : List UInt32) (h : l.length = 64) : (Tryd.prog.info? 94).map (·.size) = some (cw l).size := by
  rw [cw_size, h]; kernel_rfl

set_option maxHeartbeats 1000000 in
theorem schedule_any (s : ByteArray) (w : World) (hs : s.size = 64) :
    Calls Tryd.prog 70 #[.string s] w fun e w' => e = .returned (.agg (cw (sched s.data.toList))) ∧ Below w.heap.size w w' := by
  go_enter Tryd.func70, Tryd.ntmps70
  go_wp2
  go_loopw [3, 4, 10, 13] (fun _ _ i _ wr => ∃ k : Nat, k ≤ 16 ∧ i = .int .i64 k ∧ wr.heap[w.heap.size]? = some (.cells (cw ((words s.data.toList).take k ++ List.replicate (64 - k) 0)) 94 (0, 0)) ∧ Below w.heap.size w wr) (fun _ _ i _ _ => 16 - (intOf i).toNat)
  case atStart => exact ⟨0, by omega, rfl, (heap_alloc_new w _).trans (by rw [List.take_zero, List.nil_append, cw_zero]; rfl), (Below.refl _ _).alloc (Nat.le_refl _) _⟩
  case round =>
    obtain ⟨k, hk, rfl, hrow, hb⟩ := hrel
    by_cases hlt : k < 16
    · go_wp2
      obtain ⟨wo, rfl⟩ : ∃ wo : World, wo = wr := ⟨_, rfl⟩
      go_loopw [4, 13] (fun _ i wr => ∃ j : Nat, j ≤ 4 ∧ i = .int .i64 j ∧ wr.heap[w.heap.size]? = some (.cells (cw ((words s.data.toList).take k ++ pw s.data.toList k j :: List.replicate (64 - k - 1) 0)) 94 (0, 0)) ∧ Below w.heap.size w wr) (fun _ i _ => 4 - (intOf i).toNat)
      case atStart => exact ⟨0, by omega, rfl, hrow.trans (by rw [rep_succ (64 - k) (by omega)]; rfl), hb⟩
      case round =>
        obtain ⟨j, hj, rfl, hrow', hb'⟩ := hrel
        by_cases hlt' : j < 4
        · have hc : wr.cell? ⟨w.heap.size, k, none⟩ = some (.int .u32 (v32 (pw s.data.toList k j))) := cell_cw hrow' k _ (get_mid _ _ _ _ (take_words_len _ _ hk))
          have hf := frozen_of_row wr w.heap.size k _ _ hrow'
          have hlen : 4 * (k : Int) + (j : Int) < 64 := by omega
          have hlen0 : 0 ≤ 4 * (k : Int) + (j : Int) := by omega
          have hlen2 : (4 * (k : Int) + (j : Int)).toNat = 4 * k + j := by omega
          have hlen3 : 4 * k + j < s.size := by omega
          have hk64 : (k : Int) < 64 := by omega
          have r1 := pw_step s k j hlt' hlen3
          have HR := Lib.hid (set_cw hrow' k (pw s.data.toList k (j + 1)))
          have HB := Lib.hid (hb'.setCell (p := ⟨w.heap.size, k, none⟩) (Nat.le_refl _) (.int .u32 (v32 (pw s.data.toList k (j + 1)))))
          clear hrow' hb' hrow hb
          go_wp2
          go_region
          go_wp2
          go_roundw
          case rel => exact ⟨j + 1, by omega, by go_num, HR.out.trans (by rw [set_mid _ _ _ _ _ (take_words_len _ _ hk)]), HB.out.drew⟩
          case measure => simp [intOf]; omega
        · obtain rfl : j = 4 := by omega
          have HR := Lib.hid hrow'
          have HB := Lib.hid hb'
          clear hrow' hb' hrow hb
          go_wp2
          go_roundw
          case rel => exact ⟨k + 1, by omega, by go_num, HR.out.trans (by rw [pw_four, words_take_succ _ _ hlt, List.append_assoc]; rfl), HB.out⟩
          case measure => simp [intOf]; omega
    · have HR : Hid (wr.heap[w.heap.size]? = some (.cells (cw (wk s.data.toList 0 ++ List.replicate (48 - 0) 0)) 94 (0, 0))) := by
        have e : k = 16 := by omega
        exact hrow.trans (by rw [e, List.take_of_length_le (by rw [words_len]; omega)]; rfl)
      have HB := Lib.hid hb
      clear hrow hb
      go_wp2
      obtain ⟨wo, rfl⟩ : ∃ wo : World, wo = wr := ⟨_, rfl⟩
      go_loopw [5, 6, 7, 8, 9] (fun i _ _ _ _ wr => ∃ n : Nat, n ≤ 48 ∧ i = .int .i64 (16 + n : Nat) ∧ wr.heap[w.heap.size]? = some (.cells (cw (wk s.data.toList n ++ List.replicate (48 - n) 0)) 94 (0, 0)) ∧ Below w.heap.size w wr) (fun i _ _ _ _ _ => 64 - (intOf i).toNat)
      case atStart => exact ⟨0, by omega, rfl, HR.out, HB.out⟩
      case round =>
        clear HR HB
        obtain ⟨n, hn, rfl, hrow, hb⟩ := hrel
        by_cases hlt : n < 48
        · have hl := wk_len s.data.toList n
          have c1 : wr.cell? ⟨w.heap.size, n + 1, none⟩ = some (.int .u32 (v32 ((wk s.data.toList n).getD (n + 1) 0))) := cell_cw hrow _ _ (get_left _ _ _ (by omega))
          have c2 : wr.cell? ⟨w.heap.size, n + 14, none⟩ = some (.int .u32 (v32 ((wk s.data.toList n).getD (n + 14) 0))) := cell_cw hrow _ _ (get_left _ _ _ (by omega))
          have c3 : wr.cell? ⟨w.heap.size, n, none⟩ = some (.int .u32 (v32 ((wk s.data.toList n).getD n 0))) := cell_cw hrow _ _ (get_left _ _ _ (by omega))
          have c4 : wr.cell? ⟨w.heap.size, n + 9, none⟩ = some (.int .u32 (v32 ((wk s.data.toList n).getD (n + 9) 0))) := cell_cw hrow _ _ (get_left _ _ _ (by omega))
          have c5 : wr.cell? ⟨w.heap.size, 16 + n, none⟩ = some (.int .u32 (v32 0)) := cell_cw hrow _ _ (by rw [rep_succ (48 - n) (by omega)]; exact get_mid _ _ _ _ hl)
          have hf := frozen_of_row wr w.heap.size (16 + n) _ _ hrow
          obtain ⟨E, hE⟩ : ∃ E : UInt32, E = (wk s.data.toList n).getD n 0 + (rotr ((wk s.data.toList n).getD (n + 1) 0) 7 ^^^ rotr ((wk s.data.toList n).getD (n + 1) 0) 18 ^^^ shr ((wk s.data.toList n).getD (n + 1) 0) 3) + (wk s.data.toList n).getD (n + 9) 0 + (rotr ((wk s.data.toList n).getD (n + 14) 0) 17 ^^^ rotr ((wk s.data.toList n).getD (n + 14) 0) 19 ^^^ shr ((wk s.data.toList n).getD (n + 14) 0) 10) := ⟨_, rfl⟩
          have HW : Hid (wk s.data.toList (n + 1) = wk s.data.toList n ++ [E]) := by
            show _ = _
            rw [wk_succ, hE, nextW_eq, show 16 + n - 16 = n by omega, show 16 + n - 15 = n + 1 by omega, show 16 + n - 7 = n + 9 by omega, show 16 + n - 2 = n + 14 by omega]
            rfl
          have HL := Lib.hid hl
          have HR := Lib.hid (set_cw hrow (16 + n) E)
          have HB := Lib.hid (hb.setCell (p := ⟨w.heap.size, 16 + n, none⟩) (Nat.le_refl _) (.int .u32 (v32 E)))
          have e1 : IntKind.i64.wrap (16 + (n : Int) - 15) = ((n + 1 : Nat) : Int) := by rw [IntKind.wrap_i64]; omega
          have e2 : IntKind.i64.wrap (16 + (n : Int) - 2) = ((n + 14 : Nat) : Int) := by rw [IntKind.wrap_i64]; omega
          have e3 : IntKind.i64.wrap (16 + (n : Int) - 16) = ((n : Nat) : Int) := by rw [IntKind.wrap_i64]; omega
          have e4 : IntKind.i64.wrap (16 + (n : Int) - 7) = ((n + 9 : Nat) : Int) := by rw [IntKind.wrap_i64]; omega
          obtain ⟨x1, hx1⟩ : ∃ x, x = (wk s.data.toList n).getD (n + 1) 0 := ⟨_, rfl⟩
          obtain ⟨x2, hx2⟩ : ∃ x, x = (wk s.data.toList n).getD (n + 14) 0 := ⟨_, rfl⟩
          obtain ⟨x3, hx3⟩ : ∃ x, x = (wk s.data.toList n).getD n 0 := ⟨_, rfl⟩
          obtain ⟨x4, hx4⟩ : ∃ x, x = (wk s.data.toList n).getD (n + 9) 0 := ⟨_, rfl⟩
          rw [← hx1] at c1 hE
          rw [← hx2] at c2 hE
          rw [← hx3] at c3 hE
          rw [← hx4] at c4 hE
          clear hl hrow hb hx1 hx2 hx3 hx4
          have rx := xor32
          have ra := add32
          have rs : ∀ x, v32 x / 8 = v32 (shr x 3) := fun x => shr32 x 3
          have rt : ∀ x, v32 x / 1024 = v32 (shr x 10) := fun x => shr32 x 10
          have rE := hE.symm
          clear hE
          go_wp2
          go_quiet (fail)
          go_wp2_with (go_at_call 71; refine (rot_lit _ _ (by decide) _).mono ?_; rintro e w' ⟨rfl, rfl⟩)
          go_region
          go_wp2
          go_roundw
          case rel => exact ⟨n + 1, by omega, by go_num, HR.out.trans (by rw [rep_succ (48 - n) (by omega), set_mid _ _ _ _ _ HL.out, HW.out, List.append_assoc]; rfl), below_drewN HB.out (nq + 1)⟩
          case measure => simp [intOf]; omega
        · have HR : Hid (wr.heap[w.heap.size]? = some (.cells (cw (sched s.data.toList)) 94 (0, 0))) := by
            have e : n = 48 := by omega
            exact hrow.trans (by rw [e]; simp [wk, sched])
          have HB := Lib.hid hb
          clear hrow hb
          go_wp2_with (first
            | ((with_reducible show wpList _ _ _ (Oper.mk (some 75) _ _ _ _ _ :: _) _ _); refine wpList_load_row rfl 94 _ rfl w.heap.size rfl 94 (cw (sched s.data.toList)) (0, 0) _ HR.out Tryd.underlying94 rfl (info_w64 _ (sched_len _)) ?_)
            | ((with_reducible show wpList _ _ _ (Oper.mk none _ _ _ _ _ :: _) _ _); refine wpList_store_row rfl 94 _ _ rfl w.heap.size (cw (sched s.data.toList)) rfl rfl 94 _ HR.out (info_w64 _ (sched_len _)) rfl (cw_one _) ?_))
          refine bodyPost_ret (v := .agg (cw (sched s.data.toList))) (results_cell_row rfl _ _ w.heap.size 94 _ (0, 0) _ rfl (setRow_heap _ _ _ _ _ _ HR.out) Tryd.underlying94 rfl (info_w64 _ (sched_len _))) rfl ⟨rfl, below_setRow HB.out (Nat.le_refl _) _⟩
end Go.Proofs.YtlegmhmmoadggaaDoor
