/- turned, renamed: the walks. -/
import Derived.Test.YtbcldkbacdnpiaaQuLeavesW
import Derived.Test.YtbcldkbacdnpiaaQuNames0
import Derived.WalkSpells
import Derived.Laws.DeepStrings4
namespace Go.Proofs.Ytbcldkbacdnpiaa
open Go.RowKit Go.Maps Go.WideShapes Qu
/-- the sign, and the bytes from k on turned around -/
def rv (s : ByteArray) (k : Nat) : ByteArray := ⟨(126 :: (s.data.toList.drop k).reverse).toArray⟩
theorem rv_end (s : ByteArray) : rv s s.size = ⟨#[126]⟩ := by
  unfold rv
  rw [List.drop_of_length_le (by rw [Array.length_toList]; exact Nat.le_refl _)]; rfl
theorem rv_zero (s : ByteArray) : rv s 0 = ren s := rfl
theorem rv_size (s : ByteArray) (k : Nat) : (rv s k).size ≤ s.size + 1 := by
  show (126 :: (s.data.toList.drop k).reverse).length ≤ _
  rw [List.length_cons, List.length_reverse, List.length_drop, Array.length_toList]
  show s.size - k + 1 ≤ s.size + 1
  omega
theorem rv_step (s : ByteArray) (j : Nat) (h : j < s.size) : rv s (j + 1) ++ s.extract j (j + 1) = rv s j := by
  apply bytes_ext
  have hl : j < s.data.toList.length := by rw [Array.length_toList]; exact h
  have e : (s.extract j (j + 1)).data.toList = [s.data.toList[j]] := by
    rw [ByteArray.data_extract, Array.toList_extract]
    show (s.data.toList.drop j).take (j + 1 - j) = _
    rw [List.drop_eq_getElem_cons hl, show j + 1 - j = 1 by omega]; rfl
  rw [ByteArray.data_append, Array.toList_append, e]
  show (126 :: (s.data.toList.drop (j + 1)).reverse) ++ [s.data.toList[j]] = 126 :: (s.data.toList.drop j).reverse
  rw [List.drop_eq_getElem_cons hl, List.reverse_cons, List.cons_append]
set_option maxHeartbeats 1000000 in
theorem turned_any (s : ByteArray) (w : World) (hs : s.size ≤ 100) : Calls Try.prog 23 #[.string s] w fun x w' => x = .returned (.string (ren s)) ∧ w = w' := by
  obtain ⟨R, hR⟩ : ∃ R, R = ren s := ⟨_, rfl⟩
  rw [← hR]
  have HR := Lib.hid hR
  clear hR
  go_enter Try.func23, Try.ntmps23
  go_wp2_with fail
  go_loop [3, 4] (fun o i => ∃ k : Nat, k ≤ s.size ∧ i = .int .i64 ((k : Int) - 1) ∧ o = .string (rv s k)) (fun _ i => (intOf i + 1).toNat)
  case atStart => exact ⟨s.size, Nat.le_refl _, rfl, by rw [rv_end]⟩
  case round =>
    obtain ⟨k, hk, rfl, rfl⟩ := hrel
    by_cases hz : k = 0
    · subst hz
      rw [rv_zero, ← HR.out]
      go_wp2
      go_ret
      exact ⟨rfl, rfl⟩
    · obtain ⟨j, rfl⟩ : ∃ j, k = j + 1 := ⟨k - 1, by omega⟩
      have ei : ((j + 1 : Nat) : Int) - 1 = (j : Int) := by omega
      rw [ei]
      clear ei
      have hx := rv_step s j (by omega)
      have hz1 := rv_size s (j + 1)
      obtain ⟨o, ho⟩ : ∃ o, rv s (j + 1) = o := ⟨_, rfl⟩
      rw [ho] at hx hz1 ⊢
      obtain ⟨o2, ho2⟩ : ∃ o, rv s j = o := ⟨_, rfl⟩
      rw [ho2] at hx
      have HO := Lib.hid ho2
      have i1 : (0 : Int) ≤ (j : Int) := by omega
      have i2 : (j : Int) ≤ (j : Int) + 1 := by omega
      have i3 : (j : Int) + 1 ≤ (s.size : Int) := by omega
      have i4 : ((j : Int) + 1).toNat = j + 1 := by omega
      clear ho ho2
      go_wp2
      go_round
      case rel => exact ⟨j, by omega, rfl, by rw [HO.out]⟩
      case measure => simp [intOf]
theorem heap_two (w : World) (a b : Obj) : ((w.alloc a).alloc b).heap[w.heap.size + 1]? = some b := by
  have := heap_alloc_new (w.alloc a) b
  simpa using this
/-- every name is short -/
def Small (l : List Ev) : Prop := ∀ e ∈ l, e.user.size ≤ 100 ∧ e.name.size ≤ 100
theorem renE_ok {e : Ev} (h : e.user.size ≤ 100 ∧ e.name.size ≤ 100) : EvOk (renE e) := by
  refine ⟨?_, ?_⟩
  · show (ren e.user).size ≤ _
    rw [ren_size]; unfold maxLen; omega
  · show (ren0 e.name).size ≤ _
    have := ren0_size e.name; unfold maxLen; omega
def RenPost (w : World) (L : List Ev) (x : Ending) (w' : World) : Prop := ∃ p cap, x = .returned (.slice p L.length cap) ∧ EvsAt w' p L ∧ Below w.heap.size w w'
set_option maxHeartbeats 2000000 in
theorem renamed_any (l : List Ev) (p : Option Addr) (cap : Nat) (w : World) (hl : EvsAt w p l) (hlen : l.length ≤ 30) (hsm : Small l) :
    Calls Try.prog 22 #[.slice p l.length cap] w (RenPost w (l.map renE)) := by
  have HL := Lib.hid hl
  have HSM := Lib.hid hsm
  obtain ⟨L, hL⟩ : ∃ L, L = l.map renE := ⟨_, rfl⟩
  rw [← hL]
  have HLe := Lib.hid hL
  clear hl hsm hL
  go_enter Try.func22, Try.ntmps22
  go_wp2_with fail
  go_loopw [3, 4] (fun v i wr => ∃ k : Nat, k ≤ l.length ∧ i = .int .i64 k ∧ Own wr w.heap.size 31 4 v ((l.take k).map renE).length (evcs ((l.take k).map renE)) ∧ Below w.heap.size w wr) (fun _ i _ => l.length - (intOf i).toNat)
  case atStart => exact ⟨0, Nat.zero_le _, rfl, Own.nil _ _ _ _, Below.refl _ _⟩
  case round =>
    obtain ⟨k, hk, rfl, hown, hbl⟩ := hrel
    have HO := Lib.hid hown
    have HB := Lib.hid hbl
    obtain ⟨q, c, hv, hqc, hcm⟩ := hown.shape'
    rw [show ((l.take k).map renE).length = k by rw [List.length_map]; simp; omega] at hv
    clear hown hbl hqc
    by_cases hlt : k < l.length
    · obtain ⟨ab, ao, rfl, hrow⟩ : ∃ b o, p = some ⟨b, o, none⟩ ∧ EvsRow wr b o l := (HL.out.below HB.out (Nat.le_refl _)).resolve_left (fun e => by simp [e] at hlt)
      have c0 := hrow.when k hlt
      have c1 := hrow.kind k hlt
      have c2 := hrow.user k hlt
      have c3 := hrow.name k hlt
      have hsm := HSM.out _ (List.getElem_mem hlt)
      have ht : (l.take (k + 1)).map renE = (l.take k).map renE ++ [renE l[k]] := by rw [take_mem_snoc l k hlt, List.map_append]; rfl
      obtain ⟨e, he⟩ : ∃ e, l[k] = e := ⟨_, rfl⟩
      rw [he] at c0 c1 c2 c3 hsm ht
      obtain ⟨h1, h2⟩ := hsm
      have hadd : (⟨ab, ao, none⟩ : Addr).add (k * 4) = ⟨ab, ao + k * 4, none⟩ := add_plain _ _ _
      obtain ⟨A, hA⟩ : ∃ A, A = (l.take k).map renE := ⟨_, rfl⟩
      obtain ⟨A', hA'⟩ : ∃ A', A' = (l.take (k + 1)).map renE := ⟨_, rfl⟩
      have hAl : A.length ≤ 30 := by rw [hA, List.length_map]; simp; omega
      rw [← hA, ← hA'] at ht
      rw [← hA] at HO
      have HT := Lib.hid ht
      have HA' := Lib.hid hA'
      have hrok : ∀ x ∈ [renE e], EvOk x := fun x hx => by simp at hx; rw [hx]; exact renE_ok ⟨h1, h2⟩
      have HROK := Lib.hid hrok
      have hT1 := fun W => turned_any e.user W h1
      have hT2 := fun W => turned_any e.name W h2
      have HT1 := Lib.hid hT1; have HT2 := Lib.hid hT2
      clear ht hA hA' he hrow hrok hT1 hT2
      subst hv
      by_cases hn : e.name = ⟨#[]⟩
      · have hn0 : ren0 e.name = ⟨#[]⟩ := by unfold ren0; rw [if_pos hn, hn]
        have HEV : Hid (renE e = ⟨e.when, e.kind, ren e.user, ⟨#[]⟩⟩) := Lib.hid (by unfold renE; rw [hn0])
        rw [hn] at c3
        have hh : ((wr.alloc (.cells #[.int .i64 e.when, .int .i64 e.kind, .string (ren e.user), .string ⟨#[]⟩] 31)).alloc (.cells #[.int .i64 e.when, .int .i64 e.kind, .string (ren e.user), .string ⟨#[]⟩] 31)).heap[wr.heap.size + 1]? = some (.cells #[.int .i64 e.when, .int .i64 e.kind, .string (ren e.user), .string ⟨#[]⟩] 31) := heap_two _ _ _
        have HROW : Hid (EvsRow ((wr.alloc (.cells #[.int .i64 e.when, .int .i64 e.kind, .string (ren e.user), .string ⟨#[]⟩] 31)).alloc (.cells #[.int .i64 e.when, .int .i64 e.kind, .string (ren e.user), .string ⟨#[]⟩] 31)) (wr.heap.size + 1) 0 [renE e]) := Lib.hid (row_lit (l := [renE e]) (by rw [HEV.out]; exact hh) HROK.out)
        clear hh
        clear hn hn0
        go_wp2_with fail
        refine (HT1.out _).mono ?_
        rintro x w' ⟨rfl, rfl⟩
        go_wp2_with (at_builtin; refine wpList_append_evs rfl _ _ rfl w.heap.size _ A [renE e] rfl ((HO.out.alloc _).alloc _) (wr.heap.size + 1) 0 1 rfl HROW.out (by simp only [List.length_cons, List.length_nil]; omega) (by have := HB.out.size; simp; omega) A' HT ?_; intro p2 k2 w2 ho2 hg2 _; have b2 := ((HB.out.alloc HB.out.size (.cells #[.int .i64 e.when, .int .i64 e.kind, .string (ren e.user), .string ⟨#[]⟩] 31)).alloc (by have := HB.out.size; simp; omega) (.cells #[.int .i64 e.when, .int .i64 e.kind, .string (ren e.user), .string ⟨#[]⟩] 31)).trans (below_row hg2 (fun g hg => (HO.out.block_ge g hg).1) (by have := HB.out.size; simp; omega)); have HO2 := Lib.hid ho2; have HB2 := Lib.hid b2; clear ho2 hg2 b2)
        go_roundw
        case rel => exact ⟨k + 1, by omega, by go_num, by rw [← HA'.out]; exact HO2.out, HB2.out⟩
        case measure => simp [intOf]; omega
      · obtain ⟨e1, e2⟩ := nonempty hn
        have hn0 : ren0 e.name = ren e.name := by unfold ren0; rw [if_neg hn]
        have HEV : Hid (renE e = ⟨e.when, e.kind, ren e.user, ren e.name⟩) := Lib.hid (by unfold renE; rw [hn0])
        have hh : ((wr.alloc (.cells #[.int .i64 e.when, .int .i64 e.kind, .string (ren e.user), .string (ren e.name)] 31)).alloc (.cells #[.int .i64 e.when, .int .i64 e.kind, .string (ren e.user), .string (ren e.name)] 31)).heap[wr.heap.size + 1]? = some (.cells #[.int .i64 e.when, .int .i64 e.kind, .string (ren e.user), .string (ren e.name)] 31) := heap_two _ _ _
        have HROW : Hid (EvsRow ((wr.alloc (.cells #[.int .i64 e.when, .int .i64 e.kind, .string (ren e.user), .string (ren e.name)] 31)).alloc (.cells #[.int .i64 e.when, .int .i64 e.kind, .string (ren e.user), .string (ren e.name)] 31)) (wr.heap.size + 1) 0 [renE e]) := Lib.hid (row_lit (l := [renE e]) (by rw [HEV.out]; exact hh) HROK.out)
        clear hh
        clear hn hn0
        go_wp2_with fail
        refine (HT1.out _).mono ?_
        rintro x w' ⟨rfl, rfl⟩
        go_wp2_with fail
        refine (HT2.out _).mono ?_
        rintro x w' ⟨rfl, rfl⟩
        go_wp2_with (at_builtin; refine wpList_append_evs rfl _ _ rfl w.heap.size _ A [renE e] rfl ((HO.out.alloc _).alloc _) (wr.heap.size + 1) 0 1 rfl HROW.out (by simp only [List.length_cons, List.length_nil]; omega) (by have := HB.out.size; simp; omega) A' HT ?_; intro p2 k2 w2 ho2 hg2 _; have b2 := ((HB.out.alloc HB.out.size (.cells #[.int .i64 e.when, .int .i64 e.kind, .string (ren e.user), .string (ren e.name)] 31)).alloc (by have := HB.out.size; simp; omega) (.cells #[.int .i64 e.when, .int .i64 e.kind, .string (ren e.user), .string (ren e.name)] 31)).trans (below_row hg2 (fun g hg => (HO.out.block_ge g hg).1) (by have := HB.out.size; simp; omega)); have HO2 := Lib.hid ho2; have HB2 := Lib.hid b2; clear ho2 hg2 b2)
        go_roundw
        case rel => exact ⟨k + 1, by omega, by go_num, by rw [← HA'.out]; exact HO2.out, HB2.out⟩
        case measure => simp [intOf]; omega
    · obtain rfl : k = l.length := by omega
      have ho := HO.out
      rw [List.take_length, ← HLe.out] at ho
      obtain ⟨p2, c2, hv2, _⟩ := ho.shape'
      rw [hv2] at ho
      have hok : ∀ e ∈ L, EvOk e := fun e he => by rw [HLe.out] at he; obtain ⟨x, hx, rfl⟩ := List.mem_map.1 he; exact renE_ok (HSM.out x hx)
      have hfin : RenPost w L (.returned (.slice p2 L.length c2)) wr := ⟨p2, c2, rfl, own_evs ho hok, HB.out⟩
      have HF := Lib.hid hfin
      clear HO hfin ho hok hv
      subst hv2
      go_wp2
      go_ret
      exact HF.out
end Go.Proofs.Ytbcldkbacdnpiaa
