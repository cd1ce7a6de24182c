/- Moderators: the walk (maps.DeleteFunc; slices.Sorted of maps.Keys by the shelf). -/
import Derived.Test.YtbcldkbacdnpiaaQuAfter
import Derived.Test.YtbcldkbacdnpiaaQuIterP
namespace Go.Proofs.Ytbcldkbacdnpiaa
open Go.RowKit Go.Maps Go.WideShapes Go.Sort Go.Shelf Qu
namespace It
/-- slices.Sort's two contracts at this dump, at the fence that asks nothing. -/
theorem mods_sorts32 (m : Nat) : AnyZ.SortsIn Try.prog Try.sorted32_ren Fence.wide m :=
  ⟨fun blk off cap ss W hH hblk hsz => callsIn_wide.2 (AnyM.slices_Sort_string Try.sort40 blk off cap ss W hH hblk hsz),
   fun p cap W => callsIn_wide.2 (AnyM.slices_Sort_string_none Try.sort40 p cap W)⟩

/-- **maps.Keys[missive/quorum.room,string,missive/quorum.user], at whatever map, the nil one too:** a function value over ONE NEW BLOCK, which holds the map. -/
theorem mods_maps_Keys_33 (mb : Option Nat) (W : World) : CallsIn Fence.wide 5 Try.prog 33 #[.map mb] W fun e w' => e = .returned (.func (.func 41) #[] #[.pointer (some ⟨W.heap.size, 0, none⟩)]) ∧ w' = W.alloc (.cells #[.map mb] 45) :=
  AnyZ.keys_in Try.keys33 Fence.wide 5 trivial rfl mb W

set_option maxHeartbeats 1000000 in
/-- **slices.Sorted[string] AT WHAT maps.Keys[missive/quorum.room,string,missive/quorum.user] HANDED BACK FOR A MAP THAT IS NOT nil** ('w': the world AHEAD of maps.Keys' call): A NEW SLICE THAT HOLDS THE MAP's KEYS, SORTED; nil just where it has none; nothing that lay before has turned. -/
theorem mods_slices_Sorted_keys_32_33 {H : Type} (b nn : Nat) (D0 : DataW H) (R : Value → Option (DataW H × List MemPlace)) (w : World) (hown : w.ownsMap Try.prog 9 R b nn D0) (hmax : Maps.size D0 ≤ maxLen) (hbytes : Maps.size D0 * 16 ≤ 140737488355328) :
    CallsIn Fence.wide 5 Try.prog 32 #[.func (.func 41) #[] #[.pointer (some ⟨w.heap.size, 0, none⟩)]] (w.alloc (.cells #[.map (some b)] 45)) fun e w' => ∃ (v : Value) (ss : List (List UInt8)), e = .returned v ∧ ss.Perm (strKeys D0) ∧
      w'.ownsRow (w.alloc (.cells #[.map (some b)] 45)).heap.size 9 1 v ss.length ((ss.mergeSort (fun x y => decide (x ≤ y))).map encStr) ∧ (v = .slice none 0 0 ↔ ss = []) ∧ Below (w.alloc (.cells #[.map (some b)] 45)).heap.size (w.alloc (.cells #[.map (some b)] 45)) w' := by
  have hbl := hown.lt
  have hseq : SeqGives Fence.wide 2 Try.prog 41 #[.pointer (some ⟨w.heap.size, 0, none⟩)] encStr (fun ss => ss.Perm (strKeys D0)) (Maps.size D0) (w.alloc (.cells #[.map (some b)] 45)) :=
    AnyZ.keys_gives (ρ := Try.keys33_ren) { Try.keys33 with } Fence.wide _ trivial rfl (by omega) w.heap.size b nn D0 _ (by simp) (by simp) (by
      obtain ⟨es, clock, hb, Ft, hs, hD⟩ := hown
      exact ⟨es, clock, (Below.heap_alloc _ _ b hbl).trans hb, Ft, hs, hD⟩)
  exact AnyZ.sorted_in Try.sorted32 Fence.wide 5 trivial trivial trivial trivial rfl (by omega) (mods_sorts32 _) (enters_of Try.func40 (by kernel_rfl) rfl) 41 #[.pointer (some ⟨w.heap.size, 0, none⟩)] trivial (enters_of Try.func41 (by kernel_rfl) rfl) _ _ hmax hbytes _ hseq
end It
theorem pred_any (k : ByteArray) (m : Bool) (d : Int) (t : ByteArray) (w : World) :
    Calls Try.prog 31 #[.string k, .agg #[.bool m, .int .i64 d, .string t]] w fun x w' => x = .returned (.bool (!m)) ∧ Below w.heap.size w w' := by
  go_enter Try.func31, Try.ntmps31
  go_wp2
  go_ret
  exact ⟨rfl, (Below.refl _ _).alloc (Nat.le_refl _) _⟩
/-- moderators, and those that are still to come -/
structure Strikes (r : Room) (D : DataW Unit) (left : Lit → Bool) : Prop where
  has : ∀ k : ByteArray, Maps.has D (.string k.data.toList) = (decide (k ∈ r.keys) && ((r.of k).m || left (.string k.data.toList)))
  at_ : ∀ k : ByteArray, left (.string k.data.toList) = true → D.atKey (.string k.data.toList) (udat Qu.zero) = udat (r.of k)
theorem Strikes.start {r : Room} {D : DataW Unit} (h : Says D r) : Strikes r D (Maps.has D) :=
  ⟨fun k => by rw [h.has]; cases decide (k ∈ r.keys) <;> simp, fun k _ => h.at_ k⟩
theorem same_self (x : ByteArray) : (Lit.string x.data.toList).sameKey (.string x.data.toList) = true := WideAt.sameKey_self (isKey _)
theorem same_ne {k x : ByteArray} (h : k ≠ x) : (Lit.string k.data.toList).sameKey (.string x.data.toList) = false := Maps.sameKey_ne (key_ne h)
theorem Strikes.stay {r : Room} {D : DataW Unit} {left : Lit → Bool} (h : Strikes r D left) (x : ByteArray) (hm : (r.of x).m = true) : Strikes r D (fun z => left z && !z.sameKey (.string x.data.toList)) := by
  refine ⟨fun k => ?_, fun k hk => h.at_ k (by simp only [Bool.and_eq_true] at hk; exact hk.1)⟩
  rw [h.has]
  by_cases c : k = x
  · subst c; rw [hm]; simp
  · rw [same_ne c]; simp
theorem Strikes.strike {r : Room} {D : DataW Unit} {left : Lit → Bool} (h : Strikes r D left) (x : ByteArray) (hm : (r.of x).m = false) : Strikes r (D.del (.string x.data.toList)) (fun z => (left z && !z.sameKey (.string x.data.toList)) && !z.sameKey (.string x.data.toList)) := by
  refine ⟨fun k => ?_, fun k hk => ?_⟩
  · by_cases c : k = x
    · subst c; rw [Maps.has_del_same, hm, same_self]; simp
    · rw [Maps.has_del_other (key_ne c), h.has, same_ne c]; simp
  · by_cases c : k = x
    · subst c; rw [same_self] at hk; simp at hk
    · rw [Maps.atKey_del_other (key_ne c)]
      simp only [Bool.and_eq_true] at hk
      exact h.at_ k hk.1.1
def ModAt (w : World) (b : Nat) (r : Room) (n : Nat) : Prop := ∃ D : DataW Unit, w.ownsMap Try.prog 9 uelem b n D ∧ ∀ k : ByteArray, Maps.has D (.string k.data.toList) = (decide (k ∈ r.keys) && (r.of k).m)
set_option maxHeartbeats 1000000 in
theorem delete_any (b n : Nat) (r : Room) (w : World) (hr : RoomAt w b r n) :
    Calls Try.prog 30 #[.map (some b), .func (.func 31) #[] #[]] w fun x w' => x = .returned (.tuple #[]) ∧ ModAt w' b r n ∧ w.grownBy w' (some b) := by
  obtain ⟨D, hown, hsays⟩ := hr
  have hb := hown.lt
  have hst := Lib.hid (Strikes.start hsays)
  clear hsays
  go_enter Try.func30, Try.ntmps30
  go_wp2_with (first | (at_range; refine wpList_range_own _ rfl _ _ rfl 9 51 law_s Try.underlying45 uelem b n D rfl hown ?_; intro w0 hrg0 hg0 hs0))
  go_frame
  go_loopw [4] (fun _ wr => ∃ (left : Lit → Bool) (cnt : Nat) (D' : DataW Unit), wr.ranges Try.prog 9 uelem b w.heap.size n D' left cnt ∧ w.grownBy wr (some b) ∧ Strikes r D' left)
    (fun _ wr => wr.rangeLeft b w.heap.size)
  case atStart => exact ⟨_, _, _, hrg0, hg0.but _, hst.out⟩
  case round =>
    obtain ⟨left, cnt, D', hrg, hgw, hsk⟩ := hrel
    have SK := Lib.hid hsk
    have HG := Lib.hid hgw
    have hlt0 := hrg.lt
    have m1 := hrg.left_eq
    have HM := Lib.hid m1
    clear hsk hgw m1 hrg0 hg0 hs0
    go_wp2_with (first | (at_next; refine wpList_next_ranges _ rfl _ rfl 9 law_s uelem Value.string uval (fun key kl h => by obtain ⟨s, h, _⟩ := keyOf_string_inv h; exact ⟨s, h⟩) (fun v y h => by obtain ⟨u, h, _⟩ := uelem_inv h; exact ⟨u, h⟩) b w.heap.size n D' left cnt rfl hrg ?_ ?_))
    · intro h0 hl0
      have hfin : ModAt wr b r n := ⟨D', hrg.owns, fun k => by rw [SK.out.has, hl0]; simp⟩
      have HF := Lib.hid hfin
      clear hl0 hfin
      go_wp2
      go_end0
      exact ⟨rfl, HF.out, HG.out⟩
    · intro x c kl y ps w1 cnt1 hk hlk hy hat hrg1 hlt hg1 hs1 hen
      obtain ⟨x', ex, hkl, hxs⟩ := keyOf_string_inv hk
      obtain rfl : x = x' := by simpa using ex
      rw [hkl] at hrg1 hlk hat
      have hcx : c = r.of x := by
        have h1 := SK.out.at_ x hlk
        rw [hat] at h1
        rw [uelem_mk] at hy
        simp only [Option.some.injEq, Prod.mk.injEq] at hy
        rw [← hy.1] at h1
        exact udat_inj h1
      obtain ⟨cm, cd, ct⟩ := c
      simp only [uval] at hen ⊢
      have HCX := Lib.hid hcx
      have HRG := Lib.hid hrg1
      have HLT := Lib.hid hlt
      have HG1 := Lib.hid (HG.out.andThen hg1 (fun j hj => by cases hj; exact Or.inl (Nat.le_refl _)))
      have hsz1 : w.heap.size < w1.heap.size := by omega
      have hbw : b < w1.heap.size := by omega
      clear hlk hat hk hy hkl ex hg1 hs1 hrg1 hlt hcx
      have hp := pred_any x cm cd ct (w1.alloc (.cells #[.bool cm, .int .i64 cd, .string ct] 51))
      cases cm
      · go_wp2_with fail
        refine hp.mono ?_
        rintro e w2 ⟨rfl, hb2⟩
        have g2 : w1.grownBy w2 none := ⟨hb2.os, hb2.tape, hb2.output, Nat.le_trans (by simp) hb2.size, fun i hi _ => (hb2.block i (by simp; omega)).trans (Below.heap_alloc _ _ _ hi)⟩
        have HRG2 := Lib.hid (HRG.out.kept (row := none) g2 (by simp) (by simp))
        have HG2 := Lib.hid (HG1.out.andThen g2 (fun j hj => by cases hj))
        clear hb2 g2 hp
        go_wp2_with (first | (at_delete; refine wpList_delete_ranges _ rfl _ _ _ 9 rfl 51 law_s Try.underlying45 uelem b w.heap.size n D' _ _ rfl HRG2.out _ _ rfl (WideMaps.keyOf_string_mk Try.underlying9 hxs) ?_; intro w3 cnt3 hrg3 hle hturn; have HR3 := Lib.hid hrg3; have HG3 := Lib.hid (HG2.out.andThen hturn.grown (fun j hj => by cases hj; exact Or.inr rfl)); clear hrg3 hturn; go_frame))
        go_roundw
        case rel => exact ⟨_, cnt3, _, HR3.out, HG3.out, SK.out.strike x (by rw [← HCX.out])⟩
        case measure => rw [HR3.out.left_eq, HM.out]; have := HLT.out; omega
      · go_wp2_with fail
        refine hp.mono ?_
        rintro e w2 ⟨rfl, hb2⟩
        have g2 : w1.grownBy w2 none := ⟨hb2.os, hb2.tape, hb2.output, Nat.le_trans (by simp) hb2.size, fun i hi _ => (hb2.block i (by simp; omega)).trans (Below.heap_alloc _ _ _ hi)⟩
        have HRG2 := Lib.hid (HRG.out.kept (row := none) g2 (by simp) (by simp))
        have HG2 := Lib.hid (HG1.out.andThen g2 (fun j hj => by cases hj))
        clear hb2 g2 hp
        go_wp2
        go_roundw
        case rel => exact ⟨_, cnt1, _, HRG2.out, HG2.out, SK.out.stay x (by rw [← HCX.out])⟩
        case measure => rw [HRG2.out.left_eq, HM.out]; exact HLT.out
/-- the moderators of a room, in order -/
def modsL (r : Room) : List (List UInt8) := ((r.keys.filter fun k => (r.of k).m).map (·.data.toList)).mergeSort leB
def bs (l : List UInt8) : ByteArray := ⟨l.toArray⟩
def modsB (r : Room) : List ByteArray := (modsL r).map bs
theorem modsB_perm (r : Room) : (modsB r).Perm (r.keys.filter fun k => (r.of k).m) := by
  have h := (List.mergeSort_perm ((r.keys.filter fun k => (r.of k).m).map (·.data.toList)) leB).map bs
  rw [List.map_map] at h
  have e : (bs ∘ fun k : ByteArray => k.data.toList) = id := by funext k; rfl
  rw [e, List.map_id] at h
  exact h
theorem mem_modsB {r : Room} (hf : r.Fine) (k : ByteArray) : k ∈ modsB r ↔ (r.of k).m = true := by
  rw [(modsB_perm r).mem_iff, List.mem_filter]
  exact ⟨fun h => h.2, fun h => ⟨hf.mod k h, h⟩⟩
theorem nodup_modsB {r : Room} (hf : r.Fine) : (modsB r).Nodup := (modsB_perm r).nodup_iff.2 (hf.nodup.filter _)
/-- the slice at p holds the strings l -/
structure StrRow (w : World) (b o : Nat) (l : List ByteArray) : Prop where
  cell : ∀ i (h : i < l.length), w.cell? ⟨b, o + i, none⟩ = some (.string (l[i]'h))
def StrAt (w : World) (p : Option Addr) (l : List ByteArray) : Prop := l = [] ∨ ∃ b o, p = some ⟨b, o, none⟩ ∧ StrRow w b o l
theorem StrRow.block {w w' : World} {b o : Nat} {l : List ByteArray} (h : StrRow w b o l) (hb : w'.heap[b]? = w.heap[b]?) : StrRow w' b o l :=
  ⟨fun i hi => (World.cell?_of_block (w := w) (a := ⟨b, o + i, none⟩) hb).trans (h.cell i hi)⟩
theorem StrAt.below {w w' : World} {B : Nat} {p : Option Addr} {l : List ByteArray} (h : StrAt w p l) (hb : Below B w w') (hB : w.heap.size ≤ B) : StrAt w' p l := by
  rcases h with h | ⟨b, o, h1, h2⟩
  · exact .inl h
  · by_cases hl : 0 < l.length
    · exact .inr ⟨b, o, h1, h2.block (hb.block b (Nat.lt_of_lt_of_le (cell_lt (h2.cell 0 hl)) hB))⟩
    · exact .inl (List.length_eq_zero_iff.1 (by omega))
theorem owns_strs {w : World} {base : Nat} {v : Value} {l : List ByteArray} (h : w.ownsRow base 9 1 v l.length (l.map Value.string)) : ∃ p cap, v = .slice p l.length cap ∧ StrAt w p l ∧ l.length ≤ cap ∧ cap ≤ maxLen := by
  have ho := Own.of_owns h
  obtain ⟨p, cap, rfl, hc, hm⟩ := ho.shape'
  refine ⟨p, cap, rfl, ?_, hc, hm⟩
  by_cases h0 : 0 < l.length
  · obtain ⟨g, cap', e, _, _, _, _, hcell⟩ := ho.shape h0
    simp only [Value.slice.injEq, true_and] at e
    refine .inr ⟨g, 0, e.1, ⟨fun i hi => ?_⟩⟩
    rw [Nat.zero_add, hcell i (by omega), List.getElem?_map, List.getElem?_eq_getElem hi]; rfl
  · exact .inl (List.length_eq_zero_iff.1 (by omega))
def ModsPost (w : World) (l : List ByteArray) (x : Ending) (w' : World) : Prop := ∃ p cap, x = .returned (.slice p l.length cap) ∧ StrAt w' p l ∧ l.length ≤ cap ∧ cap ≤ maxLen ∧ Below w.heap.size w w'
theorem has_size {D : DataW Unit} {w : World} {b n : Nat} (h : w.ownsMap Try.prog 9 uelem b n D) : Maps.size D ≤ n := h.size_le
set_option maxHeartbeats 1000000 in
theorem moderators_any (l : List Ev) (p : Option Addr) (cap : Nat) (w : World) (hl : EvsAt w p l) (hlen : l.length ≤ 1000) :
    Calls Try.prog 14 #[.slice p l.length cap] w (ModsPost w (modsB (Qu.after l))) := by
  have hm := made_after hl.okAll
  have ha := after_any l p cap w hl hlen
  clear hl
  generalize hr0 : (Qu.after l) = r at ha hm ⊢
  clear hr0
  go_enter Try.func14, Try.ntmps14
  go_wp2_with fail
  refine ha.mono ?_
  rintro x w1 ⟨rfl, hr1, hb1⟩
  have HB := Lib.hid hb1
  have hd := delete_any w.heap.size l.length r w1 hr1
  clear hr1 hb1 ha
  go_wp2_with fail
  refine hd.mono ?_
  rintro x w2 ⟨rfl, ⟨D, hown, hhas⟩, hg2⟩
  have HB2 := Lib.hid (HB.out.trans (below_of_grown hg2 (Nat.le_refl _) HB.out.size))
  have hk := callsIn_wide.1 (It.mods_maps_Keys_33 (some w.heap.size) w2)
  have hsz := hown.size_le
  have hS := callsIn_wide.1 (It.mods_slices_Sorted_keys_32_33 w.heap.size l.length D uelem w2 hown (by unfold maxLen; omega) (by omega))
  have hperm : ∀ ss : List (List UInt8), ss.Perm (strKeys D) → ss.mergeSort leB = modsL r := by
    intro ss hss
    unfold modsL
    refine mergeSort_of_perm (hss.trans ?_)
    obtain ⟨es, rfl, hpw, _⟩ := hown.entries law_s
    obtain ⟨es', hD', hko⟩ := hown.keysOf
    obtain rfl : es = es' := by simpa using hD'
    refine (perm_strKeys hpw (fun p hp => by obtain ⟨v, hv⟩ := hko p hp; obtain ⟨x, _, hx, _⟩ := Maps.keyOf_str Try.underlying9 hv; exact ⟨x, hx⟩) ?_ ?_).symm
    · refine List.pairwise_map.2 ((hm.fine.nodup.filter _).imp fun {a b} hab e => hab (bytes_ext e))
    · intro x
      have := hhas (bs x)
      have e1 : (bs x).data.toList = x := rfl
      rw [e1] at this
      rw [this, List.mem_map]
      constructor
      · rintro ⟨k, hk, rfl⟩
        have hk' := List.mem_filter.1 hk
        have e2 : bs k.data.toList = k := rfl
        rw [e2]
        simp [hk'.1, hk'.2]
      · intro h
        simp only [Bool.and_eq_true, decide_eq_true_eq] at h
        exact ⟨bs x, List.mem_filter.2 ⟨h.1, h.2⟩, rfl⟩
  have HP := Lib.hid hperm
  clear hperm hown hhas hg2 hd hm hsz
  go_wp2_with fail
  refine hk.mono ?_
  rintro x w3 ⟨rfl, rfl⟩
  clear hk
  go_wp2_with fail
  refine hS.mono ?_
  rintro x w4 ⟨v, ss, rfl, hss, hrow, hnil, hb4⟩
  have e1 := HP.out ss hss
  have e2 : (ss.mergeSort (fun x y => decide (x ≤ y))) = modsL r := e1
  have hlen2 : ss.length = (modsB r).length := by rw [modsB, List.length_map, ← e1, (List.mergeSort_perm ss leB).length_eq]
  rw [e2, hlen2] at hrow
  have e3 : (modsL r).map Go.Proofs.encStr = (modsB r).map Value.string := by rw [modsB, List.map_map]; rfl
  rw [e3] at hrow
  obtain ⟨q, c, rfl, hst, hc1, hc2⟩ := owns_strs hrow
  have hfin : ModsPost w (modsB r) (.returned (.slice q (modsB r).length c)) w4 := ⟨q, c, rfl, hst, hc1, hc2, HB2.out.trans (((Below.refl w2.heap.size w2).alloc (Nat.le_refl _) _).trans (hb4.mono (by simp)) |>.mono HB2.out.size)⟩
  have HF := Lib.hid hfin
  clear hfin hst hrow hnil hb4 hss hS e1 e2 e3 hlen2
  go_wp2
  go_ret
  exact HF.out
end Go.Proofs.Ytbcldkbacdnpiaa
