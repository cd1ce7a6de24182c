/- vote: the walk. -/
import Derived.Test.YtbcldkbacdnpiaaQuApply
import Derived.Test.YtbcldkbacdnpiaaQuLaw
import Derived.Test.YtbcldkbacdnpiaaFr
import Derived.Deep.LoopGhost
namespace Go.Proofs.Ytbcldkbacdnpiaa
open Go.RowKit Go.Maps Qu
/-- every delegation's name can be a key -/
def Qu.Room.Short (r : Room) : Prop := ∀ k, (r.of k).t.size ≤ maxLen
theorem below_of_grown {B b : Nat} {w w' : World} (h : w.grownBy w' (some b)) (hb : B ≤ b) (hB : B ≤ w.heap.size) : Below B w w' :=
  ⟨h.os, h.tape, h.output, h.size, fun i hi => h.block i (by omega) (by simp; omega)⟩
theorem cells3 {w : World} {b : Nat} {x y z : Value} {T : TypeId} (h : w.heap[b]? = some (.cells #[x, y, z] T (0, 0))) :
    w.cell? ⟨b, 0, none⟩ = some x ∧ w.cell? ⟨b, 1, none⟩ = some y ∧ w.cell? ⟨b, 2, none⟩ = some z ∧ w.frozen? ⟨b, 0, none⟩ = false ∧ w.frozen? ⟨b, 1, none⟩ = false ∧ w.frozen? ⟨b, 2, none⟩ = false := by
  simp [World.cell?, World.frozen?, h]
theorem nonempty {y : ByteArray} (h : ¬ y = ⟨#[]⟩) : y.toList.isEmpty = false ∧ ¬ y.toList = [] := by
  rw [ByteArray.toList_eq]
  have : ¬ y.data.toList = [] := fun e => h (bytes_ext (by rw [e]))
  exact ⟨by simpa using this, this⟩
theorem run_field0 (m : Bool) (d : Int) (t : ByteArray) (w : World) : (Instr.field 51 (.agg #[.bool m, .int .i64 d, .string t]) 0).run Try.prog w = .ok (.bool m) w := by kernel_rfl
theorem set3 {w : World} {b : Nat} {x y z : Value} {T : TypeId} {fz : Nat × Nat} (h : w.heap[b]? = some (.cells #[x, y, z] T fz)) (x' y' z' : Value) :
    (((w.setCell ⟨b, 0, none⟩ x').setCell ⟨b, 1, none⟩ y').setCell ⟨b, 2, none⟩ z').heap[b]? = some (.cells #[x', y', z'] T fz) := by
  simp [World.setCell, Array.getElem?_modify, h]
def VRel (w : World) (b n : Nat) (r : Room) (v : Int) (k : Nat) (wr : World) : Prop :=
  ∃ (m : Bool) (d : Int) (y : ByteArray) (seen : List ByteArray) (ns : Nat), wr.heap[w.heap.size]? = some (.cells #[.bool m, .int .i64 d, .string y] 51 (0, 0)) ∧ y.size ≤ maxLen ∧
    SeenAt wr (w.heap.size + 1) seen ns ∧ RoomAt wr b r n ∧ Below w.heap.size w wr ∧ v = chased r seen y ∧ k = (r.keys.filter (fun k => decide (k ∉ seen))).length ∧ ns + k ≤ r.keys.length + 1
set_option maxHeartbeats 1000000 in
theorem vote_any (b n : Nat) (r : Room) (k : ByteArray) (w : World) (hr : RoomAt w b r n) (hf : r.Fine) (hn : r.keys.length + 1 < maxLen) (hk : k.size ≤ maxLen) (hs : r.Short) :
    Calls Try.prog 36 #[.map (some b), .string k] w fun x w' => x = .returned (.int .i64 (r.vote k)) ∧ Below w.heap.size w w' := by
  have hb := hr.lt
  obtain ⟨um, ud, ut, hu'⟩ : ∃ um ud ut, r.of k = ⟨um, ud, ut⟩ := ⟨_, _, _, rfl⟩
  have HU := Lib.hid hu'
  by_cases hd : ud = 0
  · subst hd
    cases um
    · have hv : r.vote k = 0 := by rw [vote_direct (.inr (by rw [hu']))]; rw [hu']
      rw [hv]
      clear hu' hv
      go_enter Try.func36, Try.ntmps36
      go_wp2_with (first | (at_lookup; refine wpList_lookup_room _ rfl _ _ rfl b n r rfl hr k rfl hk _ _ _ HU ?_))
      go_ret
      exact ⟨rfl, (Below.refl _ _).alloc (Nat.le_refl _) _⟩
    · have hv := vote_start hf (k := k) (by rw [hu']) (by rw [hu'])
      have hl : ((r.keys.filter (fun x => decide (x ∉ [k]))).length) ≤ r.keys.length := List.length_filter_le _ _
      have hts : ut.size ≤ maxLen := by have := hs k; rw [hu'] at this; exact this
      rw [hu'] at hv
      generalize r.vote k = v at hv ⊢
      have HV := Lib.hid hv
      have HL := Lib.hid hl
      clear hu' hv hl
      go_enter Try.func36, Try.ntmps36
      have hmm := @run_makeMap Try.prog
      have hs0 : SeenAt ((w.alloc (.cells #[.bool true, .int .i64 0, .string ut] 51)).alloc (.map #[] 0)) (w.heap.size + 1) [] 0 := by
        have := SeenAt.made (w.alloc (.cells #[.bool true, .int .i64 0, .string ut] 51))
        simpa using this
      go_wp2_with (first | (at_lookup; refine wpList_lookup_room _ rfl _ _ rfl b n r rfl hr k rfl hk _ _ _ HU ?_) | (refine wpList_insert_seen _ rfl _ _ _ rfl (w.heap.size + 1) 0 [] rfl hs0 (by decide) k rfl hk rfl ?_; intro w1 hs1 hg1))
      go_loopg [4] (r.keys.filter (fun x => decide (x ∉ [k]))).length (fun g _ wr => VRel w b n r v g wr)
      case atStart =>
        refine ⟨true, 0, ut, [k], 1, ?_, hts, hs1, ?_, ?_, HV.out, rfl, by have := HL.out; omega⟩
        · rw [hg1.block w.heap.size (by simp; omega) (by simp), Below.heap_alloc _ _ _ (by simp), heap_alloc_new]
        · exact ((hr.alloc _).alloc _).kept hg1 (by simp; omega)
        · exact (((Below.refl _ _).alloc (Nat.le_refl _) _).alloc (by simp) _).trans (below_of_grown hg1 (by simp) (by simp; omega))
      case round =>
        obtain ⟨m, d, y, seen, ns, hcell, hy, hsn, hrm, hbl, hvv, hgk, hns⟩ := hrel
        have HV2 := Lib.hid hvv
        have HG := Lib.hid hgk
        have HC := Lib.hid hcell
        obtain ⟨f0, f1, f2, z0, z1, z2⟩ := cells3 hcell
        have hsz := lt_block hcell
        have hsz2 := hsn.lt
        clear hvv hgk hcell hs1 hg1 hs0
        obtain ⟨ym, yd, yt, hu2⟩ : ∃ ym yd yt, r.of y = ⟨ym, yd, yt⟩ := ⟨_, _, _, rfl⟩
        by_cases ce : y = ⟨#[]⟩
        · have hv0 := chased_stop (r := r) (seen := seen) (.inl ce)
          subst ce
          have hfin : v = 0 := HV2.out.trans hv0
          subst hfin
          clear hv0 hu2
          go_wp2
          go_ret
          exact ⟨rfl, hbl⟩
        · obtain ⟨e1, e2⟩ := nonempty ce
          have hfd := run_field0
          have run1 := run_lookup_seen hsn y hy
          have run2 := run_lookup_room hrm y hy
          rw [hu2] at run2
          unfold uval at run2
          simp only at run2
          by_cases cs : y ∈ seen
          · have hfin : v = 0 := HV2.out.trans (chased_stop (.inr (.inl cs)))
            subst hfin
            rw [decide_eq_true cs] at run1
            clear hu2 run2
            go_wp2
            go_ret
            exact ⟨rfl, hbl⟩
          · rw [decide_eq_false cs] at run1
            cases ym
            · have hfin : v = 0 := HV2.out.trans (chased_stop (.inr (.inr (by rw [hu2]))))
              subst hfin
              clear hu2
              go_wp2
              go_ret
              exact ⟨rfl, hbl⟩
            · have hno : ¬ (y = ⟨#[]⟩ ∨ y ∈ seen ∨ (r.of y).m = false) := by rw [hu2]; simp [ce, cs]
              have hlt := left_lt hf hno
              have hyt : yt.size ≤ maxLen := by have := hs y; rw [hu2] at this; exact this
              have NO := Lib.hid hno
              have HLT := Lib.hid hlt
              have HU2 := Lib.hid hu2
              have hnsm : ns < maxLen := by omega
              clear hu2 cs hno hlt
              by_cases cd : yd = 0
              · subst cd
                go_wp2_with (first | (at_lookup; refine wpList_lookup_room _ rfl _ _ rfl b n r rfl (hrm.kept hg2 (by simp; omega)) y rfl hy _ _ _ HU2 ?_) | (at_mapUpdate; refine wpList_mapUpdate_seen _ rfl _ _ _ rfl (w.heap.size + 1) ns seen rfl hsn hnsm y rfl hy rfl ?_; intro w2 hs2 hg2; have hcell2 := (hg2.block w.heap.size hsz (by simp)).trans HC.out; obtain ⟨g0, g1, g2, t0, t1, t2⟩ := cells3 hcell2; have HC2 := Lib.hid hcell2; clear hcell2))
                go_roundg ((r.keys.filter (fun k => decide (k ∉ y :: seen))).length)
                case measure => have := HLT.out; have := HG.out; omega
                case rel =>
                  refine ⟨true, 0, yt, y :: seen, ns + 1, set3 HC2.out _ _ _, hyt, ?_, ?_, ?_, ?_, rfl, by have := HLT.out; have := HG.out; omega⟩
                  · exact ((hs2.setCell (by simp) _).setCell (by simp) _).setCell (by simp) _
                  · exact (((hrm.kept hg2 (by simp; omega)).setCell (by simp; omega) _).setCell (by simp; omega) _).setCell (by simp; omega) _
                  · exact (((hbl.trans (below_of_grown hg2 (by omega) (by omega))).setCell (by simp) _).setCell (by simp) _).setCell (by simp) _
                  · rw [HV2.out, chased_on hf NO.out (by rw [HU2.out]), HU2.out]
              · have hfin : v = yd := by rw [HV2.out, chased_found NO.out (by rw [HU2.out]; exact cd), HU2.out]
                subst hfin
                have e3 : (v != 0) = true := by simpa using cd
                clear cd
                go_wp2_with (first | (at_lookup; refine wpList_lookup_room _ rfl _ _ rfl b n r rfl (hrm.kept hg2 (by simp; omega)) y rfl hy _ _ _ HU2 ?_) | (at_mapUpdate; refine wpList_mapUpdate_seen _ rfl _ _ _ rfl (w.heap.size + 1) ns seen rfl hsn hnsm y rfl hy rfl ?_; intro w2 hs2 hg2; have hcell2 := (hg2.block w.heap.size hsz (by simp)).trans HC.out; obtain ⟨g0, g1, g2, t0, t1, t2⟩ := cells3 hcell2; have HC2 := Lib.hid hcell2; clear hcell2))
                go_ret
                exact ⟨rfl, (((hbl.trans (below_of_grown hg2 (by omega) (by omega))).setCell (by simp) _).setCell (by simp) _).setCell (by simp) _⟩
  · have hv : r.vote k = ud := by rw [vote_direct (.inl (by rw [hu']; exact hd))]; rw [hu']
    rw [hv]
    have e0 : (ud != 0) = true := by simpa using hd
    clear hu' hv
    go_enter Try.func36, Try.ntmps36
    go_wp2_with (first | (at_lookup; refine wpList_lookup_room _ rfl _ _ rfl b n r rfl hr k rfl hk _ _ _ HU ?_))
    go_ret
    exact ⟨rfl, (Below.refl _ _).alloc (Nat.le_refl _) _⟩
end Go.Proofs.Ytbcldkbacdnpiaa
