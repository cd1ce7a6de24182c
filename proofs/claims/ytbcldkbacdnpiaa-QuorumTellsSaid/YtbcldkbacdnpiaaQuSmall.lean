/- small: the walk. -/
import Derived.Test.YtbcldkbacdnpiaaQuEvs
import Derived.Deep.RegionHeld3
namespace Go.Proofs.Ytbcldkbacdnpiaa
open Go.RowKit Go.Maps Go.WideShapes Qu
def q0 : Q := ⟨2, 1, 1000000, true⟩
def oneX : List Ev := [mk 20 3 [97] [], mk 30 3 [98] []]
def twoX : List Ev := [mk 15 2 [98] [97], mk 20 3 [97] []]
def threeX : List Ev := [mk 20 3 [97] [], mk 30 4 [99] []]
def fourX : List Ev := [mk 20 2 [98] [99], mk 20 2 [99] [98], mk 20 3 [97] []]
theorem ok_mk (t k : Int) (u n : List UInt8) (hu : u.length ≤ 1000) (hn : n.length ≤ 1000) : EvOk (mk t k u n) := ⟨by unfold maxLen; exact Nat.le_trans hu (by decide), by unfold maxLen; exact Nat.le_trans hn (by decide)⟩
theorem ok_room : ∀ e ∈ roomL, EvOk e := by
  intro e he
  simp only [roomL, List.mem_cons, List.not_mem_nil, or_false] at he
  rcases he with rfl | rfl | rfl <;> exact ok_mk _ _ _ _ (by decide) (by decide)
theorem ok_x : (∀ e ∈ oneX, EvOk e) ∧ (∀ e ∈ twoX, EvOk e) ∧ (∀ e ∈ threeX, EvOk e) ∧ (∀ e ∈ fourX, EvOk e) := by
  refine ⟨?_, ?_, ?_, ?_⟩ <;> intro e he <;> simp only [oneX, twoX, threeX, fourX, List.mem_cons, List.not_mem_nil, or_false] at he
  · rcases he with rfl | rfl <;> exact ok_mk _ _ _ _ (by decide) (by decide)
  · rcases he with rfl | rfl <;> exact ok_mk _ _ _ _ (by decide) (by decide)
  · rcases he with rfl | rfl <;> exact ok_mk _ _ _ _ (by decide) (by decide)
  · rcases he with rfl | rfl | rfl <;> exact ok_mk _ _ _ _ (by decide) (by decide)
theorem ok_app {l l' : List Ev} (h : ∀ e ∈ l, EvOk e) (h' : ∀ e ∈ l', EvOk e) : ∀ e ∈ l ++ l', EvOk e := fun e he => by
  rcases List.mem_append.1 he with he | he
  · exact h e he
  · exact h' e he
/-- a row that a literal has laid -/
theorem row_lit {w : World} {g : Nat} {l : List Ev} (hg : w.heap[g]? = some (.cells (evcs l).toArray 31 (0, 0))) (hok : ∀ e ∈ l, EvOk e) : EvsRow w g 0 l :=
  evs_row (fun j _ => by rw [cell_of_row w g j _ _ _ hg]; simp) hok
theorem d1 : decide' q0 10 (roomL ++ oneX) 25 = (0, 0) := by decide +kernel
theorem d2 : decide' q0 10 (roomL ++ oneX) 30 = (1, 30) := by decide +kernel
theorem d3 : decide' q0 10 (roomL ++ twoX) 20 = (1, 20) := by decide +kernel
theorem d4 : decide' q0 10 (roomL ++ threeX) 40 = (2, 30) := by decide +kernel
theorem d5 : decide' q0 10 roomL 1000010 = (1, 1000010) := by decide +kernel
theorem d6 : decide' q0 10 (roomL ++ fourX) 50 = (0, 0) := by decide +kernel
/-- behind a room and an append: what stood before stands -/
theorem below_app {W W' : World} {a b : Obj} {g : Nat} (h : ((W.alloc a).alloc b).grownBy W' (some g)) (hg : W.heap.size ≤ g) : Below W.heap.size W W' :=
  (((Below.refl _ _).alloc (Nat.le_refl _) _).alloc (by simp) _).trans (below_of_grown h hg (by simp; omega))
theorem q_cells {w : World} {b : Nat} {x y z u : Value} {T : TypeId} (h : w.heap[b]? = some (.cells #[x, y, z, u] T (0, 0))) :
    w.cell? ⟨b, 0, none⟩ = some x ∧ w.cell? ⟨b, 1, none⟩ = some y ∧ w.cell? ⟨b, 2, none⟩ = some z ∧ w.cell? ⟨b, 3, none⟩ = some u := by
  simp [World.cell?, h]
theorem dec_lit {L : List Ev} (p : Option Addr) (c : Nat) (now a b : Int) {w : World} (hE : EvsAt w p L) (hz : L.length ≤ 1000) (h : decide' q0 10 L now = (a, b)) :
    Calls Try.prog 12 #[.agg #[.int .i64 2, .int .i64 1, .int .i64 1000000, .bool true], .int .i64 10, .slice p L.length c, .int .i64 now] w fun x w' => x = .returned (.tuple #[.int .i64 a, .int .i64 b]) ∧ Below w.heap.size w w' := by
  have := decide_any q0 10 now L p c w hE hz
  rw [h] at this
  exact this
theorem room_evs (w : World) : Calls Try.prog 25 #[] w fun x w' => x = .returned (.slice (some ⟨w.heap.size, 0, none⟩) 3 3) ∧ Below w.heap.size w w' ∧ EvsRow w' w.heap.size 0 roomL :=
  (room_any w).mono fun _ _ ⟨h1, h2⟩ => by
    subst h2
    exact ⟨h1, (Below.refl _ _).alloc (Nat.le_refl _) _, row_lit (heap_alloc_new _ _) ok_room⟩
theorem dec_room (a : Addr) {w : World} (hE : EvsRow w a.block a.off roomL) (ha : a.spot = none) :
    Calls Try.prog 12 #[.agg #[.int .i64 2, .int .i64 1, .int .i64 1000000, .bool true], .int .i64 10, .slice (some a) 3 3, .int .i64 1000010] w fun x w' => x = .returned (.tuple #[.int .i64 1, .int .i64 1000010]) ∧ Below w.heap.size w w' := by
  obtain ⟨b, o, sp⟩ := a
  simp only at ha hE
  subst ha
  exact dec_lit (L := roomL) (some ⟨b, o, none⟩) 3 1000010 1 1000010 (.inr ⟨b, o, rfl, hE⟩) (by decide) d5
set_option maxRecDepth 100000 in
set_option maxHeartbeats 4000000 in
theorem small_any (w : World) : Calls Try.prog 9 #[] w fun x w' => x = .returned (.bool true) ∧ Below w.heap.size w w' := by
  obtain ⟨L1, h1⟩ : ∃ L, L = roomL ++ oneX := ⟨_, rfl⟩
  obtain ⟨L2, h2⟩ : ∃ L, L = roomL ++ twoX := ⟨_, rfl⟩
  obtain ⟨L3, h3⟩ : ∃ L, L = roomL ++ threeX := ⟨_, rfl⟩
  obtain ⟨L4, h4⟩ : ∃ L, L = roomL ++ fourX := ⟨_, rfl⟩
  have H1 := Lib.hid h1; have H2 := Lib.hid h2; have H3 := Lib.hid h3; have H4 := Lib.hid h4
  clear h1 h2 h3 h4
  go_enter Try.func9, Try.ntmps9
  go_wp2_with fail
  obtain ⟨W, hW⟩ : ∃ W, W = w.alloc (.cells #[.int .i64 2, .int .i64 1, .int .i64 1000000, .bool true] 23) := ⟨_, rfl⟩
  rw [← hW]
  have HB0 := Lib.hid (show Below w.heap.size w W by rw [hW]; exact (Below.refl _ _).alloc (Nat.le_refl _) _)
  have HQ0 := Lib.hid (show W.heap[w.heap.size]? = some (.cells #[.int .i64 2, .int .i64 1, .int .i64 1000000, .bool true] 23 (0, 0)) by rw [hW]; exact heap_alloc_new _ _)
  clear hW
  -- list 1
  refine (room_any W).mono ?_
  rintro e w' ⟨rfl, rfl⟩
  have ho := own_lit (w := (W.alloc (.cells (evcs roomL).toArray 31)).alloc (.cells (evcs oneX).toArray 31)) (base := W.heap.size) (g := W.heap.size) (l := roomL) (by rw [Below.heap_alloc _ _ _ (by simp), heap_alloc_new]) (Nat.le_refl _) (by decide)
  have hr := row_lit (w := (W.alloc (.cells (evcs roomL).toArray 31)).alloc (.cells (evcs oneX).toArray 31)) (g := W.heap.size + 1) (l := oneX) (by have := heap_alloc_new (W.alloc (.cells (evcs roomL).toArray 31)) (.cells (evcs oneX).toArray 31); simpa using this) ok_x.1
  go_wp2_with (at_builtin; refine wpList_append_evs rfl _ _ rfl W.heap.size _ roomL oneX rfl ho (W.heap.size + 1) 0 2 rfl hr (by decide) (by simp; omega) L1 H1 ?_; intro p1 c1 w1 ho1 hg1 hob1)
  have E1 := Lib.hid (own_evs ho1 (by rw [H1.out]; exact ok_app ok_room ok_x.1))
  have b1 := below_app hg1 (Nat.le_refl _)
  have B1 := Lib.hid b1
  have HB1 := Lib.hid (HB0.out.trans (b1.mono HB0.out.size))
  have HQ1 := Lib.hid ((b1.block _ (lt_block HQ0.out)).trans HQ0.out)
  clear ho hr ho1 hg1 hob1 b1
  -- list 2
  refine (room_any w1).mono ?_
  rintro e w' ⟨rfl, rfl⟩
  have ho := own_lit (w := (w1.alloc (.cells (evcs roomL).toArray 31)).alloc (.cells (evcs twoX).toArray 31)) (base := w1.heap.size) (g := w1.heap.size) (l := roomL) (by rw [Below.heap_alloc _ _ _ (by simp), heap_alloc_new]) (Nat.le_refl _) (by decide)
  have hr := row_lit (w := (w1.alloc (.cells (evcs roomL).toArray 31)).alloc (.cells (evcs twoX).toArray 31)) (g := w1.heap.size + 1) (l := twoX) (by have := heap_alloc_new (w1.alloc (.cells (evcs roomL).toArray 31)) (.cells (evcs twoX).toArray 31); simpa using this) ok_x.2.1
  go_wp2_with (at_builtin; refine wpList_append_evs rfl _ _ rfl w1.heap.size _ roomL twoX rfl ho (w1.heap.size + 1) 0 2 rfl hr (by decide) (by simp; omega) L2 H2 ?_; intro p2 c2 w2 ho2 hg2 hob2)
  have E2 := Lib.hid (own_evs ho2 (by rw [H2.out]; exact ok_app ok_room ok_x.2.1))
  have b2 := below_app hg2 (Nat.le_refl _)
  have B2 := Lib.hid b2
  have HB2 := Lib.hid (HB1.out.trans (b2.mono HB1.out.size))
  have HQ2 := Lib.hid ((b2.block _ (lt_block HQ1.out)).trans HQ1.out)
  clear ho hr ho2 hg2 hob2 b2
  -- list 3
  refine (room_any w2).mono ?_
  rintro e w' ⟨rfl, rfl⟩
  have ho := own_lit (w := (w2.alloc (.cells (evcs roomL).toArray 31)).alloc (.cells (evcs threeX).toArray 31)) (base := w2.heap.size) (g := w2.heap.size) (l := roomL) (by rw [Below.heap_alloc _ _ _ (by simp), heap_alloc_new]) (Nat.le_refl _) (by decide)
  have hr := row_lit (w := (w2.alloc (.cells (evcs roomL).toArray 31)).alloc (.cells (evcs threeX).toArray 31)) (g := w2.heap.size + 1) (l := threeX) (by have := heap_alloc_new (w2.alloc (.cells (evcs roomL).toArray 31)) (.cells (evcs threeX).toArray 31); simpa using this) ok_x.2.2.1
  go_wp2_with (at_builtin; refine wpList_append_evs rfl _ _ rfl w2.heap.size _ roomL threeX rfl ho (w2.heap.size + 1) 0 2 rfl hr (by decide) (by simp; omega) L3 H3 ?_; intro p3 c3 w3 ho3 hg3 hob3)
  have E3 := Lib.hid (own_evs ho3 (by rw [H3.out]; exact ok_app ok_room ok_x.2.2.1))
  have b3 := below_app hg3 (Nat.le_refl _)
  have B3 := Lib.hid b3
  have HB3 := Lib.hid (HB2.out.trans (b3.mono HB2.out.size))
  have HQ3 := Lib.hid ((b3.block _ (lt_block HQ2.out)).trans HQ2.out)
  clear ho hr ho3 hg3 hob3 b3
  -- list 4
  refine (room_any w3).mono ?_
  rintro e w' ⟨rfl, rfl⟩
  have ho := own_lit (w := (w3.alloc (.cells (evcs roomL).toArray 31)).alloc (.cells (evcs fourX).toArray 31)) (base := w3.heap.size) (g := w3.heap.size) (l := roomL) (by rw [Below.heap_alloc _ _ _ (by simp), heap_alloc_new]) (Nat.le_refl _) (by decide)
  have hr := row_lit (w := (w3.alloc (.cells (evcs roomL).toArray 31)).alloc (.cells (evcs fourX).toArray 31)) (g := w3.heap.size + 1) (l := fourX) (by have := heap_alloc_new (w3.alloc (.cells (evcs roomL).toArray 31)) (.cells (evcs fourX).toArray 31); simpa using this) ok_x.2.2.2
  go_wp2_with (at_builtin; refine wpList_append_evs rfl _ _ rfl w3.heap.size _ roomL fourX rfl ho (w3.heap.size + 1) 0 3 rfl hr (by decide) (by simp; omega) L4 H4 ?_; intro p4 c4 w4 ho4 hg4 hob4; have b4 := below_app hg4 (Nat.le_refl _); obtain ⟨qc0, qc1, qc2, qc3⟩ := q_cells ((b4.block _ (lt_block HQ3.out)).trans HQ3.out))
  have E4 := Lib.hid (own_evs ho4 (by rw [H4.out]; exact ok_app ok_room ok_x.2.2.2))
  have B4 := Lib.hid b4
  have HB4 := Lib.hid (HB3.out.trans (b4.mono HB3.out.size))
  have HQ4 := Lib.hid ((b4.block _ (lt_block HQ3.out)).trans HQ3.out)
  clear ho hr ho4 hg4 hob4 b4
  -- the decisions
  have F1 := Lib.hid (E1.out.below ((B2.out.trans (B3.out.mono B2.out.size)).trans (B4.out.mono (Nat.le_trans B2.out.size B3.out.size))) (Nat.le_refl _))
  have F2 := Lib.hid (E2.out.below (B3.out.trans (B4.out.mono B3.out.size)) (Nat.le_refl _))
  have F3 := Lib.hid (E3.out.below B4.out (Nat.le_refl _))
  have F4 := E4
  have z1 : L1.length ≤ 1000 := by rw [H1.out]; decide
  have z2 : L2.length ≤ 1000 := by rw [H2.out]; decide
  have z3 : L3.length ≤ 1000 := by rw [H3.out]; decide
  have z4 : L4.length ≤ 1000 := by rw [H4.out]; decide
  have HQ := HQ4
  have HB := HB4
  clear E1 E2 E3 E4 B1 B2 B3 B4 HB0 HB1 HB2 HB3 HB4 HQ0 HQ1 HQ2 HQ3 HQ4
  have hD := dec_lit p1 c1 25 0 0 (w := w4) F1.out z1 (by rw [H1.out]; exact d1)
  refine hD.mono ?_
  rintro e w5 ⟨rfl, b⟩
  have F1' := F1; have F2' := F2; have F3' := F3; have F4' := F4; have HQ' := HQ; have HB' := HB
  clear F1 F2 F3 F4 HQ HB hD qc0 qc1 qc2 qc3
  have F1 := Lib.hid (F1'.out.below b (Nat.le_refl _))
  have F2 := Lib.hid (F2'.out.below b (Nat.le_refl _))
  have F3 := Lib.hid (F3'.out.below b (Nat.le_refl _))
  have F4 := Lib.hid (F4'.out.below b (Nat.le_refl _))
  have HQ := Lib.hid ((b.block _ (lt_block HQ'.out)).trans HQ'.out)
  have HB := Lib.hid (HB'.out.trans (b.mono HB'.out.size))
  obtain ⟨qc0, qc1, qc2, qc3⟩ := q_cells HQ.out
  clear F1' F2' F3' F4' HQ' HB' b
  go_wp2_with fail
  have hD := dec_lit p1 c1 30 1 30 (w := w5) F1.out z1 (by rw [H1.out]; exact d2)
  refine hD.mono ?_
  rintro e w6 ⟨rfl, b⟩
  have F1' := F1; have F2' := F2; have F3' := F3; have F4' := F4; have HQ' := HQ; have HB' := HB
  clear F1 F2 F3 F4 HQ HB hD qc0 qc1 qc2 qc3
  have F1 := Lib.hid (F1'.out.below b (Nat.le_refl _))
  have F2 := Lib.hid (F2'.out.below b (Nat.le_refl _))
  have F3 := Lib.hid (F3'.out.below b (Nat.le_refl _))
  have F4 := Lib.hid (F4'.out.below b (Nat.le_refl _))
  have HQ := Lib.hid ((b.block _ (lt_block HQ'.out)).trans HQ'.out)
  have HB := Lib.hid (HB'.out.trans (b.mono HB'.out.size))
  obtain ⟨qc0, qc1, qc2, qc3⟩ := q_cells HQ.out
  clear F1' F2' F3' F4' HQ' HB' b
  go_wp2_with fail
  have hD := dec_lit p2 c2 20 1 20 (w := w6) F2.out z2 (by rw [H2.out]; exact d3)
  refine hD.mono ?_
  rintro e w7 ⟨rfl, b⟩
  have F1' := F1; have F2' := F2; have F3' := F3; have F4' := F4; have HQ' := HQ; have HB' := HB
  clear F1 F2 F3 F4 HQ HB hD qc0 qc1 qc2 qc3
  have F1 := Lib.hid (F1'.out.below b (Nat.le_refl _))
  have F2 := Lib.hid (F2'.out.below b (Nat.le_refl _))
  have F3 := Lib.hid (F3'.out.below b (Nat.le_refl _))
  have F4 := Lib.hid (F4'.out.below b (Nat.le_refl _))
  have HQ := Lib.hid ((b.block _ (lt_block HQ'.out)).trans HQ'.out)
  have HB := Lib.hid (HB'.out.trans (b.mono HB'.out.size))
  obtain ⟨qc0, qc1, qc2, qc3⟩ := q_cells HQ.out
  clear F1' F2' F3' F4' HQ' HB' b
  go_wp2_with fail
  have hD := dec_lit p3 c3 40 2 30 (w := w7) F3.out z3 (by rw [H3.out]; exact d4)
  refine hD.mono ?_
  rintro e w8 ⟨rfl, b⟩
  have F1' := F1; have F2' := F2; have F3' := F3; have F4' := F4; have HQ' := HQ; have HB' := HB
  clear F1 F2 F3 F4 HQ HB hD qc0 qc1 qc2 qc3
  have F1 := Lib.hid (F1'.out.below b (Nat.le_refl _))
  have F2 := Lib.hid (F2'.out.below b (Nat.le_refl _))
  have F3 := Lib.hid (F3'.out.below b (Nat.le_refl _))
  have F4 := Lib.hid (F4'.out.below b (Nat.le_refl _))
  have HQ := Lib.hid ((b.block _ (lt_block HQ'.out)).trans HQ'.out)
  have HB := Lib.hid (HB'.out.trans (b.mono HB'.out.size))
  obtain ⟨qc0, qc1, qc2, qc3⟩ := q_cells HQ.out
  clear F1' F2' F3' F4' HQ' HB' b
  go_wp2_with fail
  have HQd := Lib.hid (show w8.drew.heap[w.heap.size]? = _ from HQ.out)
  have hwlt : w.heap.size < w8.drew.heap.size := lt_block HQ.out
  go_region_held3 (fun w' => w'.cell? ⟨w.heap.size, 0, none⟩ = some (.int .i64 2) ∧ w'.cell? ⟨w.heap.size, 1, none⟩ = some (.int .i64 1) ∧ w'.cell? ⟨w.heap.size, 2, none⟩ = some (.int .i64 1000000) ∧ w'.cell? ⟨w.heap.size, 3, none⟩ = some (.bool true))
    (first | go_keep | exact ⟨qe0, qe1, qe2, qe3⟩ | exact ⟨qd0, qd1, qd2, qd3⟩)
    ((first
      | (go_at_call 12; refine (dec_room _ R9.out rfl).mono ?_; rintro e wa ⟨rfl, ba⟩; have HQa := Lib.hid ((ba.block _ (lt_block HQ9.out)).trans HQ9.out); obtain ⟨qe0, qe1, qe2, qe3⟩ := q_cells HQa.out; have Ba := Lib.hid (B9.out.trans (ba.mono B9.out.size)); clear ba)
      | (go_at_call 25; refine (room_evs _).mono ?_; rintro e w9 ⟨rfl, b9, r9⟩; have HQ9 := Lib.hid ((b9.block _ hwlt).trans HQd.out); obtain ⟨qd0, qd1, qd2, qd3⟩ := q_cells HQ9.out; have R9 := Lib.hid r9; have B9 := Lib.hid b9; clear r9 b9)))
  have G4 := Lib.hid ((F4.out.below ((Below.refl w8.heap.size w8).drew) (Nat.le_refl _)).below Ba.out (Nat.le_refl _))
  have GB := Lib.hid (HB.out.trans ((show Below w8.heap.size w8 wa from ⟨Ba.out.os, Ba.out.tape, Ba.out.output, Ba.out.size, Ba.out.block⟩).mono HB.out.size))
  clear F1 F2 F3 F4 HQ HB HQd HQ9 R9 B9 Ba qc0 qc1 qc2 qc3 qd0 qd1 qd2 qd3
  go_wp2_with fail
  have hD := dec_lit p4 c4 50 0 0 (w := wa) G4.out z4 (by rw [H4.out]; exact d6)
  refine hD.mono ?_
  rintro e wb ⟨rfl, b⟩
  have HQb := Lib.hid ((b.block _ (lt_block HQa.out)).trans HQa.out)
  have HBb := Lib.hid (GB.out.trans (b.mono GB.out.size))
  obtain ⟨qf0, qf1, qf2, qf3⟩ := q_cells HQb.out
  clear hD b G4 GB HQa qe0 qe1 qe2 qe3
  go_wp2_with fail
  have hR := right_any q0 wb
  refine hR.mono ?_
  rintro e wc ⟨rfl, b⟩
  have HBc := Lib.hid (HBb.out.trans (b.mono HBb.out.size))
  clear b hR
  have hq : q0.right = true := by decide +kernel
  go_wp2
  go_ret
  exact ⟨rfl, HBc.out⟩
end Go.Proofs.Ytbcldkbacdnpiaa
