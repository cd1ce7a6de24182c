/- missivelaw02.WirePrefix. -/
import Derived.Test.YtfdacinedbdncaaDoorWrBackW
import Derived.Test.YtfdacinedbdncaaDoorWrFewX
namespace Go.Proofs.YtfdacinedbdncaaDoor
open Go.RowKit
namespace Wr
abbrev vcells (x : Vl) (p1 p2 : Option Addr) (c1 c2 : Nat) : Array Value := #[.int .i64 x.kind, .int .i64 x.n, .string (bs x.s), .slice p1 x.li.length c1, .slice p2 x.lt.length c2]
theorem one_lvs {w : World} {x : Vl} {p1 p2 : Option Addr} {c1 c2 : Nat} (hli : LV vi w (.slice p1 x.li.length c1) x.li) (hlt : LV vs w (.slice p2 x.lt.length c2) x.lt) (ho : x.Ok) :
    LVs (w.alloc (.cells (vcells x p1 p2 c1 c2) 25)) (.slice (some ⟨w.heap.size, 0, none⟩) 1 1) [x] := by
  refine ⟨_, 1, rfl, Nat.le_refl _, by unfold maxLen; omega, .inr ⟨w.heap.size, 0, rfl, fun i y hy => ?_⟩⟩
  match i, hy with
  | 0, hy =>
    simp at hy
    subst hy
    have hh := heap_alloc_new w (.cells (vcells x p1 p2 c1 c2) 25)
    have hb : Below w.heap.size w (w.alloc (.cells (vcells x p1 p2 c1 c2) 25)) := (Below.refl _ _).alloc (Nat.le_refl _) _
    refine ⟨p1, p2, c1, c2, ?_, ?_, ?_, ?_, ?_, hli.below hb (Nat.le_refl _), hlt.below hb (Nat.le_refl _), ho⟩
    · rw [Lib.cell_of_heap hh]; rfl
    · rw [Lib.cell_of_heap hh]; rfl
    · rw [Lib.cell_of_heap hh]; rfl
    · rw [Lib.cell_of_heap hh]; rfl
    · rw [Lib.cell_of_heap hh]; rfl
/-- 'few' of a list of one value that the call lays -/
theorem few_one {w : World} {x : Vl} {p1 p2 : Option Addr} {c1 c2 : Nat} (hli : LV vi w (.slice p1 x.li.length c1) x.li) (hlt : LV vs w (.slice p2 x.lt.length c2) x.lt) (ho : x.Ok) :
    Calls Tryd.prog 10 #[.slice (some ⟨w.heap.size, 0, none⟩) 1 1] (w.alloc (.cells (vcells x p1 p2 c1 c2) 25)) fun e w' => e = .returned (.bool (fewB [x])) ∧ Below w.heap.size w w' :=
  (few_exact _ [x] _ (one_lvs hli hlt ho)).mono fun e w' ⟨he, n, hw⟩ => ⟨he, by
    subst hw
    have hb : Below w.heap.size w (w.alloc (.cells (vcells x p1 p2 c1 c2) 25)) := (Below.refl _ _).alloc (Nat.le_refl _) _
    exact ⟨hb.os, hb.tape, hb.output, hb.size, hb.block⟩⟩
/-- where the walk of WirePrefix stands: both values are boxed at b and b + 1 -/
structure Pfx (x y : Vl) (p1 p2 r1 r2 : Option Addr) (c1 c2 d1 d2 : Nat) (W w : World) : Prop where
  b : Below W.heap.size W w
  hx : w.heap[W.heap.size]? = some (.cells (vcells x p1 p2 c1 c2) 25 (0, 0))
  hy : w.heap[W.heap.size + 1]? = some (.cells (vcells y r1 r2 d1 d2) 25 (0, 0))
namespace Pfx
variable {x y : Vl} {p1 p2 r1 r2 : Option Addr} {c1 c2 d1 d2 : Nat} {W w w' : World}
theorem step (h : Pfx x y p1 p2 r1 r2 c1 c2 d1 d2 W w) (hb : Below w.heap.size w w') : Pfx x y p1 p2 r1 r2 c1 c2 d1 d2 W w' :=
  ⟨h.b.trans (hb.mono h.b.size), (hb.block _ (lt_block h.hx)).trans h.hx, (hb.block _ (lt_block h.hy)).trans h.hy⟩
theorem drew (h : Pfx x y p1 p2 r1 r2 c1 c2 d1 d2 W w) : Pfx x y p1 p2 r1 r2 c1 c2 d1 d2 W w.drew := ⟨⟨h.b.os, h.b.tape, h.b.output, h.b.size, h.b.block⟩, h.hx, h.hy⟩
theorem cx (h : Pfx x y p1 p2 r1 r2 c1 c2 d1 d2 W w) : w.cell? ⟨W.heap.size, 0, none⟩ = some (.int .i64 x.kind) ∧ w.cell? ⟨W.heap.size, 1, none⟩ = some (.int .i64 x.n) ∧ w.cell? ⟨W.heap.size, 2, none⟩ = some (.string (bs x.s)) ∧ w.cell? ⟨W.heap.size, 3, none⟩ = some (.slice p1 x.li.length c1) ∧ w.cell? ⟨W.heap.size, 4, none⟩ = some (.slice p2 x.lt.length c2) :=
  ⟨by rw [Lib.cell_of_heap h.hx]; rfl, by rw [Lib.cell_of_heap h.hx]; rfl, by rw [Lib.cell_of_heap h.hx]; rfl, by rw [Lib.cell_of_heap h.hx]; rfl, by rw [Lib.cell_of_heap h.hx]; rfl⟩
theorem cy (h : Pfx x y p1 p2 r1 r2 c1 c2 d1 d2 W w) : w.cell? ⟨W.heap.size + 1, 0, none⟩ = some (.int .i64 y.kind) ∧ w.cell? ⟨W.heap.size + 1, 1, none⟩ = some (.int .i64 y.n) ∧ w.cell? ⟨W.heap.size + 1, 2, none⟩ = some (.string (bs y.s)) ∧ w.cell? ⟨W.heap.size + 1, 3, none⟩ = some (.slice r1 y.li.length d1) ∧ w.cell? ⟨W.heap.size + 1, 4, none⟩ = some (.slice r2 y.lt.length d2) :=
  ⟨by rw [Lib.cell_of_heap h.hy]; rfl, by rw [Lib.cell_of_heap h.hy]; rfl, by rw [Lib.cell_of_heap h.hy]; rfl, by rw [Lib.cell_of_heap h.hy]; rfl, by rw [Lib.cell_of_heap h.hy]; rfl⟩
end Pfx
theorem rd_snd {x y : Vl} (h : x.kd = y.kd) (q : St) : (x.rd q).2 = (y.rd q).2 := by
  unfold Vl.rd
  rw [h]
  repeat' split
  all_goals rfl
theorem prefix_law {x y : Vl} (hx : x.Small) (hy : y.Small) (ox : x.Ok) (oy : y.Ok) (hk : x.kd = y.kd) {u : List UInt8} (he : y.enc = x.enc ++ u) : u = [] ∧ y.rd ⟨x.enc, false⟩ = (true, ⟨[], false⟩) := by
  have a := Vl.back hx ox u
  have b := Vl.back hy oy []
  rw [List.append_nil] at b
  have c := rd_snd hk ⟨x.enc ++ u, false⟩
  rw [a, ← he, b] at c
  simp only [St.mk.injEq, and_true] at c
  subst c
  rw [List.append_nil] at he
  rw [← he]
  exact ⟨rfl, b⟩
set_option maxRecDepth 100000 in
set_option maxHeartbeats 4000000 in
theorem prefix_walk (x y : Vl) (p1 p2 r1 r2 : Option Addr) (c1 c2 d1 d2 : Nat) (W : World) (hxi : LV vi W (.slice p1 x.li.length c1) x.li) (hxt : LV vs W (.slice p2 x.lt.length c2) x.lt) (hx : x.Ok)
    (hyi : LV vi W (.slice r1 y.li.length d1) y.li) (hyt : LV vs W (.slice r2 y.lt.length d2) y.lt) (hy : y.Ok) (hE : Env W) :
    Calls Tryd.prog 7 #[.agg #[.int .i64 x.kind, .int .i64 x.n, .string (bs x.s), .slice p1 x.li.length c1, .slice p2 x.lt.length c2], .agg #[.int .i64 y.kind, .int .i64 y.n, .string (bs y.s), .slice r1 y.li.length d1, .slice r2 y.lt.length d2]] W
      fun e w' => e = .returned (.bool true) ∧ Below W.heap.size W w' := by
  have HES := head_steps hE
  have HXF : Hid (∀ w, Below W.heap.size W w → Calls Tryd.prog 10 #[.slice (some ⟨w.heap.size, 0, none⟩) 1 1] (w.alloc (.cells (vcells x p1 p2 c1 c2) 25)) fun e w' => e = .returned (.bool (fewB [x])) ∧ Below w.heap.size w w') :=
    fun w hb => few_one (hxi.below hb (Nat.le_refl _)) (hxt.below hb (Nat.le_refl _)) hx
  have HYF : Hid (∀ w, Below W.heap.size W w → Calls Tryd.prog 10 #[.slice (some ⟨w.heap.size, 0, none⟩) 1 1] (w.alloc (.cells (vcells y r1 r2 d1 d2) 25)) fun e w' => e = .returned (.bool (fewB [y])) ∧ Below w.heap.size w w') :=
    fun w hb => few_one (hyi.below hb (Nat.le_refl _)) (hyt.below hb (Nat.le_refl _)) hy
  have HP : Hid (∀ w1, Below ((W.alloc (.cells (vcells x p1 p2 c1 c2) 25)).alloc (.cells (vcells y r1 r2 d1 d2) 25)).heap.size ((W.alloc (.cells (vcells x p1 p2 c1 c2) 25)).alloc (.cells (vcells y r1 r2 d1 d2) 25)) w1 → Pfx x y p1 p2 r1 r2 c1 c2 d1 d2 W w1) := fun w1 hb => by
    refine Pfx.step (w := ((W.alloc (.cells (vcells x p1 p2 c1 c2) 25)).alloc (.cells (vcells y r1 r2 d1 d2) 25))) ⟨((Below.refl _ _).alloc (Nat.le_refl _) _).alloc (by simp) _, ?_, ?_⟩ hb
    · exact (Below.heap_alloc _ _ _ (by simp)).trans (heap_alloc_new W _)
    · have := heap_alloc_new (W.alloc (.cells (vcells x p1 p2 c1 c2) 25)) (.cells (vcells y r1 r2 d1 d2) 25)
      simpa using this
  have HEb : Hid (Env ((W.alloc (.cells (vcells x p1 p2 c1 c2) 25)).alloc (.cells (vcells y r1 r2 d1 d2) 25))) := hE.below (((Below.refl W.heap.size W).alloc (Nat.le_refl _) _).alloc (by simp) _) hE.lt
  have HEE := Lib.hid hE
  have HXI := Lib.hid hxi
  have HXT := Lib.hid hxt
  have HYI := Lib.hid hyi
  have HYT := Lib.hid hyt
  have HXO := Lib.hid hx
  have HYO := Lib.hid hy
  clear hE hxi hxt hyi hyt hx hy
  cases hfx : fewB [x] with
  | false =>
    rw [hfx] at HXF
    go_enter Tryd.func7, Tryd.ntmps7
    go_wp2_with fail
    refine (small_any _ HEb.out).mono ?_
    rintro e w1 ⟨rfl, b1⟩
    have HP1 := Lib.hid (HP.out w1 b1)
    clear b1
    go_wp2_with fail
    refine wp_region_held_drew (S := (fun w' => Pfx x y p1 p2 r1 r2 c1 c2 d1 d2 W w')) (by kernel_rfl) ?_ (fun hHeld => ?_)
    · exact HP1.out.drew
    change wpAnyH _ _ _ _ _ 17 #[false, false, false, false, false, false, false, false, false, false, false, false, false, false, false, false, false] _ _
    have P0 := hHeld
    refine wpAnyH_take (i := 0) (oi := { dst := some 10, op := Op.load 25 (Operand.tmp 2), type := 25, pos := "law.go:195", after := #[], guard := none }) (v := ?v1) rfl (by kernel_rfl) (by kernel_rfl) (by kernel_rfl) (fun _ _ _ h => h) (Or.inl ⟨by kernel_rfl, ?y1⟩) (by assumption) ?r1
    case y1 => (intro w hSw; (try dsimp only at hSw); (obtain ⟨a0, a1, a2, a3, a4⟩ := Pfx.cx hSw; obtain ⟨e0, e1, e2, e3, e4⟩ := Pfx.cy hSw); go_simp; try (with_reducible rfl))
    try simp only [Act.put, List.setIfInBounds_toArray, List.set_cons_zero, List.set_cons_succ]
    refine wpAnyH_ready (rs := [1]) (by kernel_rfl) (by simp) ?_
    refine AllReadyH.cons (o := { dst := some 11, op := Op.buildSlice 28 1 #[(0, Operand.tmp 10)], type := 28, pos := "law.go:195", after := #[{ on := 0, ground := Ground.data }], guard := none }) rfl (fun K hK => ?_) AllReadyH.nil
    go_simp
    refine hK.out _ _ ?_ (fun hHeld => ?_)
    · exact Pfx.step P0 ((Below.refl _ _).alloc (Nat.le_refl _) _)
    clear hK K
    try simp only [Act.put, List.setIfInBounds_toArray, List.set_cons_zero, List.set_cons_succ]
    refine wpAnyH_ready (rs := [2]) (by kernel_rfl) (by simp) ?_
    refine AllReadyH.cons (o := { dst := some 12, op := Op.call { callee := Callee.value (Operand.func 10), args := #[Operand.tmp 11], argTypes := #[28] }, type := 4, pos := "law.go:195", after := #[{ on := 1, ground := Ground.data }], guard := none }) rfl (fun K hK => ?_) AllReadyH.nil
    (go_simp; refine (HXF.out w1.drew P0.b).mono ?_; rintro e w2 ⟨rfl, bb⟩)
    refine hK.out _ _ ?_ (fun hHeld => ?_)
    · exact Pfx.step P0 bb
    clear hK K
    try simp only [Act.put, List.setIfInBounds_toArray, List.set_cons_zero, List.set_cons_succ]
    have P2 := hHeld
    refine wpAnyH_take (i := 3) (oi := { dst := some 13, op := Op.unOp UnOp.not 4 (Operand.tmp 12), type := 4, pos := "law.go:195", after := #[{ on := 2, ground := Ground.data }], guard := none }) (v := ?v2) rfl (by kernel_rfl) (by kernel_rfl) (by kernel_rfl) (fun _ _ _ h => h) (Or.inl ⟨by kernel_rfl, ?y2⟩) (by assumption) ?r2
    case y2 => (intro w hSw; (try dsimp only at hSw); (obtain ⟨a0, a1, a2, a3, a4⟩ := Pfx.cx hSw; obtain ⟨e0, e1, e2, e3, e4⟩ := Pfx.cy hSw); go_simp; try (with_reducible rfl))
    try simp only [Act.put, List.setIfInBounds_toArray, List.set_cons_zero, List.set_cons_succ]
    refine wpAnyH_take (i := 4) (oi := { dst := some 14, op := Op.move (Operand.tmp 13), type := 4, pos := "law.go:195", after := #[{ on := 3, ground := Ground.data }, { on := 2, ground := Ground.chain }], guard := none }) (v := ?v3) rfl (by kernel_rfl) (by kernel_rfl) (by kernel_rfl) (fun _ _ _ h => h) (Or.inl ⟨by kernel_rfl, ?y3⟩) (by assumption) ?r3
    case y3 => (intro w hSw; (try dsimp only at hSw); (obtain ⟨a0, a1, a2, a3, a4⟩ := Pfx.cx hSw; obtain ⟨e0, e1, e2, e3, e4⟩ := Pfx.cy hSw); go_simp; try (with_reducible rfl))
    try simp only [Act.put, List.setIfInBounds_toArray, List.set_cons_zero, List.set_cons_succ]
    refine wpAnyH_take (i := 5) (oi := { dst := some 15, op := Op.load 25 (Operand.tmp 3), type := 25, pos := "law.go:195", after := #[{ on := 4, ground := Ground.guard }], guard := some (4, false) }) (v := undef) rfl (by kernel_rfl) (by kernel_rfl) (by kernel_rfl) (fun _ _ _ h => h) (Or.inr ⟨by kernel_rfl, rfl⟩) (by assumption) ?_
    try simp only [Act.put, List.setIfInBounds_toArray, List.set_cons_zero, List.set_cons_succ]
    refine wpAnyH_take (i := 6) (oi := { dst := some 16, op := Op.buildSlice 28 1 #[(0, Operand.tmp 15)], type := 28, pos := "law.go:195", after := #[{ on := 5, ground := Ground.data }, { on := 4, ground := Ground.guard }], guard := some (4, false) }) (v := undef) rfl (by kernel_rfl) (by kernel_rfl) (by kernel_rfl) (fun _ _ _ h => h) (Or.inr ⟨by kernel_rfl, rfl⟩) (by assumption) ?_
    try simp only [Act.put, List.setIfInBounds_toArray, List.set_cons_zero, List.set_cons_succ]
    refine wpAnyH_take (i := 7) (oi := { dst := some 17, op := Op.call { callee := Callee.value (Operand.func 10), args := #[Operand.tmp 16], argTypes := #[28] }, type := 4, pos := "law.go:195", after := #[{ on := 6, ground := Ground.data }, { on := 4, ground := Ground.chain }, { on := 4, ground := Ground.guard }], guard := some (4, false) }) (v := undef) rfl (by kernel_rfl) (by kernel_rfl) (by kernel_rfl) (fun _ _ _ h => h) (Or.inr ⟨by kernel_rfl, rfl⟩) (by assumption) ?_
    try simp only [Act.put, List.setIfInBounds_toArray, List.set_cons_zero, List.set_cons_succ]
    refine wpAnyH_take (i := 8) (oi := { dst := some 18, op := Op.unOp UnOp.not 4 (Operand.tmp 17), type := 4, pos := "law.go:195", after := #[{ on := 7, ground := Ground.data }, { on := 4, ground := Ground.guard }], guard := some (4, false) }) (v := undef) rfl (by kernel_rfl) (by kernel_rfl) (by kernel_rfl) (fun _ _ _ h => h) (Or.inr ⟨by kernel_rfl, rfl⟩) (by assumption) ?_
    try simp only [Act.put, List.setIfInBounds_toArray, List.set_cons_zero, List.set_cons_succ]
    refine wpAnyH_take (i := 9) (oi := { dst := some 19, op := Op.pick (Operand.tmp 14) (Operand.const (Value.bool true)) (Operand.tmp 18), type := 4, pos := "law.go:195", after := #[{ on := 4, ground := Ground.data }, { on := 8, ground := Ground.data }], guard := none }) (v := ?v4) rfl (by kernel_rfl) (by kernel_rfl) (by kernel_rfl) (fun _ _ _ h => h) (Or.inl ⟨by kernel_rfl, ?y4⟩) (by assumption) ?r4
    case y4 => (intro w hSw; (try dsimp only at hSw); (obtain ⟨a0, a1, a2, a3, a4⟩ := Pfx.cx hSw; obtain ⟨e0, e1, e2, e3, e4⟩ := Pfx.cy hSw); go_simp; try (with_reducible rfl))
    try simp only [Act.put, List.setIfInBounds_toArray, List.set_cons_zero, List.set_cons_succ]
    refine wpAnyH_take (i := 10) (oi := { dst := some 20, op := Op.move (Operand.tmp 19), type := 4, pos := "law.go:195", after := #[{ on := 9, ground := Ground.data }, { on := 7, ground := Ground.chain }], guard := none }) (v := ?v5) rfl (by kernel_rfl) (by kernel_rfl) (by kernel_rfl) (fun _ _ _ h => h) (Or.inl ⟨by kernel_rfl, ?y5⟩) (by assumption) ?r5
    case y5 => (intro w hSw; (try dsimp only at hSw); (obtain ⟨a0, a1, a2, a3, a4⟩ := Pfx.cx hSw; obtain ⟨e0, e1, e2, e3, e4⟩ := Pfx.cy hSw); go_simp; try (with_reducible rfl))
    try simp only [Act.put, List.setIfInBounds_toArray, List.set_cons_zero, List.set_cons_succ]
    refine wpAnyH_take (i := 11) (oi := { dst := some 21, op := Op.load 25 (Operand.tmp 2), type := 25, pos := "law.go:195", after := #[{ on := 10, ground := Ground.guard }], guard := some (10, false) }) (v := undef) rfl (by kernel_rfl) (by kernel_rfl) (by kernel_rfl) (fun _ _ _ h => h) (Or.inr ⟨by kernel_rfl, rfl⟩) (by assumption) ?_
    try simp only [Act.put, List.setIfInBounds_toArray, List.set_cons_zero, List.set_cons_succ]
    refine wpAnyH_take (i := 12) (oi := { dst := some 22, op := Op.call { callee := Callee.value (Operand.func 23), args := #[Operand.tmp 21], argTypes := #[25] }, type := 3, pos := "law.go:195", after := #[{ on := 11, ground := Ground.data }, { on := 10, ground := Ground.chain }, { on := 10, ground := Ground.guard }], guard := some (10, false) }) (v := undef) rfl (by kernel_rfl) (by kernel_rfl) (by kernel_rfl) (fun _ _ _ h => h) (Or.inr ⟨by kernel_rfl, rfl⟩) (by assumption) ?_
    try simp only [Act.put, List.setIfInBounds_toArray, List.set_cons_zero, List.set_cons_succ]
    refine wpAnyH_take (i := 13) (oi := { dst := some 23, op := Op.load 25 (Operand.tmp 3), type := 25, pos := "law.go:195", after := #[{ on := 10, ground := Ground.guard }], guard := some (10, false) }) (v := undef) rfl (by kernel_rfl) (by kernel_rfl) (by kernel_rfl) (fun _ _ _ h => h) (Or.inr ⟨by kernel_rfl, rfl⟩) (by assumption) ?_
    try simp only [Act.put, List.setIfInBounds_toArray, List.set_cons_zero, List.set_cons_succ]
    refine wpAnyH_take (i := 14) (oi := { dst := some 24, op := Op.call { callee := Callee.value (Operand.func 23), args := #[Operand.tmp 23], argTypes := #[25] }, type := 3, pos := "law.go:195", after := #[{ on := 13, ground := Ground.data }, { on := 12, ground := Ground.chain }, { on := 10, ground := Ground.guard }], guard := some (10, false) }) (v := undef) rfl (by kernel_rfl) (by kernel_rfl) (by kernel_rfl) (fun _ _ _ h => h) (Or.inr ⟨by kernel_rfl, rfl⟩) (by assumption) ?_
    try simp only [Act.put, List.setIfInBounds_toArray, List.set_cons_zero, List.set_cons_succ]
    refine wpAnyH_take (i := 15) (oi := { dst := some 25, op := Op.binOp BinOp.neq 3 (Operand.tmp 22) (Operand.tmp 24) 3, type := 4, pos := "law.go:195", after := #[{ on := 12, ground := Ground.data }, { on := 14, ground := Ground.data }, { on := 10, ground := Ground.guard }], guard := some (10, false) }) (v := undef) rfl (by kernel_rfl) (by kernel_rfl) (by kernel_rfl) (fun _ _ _ h => h) (Or.inr ⟨by kernel_rfl, rfl⟩) (by assumption) ?_
    try simp only [Act.put, List.setIfInBounds_toArray, List.set_cons_zero, List.set_cons_succ]
    refine wpAnyH_take (i := 16) (oi := { dst := some 26, op := Op.pick (Operand.tmp 20) (Operand.const (Value.bool true)) (Operand.tmp 25), type := 4, pos := "law.go:195", after := #[{ on := 10, ground := Ground.data }, { on := 15, ground := Ground.data }], guard := none }) (v := ?v6) rfl (by kernel_rfl) (by kernel_rfl) (by kernel_rfl) (fun _ _ _ h => h) (Or.inl ⟨by kernel_rfl, ?y6⟩) (by assumption) ?r6
    case y6 => (intro w hSw; (try dsimp only at hSw); (obtain ⟨a0, a1, a2, a3, a4⟩ := Pfx.cx hSw; obtain ⟨e0, e1, e2, e3, e4⟩ := Pfx.cy hSw); go_simp; try (with_reducible rfl))
    try simp only [Act.put, List.setIfInBounds_toArray, List.set_cons_zero, List.set_cons_succ]
    refine wpAnyH_done (by kernel_rfl) ?_ _
    have P3 := P2.b
    clear hHeld P0 P2
    go_wp2
    go_ret
    exact ⟨rfl, P3⟩
  | true =>
    rw [hfx] at HXF
    cases hfy : fewB [y] with
    | false =>
      rw [hfy] at HYF
      go_enter Tryd.func7, Tryd.ntmps7
      go_wp2_with fail
      refine (small_any _ HEb.out).mono ?_
      rintro e w1 ⟨rfl, b1⟩
      have HP1 := Lib.hid (HP.out w1 b1)
      clear b1
      go_wp2_with fail
      refine wp_region_held_drew (S := (fun w' => Pfx x y p1 p2 r1 r2 c1 c2 d1 d2 W w')) (by kernel_rfl) ?_ (fun hHeld => ?_)
      · exact HP1.out.drew
      change wpAnyH _ _ _ _ _ 17 #[false, false, false, false, false, false, false, false, false, false, false, false, false, false, false, false, false] _ _
      have P0 := hHeld
      refine wpAnyH_take (i := 0) (oi := { dst := some 10, op := Op.load 25 (Operand.tmp 2), type := 25, pos := "law.go:195", after := #[], guard := none }) (v := ?v7) rfl (by kernel_rfl) (by kernel_rfl) (by kernel_rfl) (fun _ _ _ h => h) (Or.inl ⟨by kernel_rfl, ?y7⟩) (by assumption) ?r7
      case y7 => (intro w hSw; (try dsimp only at hSw); (obtain ⟨a0, a1, a2, a3, a4⟩ := Pfx.cx hSw; obtain ⟨e0, e1, e2, e3, e4⟩ := Pfx.cy hSw); go_simp; try (with_reducible rfl))
      try simp only [Act.put, List.setIfInBounds_toArray, List.set_cons_zero, List.set_cons_succ]
      refine wpAnyH_ready (rs := [1]) (by kernel_rfl) (by simp) ?_
      refine AllReadyH.cons (o := { dst := some 11, op := Op.buildSlice 28 1 #[(0, Operand.tmp 10)], type := 28, pos := "law.go:195", after := #[{ on := 0, ground := Ground.data }], guard := none }) rfl (fun K hK => ?_) AllReadyH.nil
      go_simp
      refine hK.out _ _ ?_ (fun hHeld => ?_)
      · exact Pfx.step P0 ((Below.refl _ _).alloc (Nat.le_refl _) _)
      clear hK K
      try simp only [Act.put, List.setIfInBounds_toArray, List.set_cons_zero, List.set_cons_succ]
      refine wpAnyH_ready (rs := [2]) (by kernel_rfl) (by simp) ?_
      refine AllReadyH.cons (o := { dst := some 12, op := Op.call { callee := Callee.value (Operand.func 10), args := #[Operand.tmp 11], argTypes := #[28] }, type := 4, pos := "law.go:195", after := #[{ on := 1, ground := Ground.data }], guard := none }) rfl (fun K hK => ?_) AllReadyH.nil
      (go_simp; refine (HXF.out w1.drew P0.b).mono ?_; rintro e w2 ⟨rfl, bb⟩)
      refine hK.out _ _ ?_ (fun hHeld => ?_)
      · exact Pfx.step P0 bb
      clear hK K
      try simp only [Act.put, List.setIfInBounds_toArray, List.set_cons_zero, List.set_cons_succ]
      have P2 := hHeld
      refine wpAnyH_take (i := 3) (oi := { dst := some 13, op := Op.unOp UnOp.not 4 (Operand.tmp 12), type := 4, pos := "law.go:195", after := #[{ on := 2, ground := Ground.data }], guard := none }) (v := ?v8) rfl (by kernel_rfl) (by kernel_rfl) (by kernel_rfl) (fun _ _ _ h => h) (Or.inl ⟨by kernel_rfl, ?y8⟩) (by assumption) ?r8
      case y8 => (intro w hSw; (try dsimp only at hSw); (obtain ⟨a0, a1, a2, a3, a4⟩ := Pfx.cx hSw; obtain ⟨e0, e1, e2, e3, e4⟩ := Pfx.cy hSw); go_simp; try (with_reducible rfl))
      try simp only [Act.put, List.setIfInBounds_toArray, List.set_cons_zero, List.set_cons_succ]
      refine wpAnyH_take (i := 4) (oi := { dst := some 14, op := Op.move (Operand.tmp 13), type := 4, pos := "law.go:195", after := #[{ on := 3, ground := Ground.data }, { on := 2, ground := Ground.chain }], guard := none }) (v := ?v9) rfl (by kernel_rfl) (by kernel_rfl) (by kernel_rfl) (fun _ _ _ h => h) (Or.inl ⟨by kernel_rfl, ?y9⟩) (by assumption) ?r9
      case y9 => (intro w hSw; (try dsimp only at hSw); (obtain ⟨a0, a1, a2, a3, a4⟩ := Pfx.cx hSw; obtain ⟨e0, e1, e2, e3, e4⟩ := Pfx.cy hSw); go_simp; try (with_reducible rfl))
      try simp only [Act.put, List.setIfInBounds_toArray, List.set_cons_zero, List.set_cons_succ]
      refine wpAnyH_take (i := 5) (oi := { dst := some 15, op := Op.load 25 (Operand.tmp 3), type := 25, pos := "law.go:195", after := #[{ on := 4, ground := Ground.guard }], guard := some (4, false) }) (v := ?v10) rfl (by kernel_rfl) (by kernel_rfl) (by kernel_rfl) (fun _ _ _ h => h) (Or.inl ⟨by kernel_rfl, ?y10⟩) (by assumption) ?r10
      case y10 => (intro w hSw; (try dsimp only at hSw); (obtain ⟨a0, a1, a2, a3, a4⟩ := Pfx.cx hSw; obtain ⟨e0, e1, e2, e3, e4⟩ := Pfx.cy hSw); go_simp; try (with_reducible rfl))
      try simp only [Act.put, List.setIfInBounds_toArray, List.set_cons_zero, List.set_cons_succ]
      refine wpAnyH_ready (rs := [6]) (by kernel_rfl) (by simp) ?_
      refine AllReadyH.cons (o := { dst := some 16, op := Op.buildSlice 28 1 #[(0, Operand.tmp 15)], type := 28, pos := "law.go:195", after := #[{ on := 5, ground := Ground.data }, { on := 4, ground := Ground.guard }], guard := some (4, false) }) rfl (fun K hK => ?_) AllReadyH.nil
      go_simp
      refine hK.out _ _ ?_ (fun hHeld => ?_)
      · exact Pfx.step P2 ((Below.refl _ _).alloc (Nat.le_refl _) _)
      clear hK K
      try simp only [Act.put, List.setIfInBounds_toArray, List.set_cons_zero, List.set_cons_succ]
      refine wpAnyH_ready (rs := [7]) (by kernel_rfl) (by simp) ?_
      refine AllReadyH.cons (o := { dst := some 17, op := Op.call { callee := Callee.value (Operand.func 10), args := #[Operand.tmp 16], argTypes := #[28] }, type := 4, pos := "law.go:195", after := #[{ on := 6, ground := Ground.data }, { on := 4, ground := Ground.chain }, { on := 4, ground := Ground.guard }], guard := some (4, false) }) rfl (fun K hK => ?_) AllReadyH.nil
      (go_simp; refine (HYF.out w2 P2.b).mono ?_; rintro e w3 ⟨rfl, bb⟩)
      refine hK.out _ _ ?_ (fun hHeld => ?_)
      · exact Pfx.step P2 bb
      clear hK K
      try simp only [Act.put, List.setIfInBounds_toArray, List.set_cons_zero, List.set_cons_succ]
      have P4 := hHeld
      refine wpAnyH_take (i := 8) (oi := { dst := some 18, op := Op.unOp UnOp.not 4 (Operand.tmp 17), type := 4, pos := "law.go:195", after := #[{ on := 7, ground := Ground.data }, { on := 4, ground := Ground.guard }], guard := some (4, false) }) (v := ?v11) rfl (by kernel_rfl) (by kernel_rfl) (by kernel_rfl) (fun _ _ _ h => h) (Or.inl ⟨by kernel_rfl, ?y11⟩) (by assumption) ?r11
      case y11 => (intro w hSw; (try dsimp only at hSw); (obtain ⟨a0, a1, a2, a3, a4⟩ := Pfx.cx hSw; obtain ⟨e0, e1, e2, e3, e4⟩ := Pfx.cy hSw); go_simp; try (with_reducible rfl))
      try simp only [Act.put, List.setIfInBounds_toArray, List.set_cons_zero, List.set_cons_succ]
      refine wpAnyH_take (i := 9) (oi := { dst := some 19, op := Op.pick (Operand.tmp 14) (Operand.const (Value.bool true)) (Operand.tmp 18), type := 4, pos := "law.go:195", after := #[{ on := 4, ground := Ground.data }, { on := 8, ground := Ground.data }], guard := none }) (v := ?v12) rfl (by kernel_rfl) (by kernel_rfl) (by kernel_rfl) (fun _ _ _ h => h) (Or.inl ⟨by kernel_rfl, ?y12⟩) (by assumption) ?r12
      case y12 => (intro w hSw; (try dsimp only at hSw); (obtain ⟨a0, a1, a2, a3, a4⟩ := Pfx.cx hSw; obtain ⟨e0, e1, e2, e3, e4⟩ := Pfx.cy hSw); go_simp; try (with_reducible rfl))
      try simp only [Act.put, List.setIfInBounds_toArray, List.set_cons_zero, List.set_cons_succ]
      refine wpAnyH_take (i := 10) (oi := { dst := some 20, op := Op.move (Operand.tmp 19), type := 4, pos := "law.go:195", after := #[{ on := 9, ground := Ground.data }, { on := 7, ground := Ground.chain }], guard := none }) (v := ?v13) rfl (by kernel_rfl) (by kernel_rfl) (by kernel_rfl) (fun _ _ _ h => h) (Or.inl ⟨by kernel_rfl, ?y13⟩) (by assumption) ?r13
      case y13 => (intro w hSw; (try dsimp only at hSw); (obtain ⟨a0, a1, a2, a3, a4⟩ := Pfx.cx hSw; obtain ⟨e0, e1, e2, e3, e4⟩ := Pfx.cy hSw); go_simp; try (with_reducible rfl))
      try simp only [Act.put, List.setIfInBounds_toArray, List.set_cons_zero, List.set_cons_succ]
      refine wpAnyH_take (i := 11) (oi := { dst := some 21, op := Op.load 25 (Operand.tmp 2), type := 25, pos := "law.go:195", after := #[{ on := 10, ground := Ground.guard }], guard := some (10, false) }) (v := undef) rfl (by kernel_rfl) (by kernel_rfl) (by kernel_rfl) (fun _ _ _ h => h) (Or.inr ⟨by kernel_rfl, rfl⟩) (by assumption) ?_
      try simp only [Act.put, List.setIfInBounds_toArray, List.set_cons_zero, List.set_cons_succ]
      refine wpAnyH_take (i := 12) (oi := { dst := some 22, op := Op.call { callee := Callee.value (Operand.func 23), args := #[Operand.tmp 21], argTypes := #[25] }, type := 3, pos := "law.go:195", after := #[{ on := 11, ground := Ground.data }, { on := 10, ground := Ground.chain }, { on := 10, ground := Ground.guard }], guard := some (10, false) }) (v := undef) rfl (by kernel_rfl) (by kernel_rfl) (by kernel_rfl) (fun _ _ _ h => h) (Or.inr ⟨by kernel_rfl, rfl⟩) (by assumption) ?_
      try simp only [Act.put, List.setIfInBounds_toArray, List.set_cons_zero, List.set_cons_succ]
      refine wpAnyH_take (i := 13) (oi := { dst := some 23, op := Op.load 25 (Operand.tmp 3), type := 25, pos := "law.go:195", after := #[{ on := 10, ground := Ground.guard }], guard := some (10, false) }) (v := undef) rfl (by kernel_rfl) (by kernel_rfl) (by kernel_rfl) (fun _ _ _ h => h) (Or.inr ⟨by kernel_rfl, rfl⟩) (by assumption) ?_
      try simp only [Act.put, List.setIfInBounds_toArray, List.set_cons_zero, List.set_cons_succ]
      refine wpAnyH_take (i := 14) (oi := { dst := some 24, op := Op.call { callee := Callee.value (Operand.func 23), args := #[Operand.tmp 23], argTypes := #[25] }, type := 3, pos := "law.go:195", after := #[{ on := 13, ground := Ground.data }, { on := 12, ground := Ground.chain }, { on := 10, ground := Ground.guard }], guard := some (10, false) }) (v := undef) rfl (by kernel_rfl) (by kernel_rfl) (by kernel_rfl) (fun _ _ _ h => h) (Or.inr ⟨by kernel_rfl, rfl⟩) (by assumption) ?_
      try simp only [Act.put, List.setIfInBounds_toArray, List.set_cons_zero, List.set_cons_succ]
      refine wpAnyH_take (i := 15) (oi := { dst := some 25, op := Op.binOp BinOp.neq 3 (Operand.tmp 22) (Operand.tmp 24) 3, type := 4, pos := "law.go:195", after := #[{ on := 12, ground := Ground.data }, { on := 14, ground := Ground.data }, { on := 10, ground := Ground.guard }], guard := some (10, false) }) (v := undef) rfl (by kernel_rfl) (by kernel_rfl) (by kernel_rfl) (fun _ _ _ h => h) (Or.inr ⟨by kernel_rfl, rfl⟩) (by assumption) ?_
      try simp only [Act.put, List.setIfInBounds_toArray, List.set_cons_zero, List.set_cons_succ]
      refine wpAnyH_take (i := 16) (oi := { dst := some 26, op := Op.pick (Operand.tmp 20) (Operand.const (Value.bool true)) (Operand.tmp 25), type := 4, pos := "law.go:195", after := #[{ on := 10, ground := Ground.data }, { on := 15, ground := Ground.data }], guard := none }) (v := ?v14) rfl (by kernel_rfl) (by kernel_rfl) (by kernel_rfl) (fun _ _ _ h => h) (Or.inl ⟨by kernel_rfl, ?y14⟩) (by assumption) ?r14
      case y14 => (intro w hSw; (try dsimp only at hSw); (obtain ⟨a0, a1, a2, a3, a4⟩ := Pfx.cx hSw; obtain ⟨e0, e1, e2, e3, e4⟩ := Pfx.cy hSw); go_simp; try (with_reducible rfl))
      try simp only [Act.put, List.setIfInBounds_toArray, List.set_cons_zero, List.set_cons_succ]
      refine wpAnyH_done (by kernel_rfl) ?_ _
      have P5 := P4.b
      clear hHeld P0 P2 P4
      go_wp2
      go_ret
      exact ⟨rfl, P5⟩
    | true =>
      rw [hfy] at HYF
      have HSX : Hid x.Small := (fewB_small hfx).2 x (by simp)
      have HSY : Hid y.Small := (fewB_small hfy).2 y (by simp)
      have hkx : ∀ w, Calls Tryd.prog 23 #[.agg #[.int .i64 x.kind, .int .i64 x.n, .string (bs x.s), .slice p1 x.li.length c1, .slice p2 x.lt.length c2]] w fun e w' => e = .returned (.int .i64 x.kd) ∧ Below w.heap.size w w' := fun w => kind_any x.kind x.n (bs x.s) p1 p2 x.li.length x.lt.length c1 c2 w
      have hky : ∀ w, Calls Tryd.prog 23 #[.agg #[.int .i64 y.kind, .int .i64 y.n, .string (bs y.s), .slice r1 y.li.length d1, .slice r2 y.lt.length d2]] w fun e w' => e = .returned (.int .i64 y.kd) ∧ Below w.heap.size w w' := fun w => kind_any y.kind y.n (bs y.s) r1 r2 y.li.length y.lt.length d1 d2 w
      obtain ⟨K1, hK1⟩ : ∃ K, K = x.kd := ⟨_, rfl⟩
      obtain ⟨K2, hK2⟩ : ∃ K, K = y.kd := ⟨_, rfl⟩
      rw [← hK1] at hkx
      rw [← hK2] at hky
      have HKX := Lib.hid hkx
      clear hkx
      by_cases hk : K1 = K2
      · have HKD : Hid (x.kd = y.kd) := by show _ = _; rw [← hK1, ← hK2]; exact hk
        rw [← hk] at hky
        have HKY := Lib.hid hky
        clear hK1 hK2 hk hky hfx hfy
        go_enter Tryd.func7, Tryd.ntmps7
        go_wp2_with fail
        refine (small_any _ HEb.out).mono ?_
        rintro e w1 ⟨rfl, b1⟩
        have HP1 := Lib.hid (HP.out w1 b1)
        clear b1
        go_wp2_with fail
        refine wp_region_held_drew (S := (fun w' => Pfx x y p1 p2 r1 r2 c1 c2 d1 d2 W w')) (by kernel_rfl) ?_ (fun hHeld => ?_)
        · exact HP1.out.drew
        change wpAnyH _ _ _ _ _ 17 #[false, false, false, false, false, false, false, false, false, false, false, false, false, false, false, false, false] _ _
        have P0 := hHeld
        refine wpAnyH_take (i := 0) (oi := { dst := some 10, op := Op.load 25 (Operand.tmp 2), type := 25, pos := "law.go:195", after := #[], guard := none }) (v := ?v26) rfl (by kernel_rfl) (by kernel_rfl) (by kernel_rfl) (fun _ _ _ h => h) (Or.inl ⟨by kernel_rfl, ?y26⟩) (by assumption) ?r26
        case y26 => (intro w hSw; (try dsimp only at hSw); (obtain ⟨a0, a1, a2, a3, a4⟩ := Pfx.cx hSw; obtain ⟨e0, e1, e2, e3, e4⟩ := Pfx.cy hSw); go_simp; try (with_reducible rfl))
        try simp only [Act.put, List.setIfInBounds_toArray, List.set_cons_zero, List.set_cons_succ]
        refine wpAnyH_ready (rs := [1]) (by kernel_rfl) (by simp) ?_
        refine AllReadyH.cons (o := { dst := some 11, op := Op.buildSlice 28 1 #[(0, Operand.tmp 10)], type := 28, pos := "law.go:195", after := #[{ on := 0, ground := Ground.data }], guard := none }) rfl (fun K hK => ?_) AllReadyH.nil
        go_simp
        refine hK.out _ _ ?_ (fun hHeld => ?_)
        · exact Pfx.step P0 ((Below.refl _ _).alloc (Nat.le_refl _) _)
        clear hK K
        try simp only [Act.put, List.setIfInBounds_toArray, List.set_cons_zero, List.set_cons_succ]
        refine wpAnyH_ready (rs := [2]) (by kernel_rfl) (by simp) ?_
        refine AllReadyH.cons (o := { dst := some 12, op := Op.call { callee := Callee.value (Operand.func 10), args := #[Operand.tmp 11], argTypes := #[28] }, type := 4, pos := "law.go:195", after := #[{ on := 1, ground := Ground.data }], guard := none }) rfl (fun K hK => ?_) AllReadyH.nil
        (go_simp; refine (HXF.out w1.drew P0.b).mono ?_; rintro e w2 ⟨rfl, bb⟩)
        refine hK.out _ _ ?_ (fun hHeld => ?_)
        · exact Pfx.step P0 bb
        clear hK K
        try simp only [Act.put, List.setIfInBounds_toArray, List.set_cons_zero, List.set_cons_succ]
        have P2 := hHeld
        refine wpAnyH_take (i := 3) (oi := { dst := some 13, op := Op.unOp UnOp.not 4 (Operand.tmp 12), type := 4, pos := "law.go:195", after := #[{ on := 2, ground := Ground.data }], guard := none }) (v := ?v27) rfl (by kernel_rfl) (by kernel_rfl) (by kernel_rfl) (fun _ _ _ h => h) (Or.inl ⟨by kernel_rfl, ?y27⟩) (by assumption) ?r27
        case y27 => (intro w hSw; (try dsimp only at hSw); (obtain ⟨a0, a1, a2, a3, a4⟩ := Pfx.cx hSw; obtain ⟨e0, e1, e2, e3, e4⟩ := Pfx.cy hSw); go_simp; try (with_reducible rfl))
        try simp only [Act.put, List.setIfInBounds_toArray, List.set_cons_zero, List.set_cons_succ]
        refine wpAnyH_take (i := 4) (oi := { dst := some 14, op := Op.move (Operand.tmp 13), type := 4, pos := "law.go:195", after := #[{ on := 3, ground := Ground.data }, { on := 2, ground := Ground.chain }], guard := none }) (v := ?v28) rfl (by kernel_rfl) (by kernel_rfl) (by kernel_rfl) (fun _ _ _ h => h) (Or.inl ⟨by kernel_rfl, ?y28⟩) (by assumption) ?r28
        case y28 => (intro w hSw; (try dsimp only at hSw); (obtain ⟨a0, a1, a2, a3, a4⟩ := Pfx.cx hSw; obtain ⟨e0, e1, e2, e3, e4⟩ := Pfx.cy hSw); go_simp; try (with_reducible rfl))
        try simp only [Act.put, List.setIfInBounds_toArray, List.set_cons_zero, List.set_cons_succ]
        refine wpAnyH_take (i := 5) (oi := { dst := some 15, op := Op.load 25 (Operand.tmp 3), type := 25, pos := "law.go:195", after := #[{ on := 4, ground := Ground.guard }], guard := some (4, false) }) (v := ?v29) rfl (by kernel_rfl) (by kernel_rfl) (by kernel_rfl) (fun _ _ _ h => h) (Or.inl ⟨by kernel_rfl, ?y29⟩) (by assumption) ?r29
        case y29 => (intro w hSw; (try dsimp only at hSw); (obtain ⟨a0, a1, a2, a3, a4⟩ := Pfx.cx hSw; obtain ⟨e0, e1, e2, e3, e4⟩ := Pfx.cy hSw); go_simp; try (with_reducible rfl))
        try simp only [Act.put, List.setIfInBounds_toArray, List.set_cons_zero, List.set_cons_succ]
        refine wpAnyH_ready (rs := [6]) (by kernel_rfl) (by simp) ?_
        refine AllReadyH.cons (o := { dst := some 16, op := Op.buildSlice 28 1 #[(0, Operand.tmp 15)], type := 28, pos := "law.go:195", after := #[{ on := 5, ground := Ground.data }, { on := 4, ground := Ground.guard }], guard := some (4, false) }) rfl (fun K hK => ?_) AllReadyH.nil
        go_simp
        refine hK.out _ _ ?_ (fun hHeld => ?_)
        · exact Pfx.step P2 ((Below.refl _ _).alloc (Nat.le_refl _) _)
        clear hK K
        try simp only [Act.put, List.setIfInBounds_toArray, List.set_cons_zero, List.set_cons_succ]
        refine wpAnyH_ready (rs := [7]) (by kernel_rfl) (by simp) ?_
        refine AllReadyH.cons (o := { dst := some 17, op := Op.call { callee := Callee.value (Operand.func 10), args := #[Operand.tmp 16], argTypes := #[28] }, type := 4, pos := "law.go:195", after := #[{ on := 6, ground := Ground.data }, { on := 4, ground := Ground.chain }, { on := 4, ground := Ground.guard }], guard := some (4, false) }) rfl (fun K hK => ?_) AllReadyH.nil
        (go_simp; refine (HYF.out w2 P2.b).mono ?_; rintro e w3 ⟨rfl, bb⟩)
        refine hK.out _ _ ?_ (fun hHeld => ?_)
        · exact Pfx.step P2 bb
        clear hK K
        try simp only [Act.put, List.setIfInBounds_toArray, List.set_cons_zero, List.set_cons_succ]
        have P4 := hHeld
        refine wpAnyH_take (i := 8) (oi := { dst := some 18, op := Op.unOp UnOp.not 4 (Operand.tmp 17), type := 4, pos := "law.go:195", after := #[{ on := 7, ground := Ground.data }, { on := 4, ground := Ground.guard }], guard := some (4, false) }) (v := ?v30) rfl (by kernel_rfl) (by kernel_rfl) (by kernel_rfl) (fun _ _ _ h => h) (Or.inl ⟨by kernel_rfl, ?y30⟩) (by assumption) ?r30
        case y30 => (intro w hSw; (try dsimp only at hSw); (obtain ⟨a0, a1, a2, a3, a4⟩ := Pfx.cx hSw; obtain ⟨e0, e1, e2, e3, e4⟩ := Pfx.cy hSw); go_simp; try (with_reducible rfl))
        try simp only [Act.put, List.setIfInBounds_toArray, List.set_cons_zero, List.set_cons_succ]
        refine wpAnyH_take (i := 9) (oi := { dst := some 19, op := Op.pick (Operand.tmp 14) (Operand.const (Value.bool true)) (Operand.tmp 18), type := 4, pos := "law.go:195", after := #[{ on := 4, ground := Ground.data }, { on := 8, ground := Ground.data }], guard := none }) (v := ?v31) rfl (by kernel_rfl) (by kernel_rfl) (by kernel_rfl) (fun _ _ _ h => h) (Or.inl ⟨by kernel_rfl, ?y31⟩) (by assumption) ?r31
        case y31 => (intro w hSw; (try dsimp only at hSw); (obtain ⟨a0, a1, a2, a3, a4⟩ := Pfx.cx hSw; obtain ⟨e0, e1, e2, e3, e4⟩ := Pfx.cy hSw); go_simp; try (with_reducible rfl))
        try simp only [Act.put, List.setIfInBounds_toArray, List.set_cons_zero, List.set_cons_succ]
        refine wpAnyH_take (i := 10) (oi := { dst := some 20, op := Op.move (Operand.tmp 19), type := 4, pos := "law.go:195", after := #[{ on := 9, ground := Ground.data }, { on := 7, ground := Ground.chain }], guard := none }) (v := ?v32) rfl (by kernel_rfl) (by kernel_rfl) (by kernel_rfl) (fun _ _ _ h => h) (Or.inl ⟨by kernel_rfl, ?y32⟩) (by assumption) ?r32
        case y32 => (intro w hSw; (try dsimp only at hSw); (obtain ⟨a0, a1, a2, a3, a4⟩ := Pfx.cx hSw; obtain ⟨e0, e1, e2, e3, e4⟩ := Pfx.cy hSw); go_simp; try (with_reducible rfl))
        try simp only [Act.put, List.setIfInBounds_toArray, List.set_cons_zero, List.set_cons_succ]
        refine wpAnyH_take (i := 11) (oi := { dst := some 21, op := Op.load 25 (Operand.tmp 2), type := 25, pos := "law.go:195", after := #[{ on := 10, ground := Ground.guard }], guard := some (10, false) }) (v := ?v33) rfl (by kernel_rfl) (by kernel_rfl) (by kernel_rfl) (fun _ _ _ h => h) (Or.inl ⟨by kernel_rfl, ?y33⟩) (by assumption) ?r33
        case y33 => (intro w hSw; (try dsimp only at hSw); (obtain ⟨a0, a1, a2, a3, a4⟩ := Pfx.cx hSw; obtain ⟨e0, e1, e2, e3, e4⟩ := Pfx.cy hSw); go_simp; try (with_reducible rfl))
        try simp only [Act.put, List.setIfInBounds_toArray, List.set_cons_zero, List.set_cons_succ]
        refine wpAnyH_take (i := 13) (oi := { dst := some 23, op := Op.load 25 (Operand.tmp 3), type := 25, pos := "law.go:195", after := #[{ on := 10, ground := Ground.guard }], guard := some (10, false) }) (v := ?v34) rfl (by kernel_rfl) (by kernel_rfl) (by kernel_rfl) (fun _ _ _ h => h) (Or.inl ⟨by kernel_rfl, ?y34⟩) (by assumption) ?r34
        case y34 => (intro w hSw; (try dsimp only at hSw); (obtain ⟨a0, a1, a2, a3, a4⟩ := Pfx.cx hSw; obtain ⟨e0, e1, e2, e3, e4⟩ := Pfx.cy hSw); go_simp; try (with_reducible rfl))
        try simp only [Act.put, List.setIfInBounds_toArray, List.set_cons_zero, List.set_cons_succ]
        refine wpAnyH_ready (rs := [12]) (by kernel_rfl) (by simp) ?_
        refine AllReadyH.cons (o := { dst := some 22, op := Op.call { callee := Callee.value (Operand.func 23), args := #[Operand.tmp 21], argTypes := #[25] }, type := 3, pos := "law.go:195", after := #[{ on := 11, ground := Ground.data }, { on := 10, ground := Ground.chain }, { on := 10, ground := Ground.guard }], guard := some (10, false) }) rfl (fun K hK => ?_) AllReadyH.nil
        (go_simp; refine (HKX.out w3).mono ?_; rintro e w4 ⟨rfl, bb⟩)
        refine hK.out _ _ ?_ (fun hHeld => ?_)
        · exact Pfx.step P4 bb
        clear hK K
        try simp only [Act.put, List.setIfInBounds_toArray, List.set_cons_zero, List.set_cons_succ]
        have P5 := hHeld
        refine wpAnyH_ready (rs := [14]) (by kernel_rfl) (by simp) ?_
        refine AllReadyH.cons (o := { dst := some 24, op := Op.call { callee := Callee.value (Operand.func 23), args := #[Operand.tmp 23], argTypes := #[25] }, type := 3, pos := "law.go:195", after := #[{ on := 13, ground := Ground.data }, { on := 12, ground := Ground.chain }, { on := 10, ground := Ground.guard }], guard := some (10, false) }) rfl (fun K hK => ?_) AllReadyH.nil
        (go_simp; refine (HKY.out w4).mono ?_; rintro e w5 ⟨rfl, bb⟩)
        refine hK.out _ _ ?_ (fun hHeld => ?_)
        · exact Pfx.step P5 bb
        clear hK K
        try simp only [Act.put, List.setIfInBounds_toArray, List.set_cons_zero, List.set_cons_succ]
        have P6 := hHeld
        refine wpAnyH_take (i := 15) (oi := { dst := some 25, op := Op.binOp BinOp.neq 3 (Operand.tmp 22) (Operand.tmp 24) 3, type := 4, pos := "law.go:195", after := #[{ on := 12, ground := Ground.data }, { on := 14, ground := Ground.data }, { on := 10, ground := Ground.guard }], guard := some (10, false) }) (v := ?v35) rfl (by kernel_rfl) (by kernel_rfl) (by kernel_rfl) (fun _ _ _ h => h) (Or.inl ⟨by kernel_rfl, ?y35⟩) (by assumption) ?r35
        case y35 => (intro w hSw; (try dsimp only at hSw); (obtain ⟨a0, a1, a2, a3, a4⟩ := Pfx.cx hSw; obtain ⟨e0, e1, e2, e3, e4⟩ := Pfx.cy hSw); go_simp; try (with_reducible rfl))
        try simp only [Act.put, List.setIfInBounds_toArray, List.set_cons_zero, List.set_cons_succ]
        refine wpAnyH_take (i := 16) (oi := { dst := some 26, op := Op.pick (Operand.tmp 20) (Operand.const (Value.bool true)) (Operand.tmp 25), type := 4, pos := "law.go:195", after := #[{ on := 10, ground := Ground.data }, { on := 15, ground := Ground.data }], guard := none }) (v := ?v36) rfl (by kernel_rfl) (by kernel_rfl) (by kernel_rfl) (fun _ _ _ h => h) (Or.inl ⟨by kernel_rfl, ?y36⟩) (by assumption) ?r36
        case y36 => (intro w hSw; (try dsimp only at hSw); (obtain ⟨a0, a1, a2, a3, a4⟩ := Pfx.cx hSw; obtain ⟨e0, e1, e2, e3, e4⟩ := Pfx.cy hSw); go_simp; try (with_reducible rfl))
        try simp only [Act.put, List.setIfInBounds_toArray, List.set_cons_zero, List.set_cons_succ]
        refine wpAnyH_done (by kernel_rfl) ?_ _
        have HP6 := Lib.hid P6
        obtain ⟨a0, a1, a2, a3, a4⟩ := P6.cx
        clear hHeld P0 P2 P4 P5 P6
        go_wp2_with fail
        refine (write_any x p1 p2 c1 c2 w5 (HXI.out.below HP6.out.b (Nat.le_refl _)) (HXT.out.below HP6.out.b (Nat.le_refl _)) HXO.out HSX.out (HES.out _ HP6.out.b)).mono ?_
        rintro e w6 ⟨rfl, b6⟩
        have HP7 := Lib.hid (HP6.out.step b6)
        obtain ⟨e0, e1, e2, e3, e4⟩ := HP7.out.cy
        clear b6 a0 a1 a2 a3 a4
        go_wp2_with fail
        refine (write_any y r1 r2 d1 d2 w6 (HYI.out.below HP7.out.b (Nat.le_refl _)) (HYT.out.below HP7.out.b (Nat.le_refl _)) HYO.out HSY.out (HES.out _ HP7.out.b)).mono ?_
        rintro e w7 ⟨rfl, b7⟩
        have HP8 := Lib.hid (HP7.out.step b7)
        clear b7 e0 e1 e2 e3 e4
        have hxl := (enc_len HSX.out HXO.out).1
        have hyl := (enc_len HSY.out HYO.out).1
        obtain ⟨S, hS⟩ : ∃ S, S = bs x.enc := ⟨_, rfl⟩
        obtain ⟨T, hT⟩ : ∃ T, T = bs y.enc := ⟨_, rfl⟩
        have hSz : S.size ≤ 200000 := by rw [hS, bs_size]; exact hxl
        have hTz : T.size ≤ 200000 := by rw [hT, bs_size]; exact hyl
        rw [← hS, ← hT]
        have HS := Lib.hid hS
        have HT := Lib.hid hT
        clear hxl hyl hS hT
        by_cases hlt : T.size < S.size
        · have hd : decide (T.size < S.size) = true := decide_eq_true hlt
          go_wp2
          go_ret
          exact ⟨rfl, HP8.out.b⟩
        · have hd : decide (T.size < S.size) = false := decide_eq_false hlt
          obtain ⟨U, hU⟩ : ∃ U, T.extract 0 (min (S.size : Int) (T.size : Int)).toNat = U := ⟨_, rfl⟩
          have hU2 : Hid (U = bs (y.enc.take S.size)) := by
            show _ = _
            have hm : (min (S.size : Int) (T.size : Int)).toNat = S.size := by omega
            rw [← hU, hm, HT.out, upto_eq]
          by_cases hus : U = S
          · subst hus
            have hlaw : Hid (T = U ∧ y.rd ⟨x.enc, false⟩ = (true, ⟨[], false⟩)) := by
              have h1 := hU2.out
              rw [HS.out, bs_size] at h1
              have h2 : x.enc = y.enc.take x.enc.length := by
                have := congrArg (fun b : ByteArray => b.data.toList) h1
                simpa using this
              have h3 : y.enc = x.enc ++ y.enc.drop x.enc.length := by
                conv => lhs; rw [← List.take_append_drop x.enc.length y.enc]
                rw [← h2]
              obtain ⟨h4, h5⟩ := prefix_law HSX.out HSY.out HXO.out HYO.out HKD.out h3
              refine ⟨?_, h5⟩
              rw [h4, List.append_nil] at h3
              rw [HT.out, HS.out, h3]
            have hTU := hlaw.out.1
            subst hTU
            clear hlt hd
            go_wp2_with fail
            refine (open_any _ _).mono ?_
            rintro e w8 ⟨rfl, r8, b8⟩
            have R8 : Hid (Rd 54 w8 w7.heap.size ⟨x.enc, false⟩) := by
              have h1 := r8
              rw [HS.out] at h1
              exact h1
            have HP9 := Lib.hid (HP8.out.step b8)
            have HBK : Hid (W.heap.size ≤ w7.heap.size) := HP8.out.b.size
            have HEQ := Lib.hid (equal_any y r1 r2 d1 d2 w7.heap.size _ W w8 ⟨HP9.out.b, HYI.out, HYT.out, HYO.out, HEE.out, HBK.out, R8.out, (fun h => by cases h), by
              have h1 := (enc_len HSX.out HXO.out).1
              simp only; omega⟩)
            have HBACK : Hid (y.rd ⟨x.enc, false⟩ = (true, ⟨[], false⟩)) := hlaw.out.2
            obtain ⟨bk, hbk⟩ : ∃ bk, bk = w7.heap.size := ⟨_, rfl⟩
            rw [← hbk] at HEQ HBK ⊢
            obtain ⟨e0, e1, e2, e3, e4⟩ := HP9.out.cy
            clear r8 b8 hbk R8
            go_wp2_with fail
            refine HEQ.out.mono ?_
            rintro e w9 ⟨he, r9, f9⟩
            rw [HBACK.out] at he r9
            simp only at he r9
            subst he
            have B9 := Lib.hid (fr_below HP9.out.b HBK.out f9)
            clear r9 f9
            go_wp2
            go_ret
            exact ⟨rfl, B9.out⟩
          · have hne : U.data.toList ≠ S.data.toList := fun e => hus (ByteArray.ext (Array.toList_inj.1 e))
            have q1 := eq_str_no hne
            have q2 := neq_str hne
            clear hne hus
            go_wp2
            go_ret
            exact ⟨rfl, HP8.out.b⟩
      · have HKY := Lib.hid hky
        have g1 : (K1 == K2) = false := beq_false_of_ne hk
        have g2 : (!(K1 == K2)) = true := by rw [g1]; rfl
        clear hK1 hK2 hk hky hfx hfy
        go_enter Tryd.func7, Tryd.ntmps7
        go_wp2_with fail
        refine (small_any _ HEb.out).mono ?_
        rintro e w1 ⟨rfl, b1⟩
        have HP1 := Lib.hid (HP.out w1 b1)
        clear b1
        go_wp2_with fail
        refine wp_region_held_drew (S := (fun w' => Pfx x y p1 p2 r1 r2 c1 c2 d1 d2 W w')) (by kernel_rfl) ?_ (fun hHeld => ?_)
        · exact HP1.out.drew
        change wpAnyH _ _ _ _ _ 17 #[false, false, false, false, false, false, false, false, false, false, false, false, false, false, false, false, false] _ _
        have P0 := hHeld
        refine wpAnyH_take (i := 0) (oi := { dst := some 10, op := Op.load 25 (Operand.tmp 2), type := 25, pos := "law.go:195", after := #[], guard := none }) (v := ?v15) rfl (by kernel_rfl) (by kernel_rfl) (by kernel_rfl) (fun _ _ _ h => h) (Or.inl ⟨by kernel_rfl, ?y15⟩) (by assumption) ?r15
        case y15 => (intro w hSw; (try dsimp only at hSw); (obtain ⟨a0, a1, a2, a3, a4⟩ := Pfx.cx hSw; obtain ⟨e0, e1, e2, e3, e4⟩ := Pfx.cy hSw); go_simp; try (with_reducible rfl))
        try simp only [Act.put, List.setIfInBounds_toArray, List.set_cons_zero, List.set_cons_succ]
        refine wpAnyH_ready (rs := [1]) (by kernel_rfl) (by simp) ?_
        refine AllReadyH.cons (o := { dst := some 11, op := Op.buildSlice 28 1 #[(0, Operand.tmp 10)], type := 28, pos := "law.go:195", after := #[{ on := 0, ground := Ground.data }], guard := none }) rfl (fun K hK => ?_) AllReadyH.nil
        go_simp
        refine hK.out _ _ ?_ (fun hHeld => ?_)
        · exact Pfx.step P0 ((Below.refl _ _).alloc (Nat.le_refl _) _)
        clear hK K
        try simp only [Act.put, List.setIfInBounds_toArray, List.set_cons_zero, List.set_cons_succ]
        refine wpAnyH_ready (rs := [2]) (by kernel_rfl) (by simp) ?_
        refine AllReadyH.cons (o := { dst := some 12, op := Op.call { callee := Callee.value (Operand.func 10), args := #[Operand.tmp 11], argTypes := #[28] }, type := 4, pos := "law.go:195", after := #[{ on := 1, ground := Ground.data }], guard := none }) rfl (fun K hK => ?_) AllReadyH.nil
        (go_simp; refine (HXF.out w1.drew P0.b).mono ?_; rintro e w2 ⟨rfl, bb⟩)
        refine hK.out _ _ ?_ (fun hHeld => ?_)
        · exact Pfx.step P0 bb
        clear hK K
        try simp only [Act.put, List.setIfInBounds_toArray, List.set_cons_zero, List.set_cons_succ]
        have P2 := hHeld
        refine wpAnyH_take (i := 3) (oi := { dst := some 13, op := Op.unOp UnOp.not 4 (Operand.tmp 12), type := 4, pos := "law.go:195", after := #[{ on := 2, ground := Ground.data }], guard := none }) (v := ?v16) rfl (by kernel_rfl) (by kernel_rfl) (by kernel_rfl) (fun _ _ _ h => h) (Or.inl ⟨by kernel_rfl, ?y16⟩) (by assumption) ?r16
        case y16 => (intro w hSw; (try dsimp only at hSw); (obtain ⟨a0, a1, a2, a3, a4⟩ := Pfx.cx hSw; obtain ⟨e0, e1, e2, e3, e4⟩ := Pfx.cy hSw); go_simp; try (with_reducible rfl))
        try simp only [Act.put, List.setIfInBounds_toArray, List.set_cons_zero, List.set_cons_succ]
        refine wpAnyH_take (i := 4) (oi := { dst := some 14, op := Op.move (Operand.tmp 13), type := 4, pos := "law.go:195", after := #[{ on := 3, ground := Ground.data }, { on := 2, ground := Ground.chain }], guard := none }) (v := ?v17) rfl (by kernel_rfl) (by kernel_rfl) (by kernel_rfl) (fun _ _ _ h => h) (Or.inl ⟨by kernel_rfl, ?y17⟩) (by assumption) ?r17
        case y17 => (intro w hSw; (try dsimp only at hSw); (obtain ⟨a0, a1, a2, a3, a4⟩ := Pfx.cx hSw; obtain ⟨e0, e1, e2, e3, e4⟩ := Pfx.cy hSw); go_simp; try (with_reducible rfl))
        try simp only [Act.put, List.setIfInBounds_toArray, List.set_cons_zero, List.set_cons_succ]
        refine wpAnyH_take (i := 5) (oi := { dst := some 15, op := Op.load 25 (Operand.tmp 3), type := 25, pos := "law.go:195", after := #[{ on := 4, ground := Ground.guard }], guard := some (4, false) }) (v := ?v18) rfl (by kernel_rfl) (by kernel_rfl) (by kernel_rfl) (fun _ _ _ h => h) (Or.inl ⟨by kernel_rfl, ?y18⟩) (by assumption) ?r18
        case y18 => (intro w hSw; (try dsimp only at hSw); (obtain ⟨a0, a1, a2, a3, a4⟩ := Pfx.cx hSw; obtain ⟨e0, e1, e2, e3, e4⟩ := Pfx.cy hSw); go_simp; try (with_reducible rfl))
        try simp only [Act.put, List.setIfInBounds_toArray, List.set_cons_zero, List.set_cons_succ]
        refine wpAnyH_ready (rs := [6]) (by kernel_rfl) (by simp) ?_
        refine AllReadyH.cons (o := { dst := some 16, op := Op.buildSlice 28 1 #[(0, Operand.tmp 15)], type := 28, pos := "law.go:195", after := #[{ on := 5, ground := Ground.data }, { on := 4, ground := Ground.guard }], guard := some (4, false) }) rfl (fun K hK => ?_) AllReadyH.nil
        go_simp
        refine hK.out _ _ ?_ (fun hHeld => ?_)
        · exact Pfx.step P2 ((Below.refl _ _).alloc (Nat.le_refl _) _)
        clear hK K
        try simp only [Act.put, List.setIfInBounds_toArray, List.set_cons_zero, List.set_cons_succ]
        refine wpAnyH_ready (rs := [7]) (by kernel_rfl) (by simp) ?_
        refine AllReadyH.cons (o := { dst := some 17, op := Op.call { callee := Callee.value (Operand.func 10), args := #[Operand.tmp 16], argTypes := #[28] }, type := 4, pos := "law.go:195", after := #[{ on := 6, ground := Ground.data }, { on := 4, ground := Ground.chain }, { on := 4, ground := Ground.guard }], guard := some (4, false) }) rfl (fun K hK => ?_) AllReadyH.nil
        (go_simp; refine (HYF.out w2 P2.b).mono ?_; rintro e w3 ⟨rfl, bb⟩)
        refine hK.out _ _ ?_ (fun hHeld => ?_)
        · exact Pfx.step P2 bb
        clear hK K
        try simp only [Act.put, List.setIfInBounds_toArray, List.set_cons_zero, List.set_cons_succ]
        have P4 := hHeld
        refine wpAnyH_take (i := 8) (oi := { dst := some 18, op := Op.unOp UnOp.not 4 (Operand.tmp 17), type := 4, pos := "law.go:195", after := #[{ on := 7, ground := Ground.data }, { on := 4, ground := Ground.guard }], guard := some (4, false) }) (v := ?v19) rfl (by kernel_rfl) (by kernel_rfl) (by kernel_rfl) (fun _ _ _ h => h) (Or.inl ⟨by kernel_rfl, ?y19⟩) (by assumption) ?r19
        case y19 => (intro w hSw; (try dsimp only at hSw); (obtain ⟨a0, a1, a2, a3, a4⟩ := Pfx.cx hSw; obtain ⟨e0, e1, e2, e3, e4⟩ := Pfx.cy hSw); go_simp; try (with_reducible rfl))
        try simp only [Act.put, List.setIfInBounds_toArray, List.set_cons_zero, List.set_cons_succ]
        refine wpAnyH_take (i := 9) (oi := { dst := some 19, op := Op.pick (Operand.tmp 14) (Operand.const (Value.bool true)) (Operand.tmp 18), type := 4, pos := "law.go:195", after := #[{ on := 4, ground := Ground.data }, { on := 8, ground := Ground.data }], guard := none }) (v := ?v20) rfl (by kernel_rfl) (by kernel_rfl) (by kernel_rfl) (fun _ _ _ h => h) (Or.inl ⟨by kernel_rfl, ?y20⟩) (by assumption) ?r20
        case y20 => (intro w hSw; (try dsimp only at hSw); (obtain ⟨a0, a1, a2, a3, a4⟩ := Pfx.cx hSw; obtain ⟨e0, e1, e2, e3, e4⟩ := Pfx.cy hSw); go_simp; try (with_reducible rfl))
        try simp only [Act.put, List.setIfInBounds_toArray, List.set_cons_zero, List.set_cons_succ]
        refine wpAnyH_take (i := 10) (oi := { dst := some 20, op := Op.move (Operand.tmp 19), type := 4, pos := "law.go:195", after := #[{ on := 9, ground := Ground.data }, { on := 7, ground := Ground.chain }], guard := none }) (v := ?v21) rfl (by kernel_rfl) (by kernel_rfl) (by kernel_rfl) (fun _ _ _ h => h) (Or.inl ⟨by kernel_rfl, ?y21⟩) (by assumption) ?r21
        case y21 => (intro w hSw; (try dsimp only at hSw); (obtain ⟨a0, a1, a2, a3, a4⟩ := Pfx.cx hSw; obtain ⟨e0, e1, e2, e3, e4⟩ := Pfx.cy hSw); go_simp; try (with_reducible rfl))
        try simp only [Act.put, List.setIfInBounds_toArray, List.set_cons_zero, List.set_cons_succ]
        refine wpAnyH_take (i := 11) (oi := { dst := some 21, op := Op.load 25 (Operand.tmp 2), type := 25, pos := "law.go:195", after := #[{ on := 10, ground := Ground.guard }], guard := some (10, false) }) (v := ?v22) rfl (by kernel_rfl) (by kernel_rfl) (by kernel_rfl) (fun _ _ _ h => h) (Or.inl ⟨by kernel_rfl, ?y22⟩) (by assumption) ?r22
        case y22 => (intro w hSw; (try dsimp only at hSw); (obtain ⟨a0, a1, a2, a3, a4⟩ := Pfx.cx hSw; obtain ⟨e0, e1, e2, e3, e4⟩ := Pfx.cy hSw); go_simp; try (with_reducible rfl))
        try simp only [Act.put, List.setIfInBounds_toArray, List.set_cons_zero, List.set_cons_succ]
        refine wpAnyH_take (i := 13) (oi := { dst := some 23, op := Op.load 25 (Operand.tmp 3), type := 25, pos := "law.go:195", after := #[{ on := 10, ground := Ground.guard }], guard := some (10, false) }) (v := ?v23) rfl (by kernel_rfl) (by kernel_rfl) (by kernel_rfl) (fun _ _ _ h => h) (Or.inl ⟨by kernel_rfl, ?y23⟩) (by assumption) ?r23
        case y23 => (intro w hSw; (try dsimp only at hSw); (obtain ⟨a0, a1, a2, a3, a4⟩ := Pfx.cx hSw; obtain ⟨e0, e1, e2, e3, e4⟩ := Pfx.cy hSw); go_simp; try (with_reducible rfl))
        try simp only [Act.put, List.setIfInBounds_toArray, List.set_cons_zero, List.set_cons_succ]
        refine wpAnyH_ready (rs := [12]) (by kernel_rfl) (by simp) ?_
        refine AllReadyH.cons (o := { dst := some 22, op := Op.call { callee := Callee.value (Operand.func 23), args := #[Operand.tmp 21], argTypes := #[25] }, type := 3, pos := "law.go:195", after := #[{ on := 11, ground := Ground.data }, { on := 10, ground := Ground.chain }, { on := 10, ground := Ground.guard }], guard := some (10, false) }) rfl (fun K hK => ?_) AllReadyH.nil
        (go_simp; refine (HKX.out w3).mono ?_; rintro e w4 ⟨rfl, bb⟩)
        refine hK.out _ _ ?_ (fun hHeld => ?_)
        · exact Pfx.step P4 bb
        clear hK K
        try simp only [Act.put, List.setIfInBounds_toArray, List.set_cons_zero, List.set_cons_succ]
        have P5 := hHeld
        refine wpAnyH_ready (rs := [14]) (by kernel_rfl) (by simp) ?_
        refine AllReadyH.cons (o := { dst := some 24, op := Op.call { callee := Callee.value (Operand.func 23), args := #[Operand.tmp 23], argTypes := #[25] }, type := 3, pos := "law.go:195", after := #[{ on := 13, ground := Ground.data }, { on := 12, ground := Ground.chain }, { on := 10, ground := Ground.guard }], guard := some (10, false) }) rfl (fun K hK => ?_) AllReadyH.nil
        (go_simp; refine (HKY.out w4).mono ?_; rintro e w5 ⟨rfl, bb⟩)
        refine hK.out _ _ ?_ (fun hHeld => ?_)
        · exact Pfx.step P5 bb
        clear hK K
        try simp only [Act.put, List.setIfInBounds_toArray, List.set_cons_zero, List.set_cons_succ]
        have P6 := hHeld
        refine wpAnyH_take (i := 15) (oi := { dst := some 25, op := Op.binOp BinOp.neq 3 (Operand.tmp 22) (Operand.tmp 24) 3, type := 4, pos := "law.go:195", after := #[{ on := 12, ground := Ground.data }, { on := 14, ground := Ground.data }, { on := 10, ground := Ground.guard }], guard := some (10, false) }) (v := ?v24) rfl (by kernel_rfl) (by kernel_rfl) (by kernel_rfl) (fun _ _ _ h => h) (Or.inl ⟨by kernel_rfl, ?y24⟩) (by assumption) ?r24
        case y24 => (intro w hSw; (try dsimp only at hSw); (obtain ⟨a0, a1, a2, a3, a4⟩ := Pfx.cx hSw; obtain ⟨e0, e1, e2, e3, e4⟩ := Pfx.cy hSw); go_simp; try (with_reducible rfl))
        try simp only [Act.put, List.setIfInBounds_toArray, List.set_cons_zero, List.set_cons_succ]
        refine wpAnyH_take (i := 16) (oi := { dst := some 26, op := Op.pick (Operand.tmp 20) (Operand.const (Value.bool true)) (Operand.tmp 25), type := 4, pos := "law.go:195", after := #[{ on := 10, ground := Ground.data }, { on := 15, ground := Ground.data }], guard := none }) (v := ?v25) rfl (by kernel_rfl) (by kernel_rfl) (by kernel_rfl) (fun _ _ _ h => h) (Or.inl ⟨by kernel_rfl, ?y25⟩) (by assumption) ?r25
        case y25 => (intro w hSw; (try dsimp only at hSw); (obtain ⟨a0, a1, a2, a3, a4⟩ := Pfx.cx hSw; obtain ⟨e0, e1, e2, e3, e4⟩ := Pfx.cy hSw); go_simp; try (with_reducible rfl))
        try simp only [Act.put, List.setIfInBounds_toArray, List.set_cons_zero, List.set_cons_succ]
        refine wpAnyH_done (by kernel_rfl) ?_ _
        have P7 := P6.b
        clear hHeld P0 P2 P4 P5 P6
        go_wp2
        go_ret
        exact ⟨rfl, P7⟩
end Wr
end Go.Proofs.YtfdacinedbdncaaDoor
