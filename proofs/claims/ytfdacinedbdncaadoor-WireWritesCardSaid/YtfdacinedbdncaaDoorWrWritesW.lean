/- missivelaw02.WireWrites. -/
import Derived.Test.YtfdacinedbdncaaDoorWrBackW
import Derived.Test.YtfdacinedbdncaaDoorWrOne
import Derived.Test.YtfdacinedbdncaaDoorWrRef2
namespace Go.Proofs.YtfdacinedbdncaaDoor
open Go.RowKit
namespace Wr
/-- the value is boxed at the block behind the call's world -/
structure Bx (x : Vl) (p1 p2 : Option Addr) (c1 c2 : Nat) (W w : World) : Prop where
  b : Below W.heap.size W w
  hx : w.heap[W.heap.size]? = some (.cells #[.int .i64 x.kind, .int .i64 x.n, .string (bs x.s), .slice p1 x.li.length c1, .slice p2 x.lt.length c2] 25 (0, 0))
namespace Bx
variable {x : Vl} {p1 p2 : Option Addr} {c1 c2 : Nat} {W w w' : World}
theorem step (h : Bx x p1 p2 c1 c2 W w) (hb : Below w.heap.size w w') : Bx x p1 p2 c1 c2 W w' := ⟨h.b.trans (hb.mono h.b.size), (hb.block _ (lt_block h.hx)).trans h.hx⟩
theorem drew (h : Bx x p1 p2 c1 c2 W w) : Bx x p1 p2 c1 c2 W w.drew := ⟨⟨h.b.os, h.b.tape, h.b.output, h.b.size, h.b.block⟩, h.hx⟩
theorem cx (h : Bx x p1 p2 c1 c2 W w) : w.cell? ⟨W.heap.size, 1, none⟩ = some (.int .i64 x.n) ∧ w.cell? ⟨W.heap.size, 2, none⟩ = some (.string (bs x.s)) ∧ w.cell? ⟨W.heap.size, 3, none⟩ = some (.slice p1 x.li.length c1) ∧ w.cell? ⟨W.heap.size, 4, none⟩ = some (.slice p2 x.lt.length c2) :=
  ⟨by rw [Lib.cell_of_heap h.hx]; rfl, by rw [Lib.cell_of_heap h.hx]; rfl, by rw [Lib.cell_of_heap h.hx]; rfl, by rw [Lib.cell_of_heap h.hx]; rfl⟩
theorem c0 (h : Bx x p1 p2 c1 c2 W w) : w.cell? ⟨W.heap.size, 0, none⟩ = some (.int .i64 x.kind) := by rw [Lib.cell_of_heap h.hx]; rfl
end Bx
set_option maxRecDepth 100000 in
set_option maxHeartbeats 8000000 in
theorem writes_walk (x : Vl) (p1 p2 : Option Addr) (c1 c2 : Nat) (W : World) (hxi : LV vi W (.slice p1 x.li.length c1) x.li) (hxt : LV vs W (.slice p2 x.lt.length c2) x.lt) (hx : x.Ok) (hE : Env W) :
    Calls Tryd.prog 3 #[.agg #[.int .i64 x.kind, .int .i64 x.n, .string (bs x.s), .slice p1 x.li.length c1, .slice p2 x.lt.length c2]] W fun e w' => e = .returned (.bool true) ∧ Below W.heap.size W w' := by
  have HES := head_steps hE
  have HEb : Hid (Env (W.alloc (.cells #[.int .i64 x.kind, .int .i64 x.n, .string (bs x.s), .slice p1 x.li.length c1, .slice p2 x.lt.length c2] 25))) := hE.below ((Below.refl W.heap.size W).alloc (Nat.le_refl _) _) hE.lt
  have HP : Hid (∀ w1, Below (W.alloc (.cells #[.int .i64 x.kind, .int .i64 x.n, .string (bs x.s), .slice p1 x.li.length c1, .slice p2 x.lt.length c2] 25)).heap.size (W.alloc (.cells #[.int .i64 x.kind, .int .i64 x.n, .string (bs x.s), .slice p1 x.li.length c1, .slice p2 x.lt.length c2] 25)) w1 → Bx x p1 p2 c1 c2 W w1) := fun w1 hb =>
    Bx.step (w := W.alloc (.cells #[.int .i64 x.kind, .int .i64 x.n, .string (bs x.s), .slice p1 x.li.length c1, .slice p2 x.lt.length c2] 25)) ⟨(Below.refl _ _).alloc (Nat.le_refl _) _, heap_alloc_new W _⟩ hb
  have HXI : Hid (∀ w', Below W.heap.size W w' → LV vi w' (.slice p1 x.li.length c1) x.li) := fun w' hb => hxi.below hb (Nat.le_refl _)
  have HXT : Hid (∀ w', Below W.heap.size W w' → LV vs w' (.slice p2 x.lt.length c2) x.lt) := fun w' hb => hxt.below hb (Nat.le_refl _)
  have HXO := Lib.hid hx
  clear hE hxi hxt hx
  go_enter Tryd.func3, Tryd.ntmps3
  go_wp2_with fail
  refine (small_any _ HEb.out).mono ?_
  rintro e w1 ⟨rfl, b1⟩
  have HP1 := Lib.hid (HP.out w1 b1)
  obtain ⟨a1, a2, a3, a4⟩ := HP1.out.cx
  have a0 := HP1.out.c0
  clear b1
  go_wp2_with fail
  refine (few_exact _ [x] _ (one_lvs1 (HXI.out _ HP1.out.b) (HXT.out _ HP1.out.b) HXO.out)).mono ?_
  rintro e w2 ⟨rfl, d, hw2⟩
  have HP2 : Hid (Bx x p1 p2 c1 c2 W w2) := by
    subst hw2
    have h := HP1.out.step ((Below.refl w1.heap.size w1).alloc (Nat.le_refl _) (.cells (vcells1 x p1 p2 c1 c2) 25))
    exact ⟨⟨h.b.os, h.b.tape, h.b.output, h.b.size, h.b.block⟩, h.hx⟩
  clear hw2 a0 a1 a2 a3 a4
  cases hf : fewB [x] with
  | false =>
    go_wp2
    go_ret
    exact ⟨rfl, HP2.out.b⟩
  | true =>
    have hs := (fewB_small hf).2 x (by simp)
    have hel := enc_len hs HXO.out
    have C1 : Hid (∀ W', Env W' → Calls Tryd.prog 11 #[.int .i64 x.n] W' fun e w' => e = .returned (.string (bs (enum x.n))) ∧ Below W'.heap.size W' w') := fun W' h => wNum_any x.n HXO.out.n W' h
    have R1 : Hid (∀ W', Calls Tryd.prog 12 #[.int .i64 x.n] W' fun e w' => e = .returned (.string (bs (enum x.n))) ∧ Below W'.heap.size W' w') := fun W' => rNum_any x.n HXO.out.n W'
    have C2 : Hid (∀ W', Env W' → Calls Tryd.prog 13 #[.int .i64 x.n] W' fun e w' => e = .returned (.string (bs (eint x.n))) ∧ Below W'.heap.size W' w') := fun W' h => wInt_any x.n HXO.out.n W' h
    have R2 : Hid (∀ W', Calls Tryd.prog 14 #[.int .i64 x.n] W' fun e w' => e = .returned (.string (bs (eint x.n))) ∧ Below W'.heap.size W' w') := fun W' => rInt_any x.n HXO.out.n W'
    have C3 : Hid (∀ W', Env W' → Calls Tryd.prog 15 #[.string (bs x.s)] W' fun e w' => e = .returned (.string (bs (etext x.s))) ∧ Below W'.heap.size W' w') := fun W' h => wText_any (bs x.s) (by rw [bs_size]; have := hs.s; omega) W' h
    have R3 : Hid (∀ W', Calls Tryd.prog 16 #[.string (bs x.s)] W' fun e w' => e = .returned (.string (bs (etext x.s))) ∧ Below W'.heap.size W' w') := fun W' => rText_any (bs x.s) (by rw [bs_size]; have := hs.s; omega) W'
    have C4 : Hid (∀ W', Below W.heap.size W W' → Calls Tryd.prog 17 #[.slice p1 x.li.length c1] W' fun e w' => e = .returned (.string (bs (elist eint x.li))) ∧ Below W'.heap.size W' w') := fun W' h => wNums_any _ x.li W' (HXI.out _ h) HXO.out.li (HES.out _ h) (by have := hel.2.1; omega)
    have R4 : Hid (∀ W', Below W.heap.size W W' → Calls Tryd.prog 18 #[.slice p1 x.li.length c1] W' fun e w' => e = .returned (.string (bs (elist eint x.li))) ∧ Below W'.heap.size W' w') := fun W' h => rNums_any _ x.li W' (HXI.out _ h) HXO.out.li (by have := hel.2.1; omega)
    have C5 : Hid (∀ W', Below W.heap.size W W' → Calls Tryd.prog 19 #[.slice p2 x.lt.length c2] W' fun e w' => e = .returned (.string (bs (elist etext x.lt))) ∧ Below W'.heap.size W' w') := fun W' h => wTexts_any _ x.lt W' (HXT.out _ h) (fun t ht => by have := hs.el t ht; omega) (HES.out _ h) (by have := hel.2.2; omega)
    have R5 : Hid (∀ W', Below W.heap.size W W' → Calls Tryd.prog 20 #[.slice p2 x.lt.length c2] W' fun e w' => e = .returned (.string (bs (elist etext x.lt))) ∧ Below W'.heap.size W' w') := fun W' h => rTexts_any _ x.lt W' (HXT.out _ h) (fun t ht => by have := hs.el t ht; omega) (by have := hel.2.2; omega)
    obtain ⟨Y1, hY1⟩ : ∃ Y, Y = bs (enum x.n) := ⟨_, rfl⟩
    obtain ⟨Y2, hY2⟩ : ∃ Y, Y = bs (eint x.n) := ⟨_, rfl⟩
    obtain ⟨Y3, hY3⟩ : ∃ Y, Y = bs (etext x.s) := ⟨_, rfl⟩
    obtain ⟨Y4, hY4⟩ : ∃ Y, Y = bs (elist eint x.li) := ⟨_, rfl⟩
    obtain ⟨Y5, hY5⟩ : ∃ Y, Y = bs (elist etext x.lt) := ⟨_, rfl⟩
    obtain ⟨XS, hXS⟩ : ∃ Y, Y = bs x.s := ⟨_, rfl⟩
    rw [← hY1] at C1 R1
    rw [← hY2] at C2 R2
    rw [← hXS, ← hY3] at C3 R3
    rw [← hY4] at C4 R4
    rw [← hY5] at C5 R5
    have HKS : Hid (∀ w', Bx x p1 p2 c1 c2 W w' → w'.cell? ⟨W.heap.size, 1, none⟩ = some (.int .i64 x.n) ∧ w'.cell? ⟨W.heap.size, 2, none⟩ = some (.string XS)) := fun w' h => ⟨h.cx.1, by rw [hXS]; exact h.cx.2.1⟩
    have HKT : Hid (∀ w', Bx x p1 p2 c1 c2 W w' → w'.cell? ⟨W.heap.size, 3, none⟩ = some (.slice p1 x.li.length c1) ∧ w'.cell? ⟨W.heap.size, 4, none⟩ = some (.slice p2 x.lt.length c2)) := fun w' h => h.cx.2.2
    clear hf hs hel hY1 hY2 hY3 hY4 hY5 hXS
    go_wp2_with fail
    have s0 : Bx x p1 p2 c1 c2 W w2.drew := HP2.out.drew
    go_region_held3 (fun w' => w'.cell? ⟨W.heap.size, 1, none⟩ = some (.int .i64 x.n) ∧ w'.cell? ⟨W.heap.size, 2, none⟩ = some (.string XS))
      (first | exact HKS.out _ (by assumption) | go_keep)
      ((first
        | (go_at_call 11; refine (C1.out _ (HES.out _ (Bx.b (by assumption)))).mono ?_; rintro e wa ⟨rfl, ba⟩; have sa : Bx x p1 p2 c1 c2 W wa := Bx.step (by assumption) ba; clear ba)
        | (go_at_call 12; refine (R1.out _).mono ?_; rintro e wb ⟨rfl, bb⟩; have sb : Bx x p1 p2 c1 c2 W wb := Bx.step (by assumption) bb; clear bb)
        | (go_at_call 13; refine (C2.out _ (HES.out _ (Bx.b (by assumption)))).mono ?_; rintro e wc ⟨rfl, bc⟩; have sc : Bx x p1 p2 c1 c2 W wc := Bx.step (by assumption) bc; clear bc)
        | (go_at_call 14; refine (R2.out _).mono ?_; rintro e wd ⟨rfl, bd⟩; have sd : Bx x p1 p2 c1 c2 W wd := Bx.step (by assumption) bd; clear bd)
        | (go_at_call 15; refine (C3.out _ (HES.out _ (Bx.b (by assumption)))).mono ?_; rintro e we ⟨rfl, be⟩; have se : Bx x p1 p2 c1 c2 W we := Bx.step (by assumption) be; clear be)
        | (go_at_call 16; refine (R3.out _).mono ?_; rintro e wf ⟨rfl, bf⟩; have sf : Bx x p1 p2 c1 c2 W wf := Bx.step (by assumption) bf; clear bf)))
    have HPF := Lib.hid sf
    clear s0 sa sb sc sd se sf
    go_wp2_with fail
    have s1 : Bx x p1 p2 c1 c2 W wf.drew := HPF.out.drew
    go_region_held3 (fun w' => w'.cell? ⟨W.heap.size, 3, none⟩ = some (.slice p1 x.li.length c1) ∧ w'.cell? ⟨W.heap.size, 4, none⟩ = some (.slice p2 x.lt.length c2))
      (first | exact HKT.out _ (by assumption) | go_keep)
      ((first
        | (go_at_call 17; refine (C4.out _ (Bx.b (by assumption))).mono ?_; rintro e wa ⟨rfl, ba⟩; have sa : Bx x p1 p2 c1 c2 W wa := Bx.step (by assumption) ba; clear ba)
        | (go_at_call 18; refine (R4.out _ (Bx.b (by assumption))).mono ?_; rintro e wb ⟨rfl, bb⟩; have sb : Bx x p1 p2 c1 c2 W wb := Bx.step (by assumption) bb; clear bb)
        | (go_at_call 19; refine (C5.out _ (Bx.b (by assumption))).mono ?_; rintro e wc ⟨rfl, bc⟩; have sc : Bx x p1 p2 c1 c2 W wc := Bx.step (by assumption) bc; clear bc)
        | (go_at_call 20; refine (R5.out _ (Bx.b (by assumption))).mono ?_; rintro e wd ⟨rfl, bd⟩; have sd : Bx x p1 p2 c1 c2 W wd := Bx.step (by assumption) bd; clear bd)))
    have HPG := Lib.hid sd
    clear s1 sa sb sc sd
    go_wp2
    go_ret
    exact ⟨rfl, HPG.out.b⟩
end Wr
end Go.Proofs.YtfdacinedbdncaaDoor
