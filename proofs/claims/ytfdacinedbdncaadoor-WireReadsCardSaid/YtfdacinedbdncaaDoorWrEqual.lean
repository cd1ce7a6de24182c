/- missivelaw02.equal. -/
import Derived.Test.YtfdacinedbdncaaDoorWrWrite
namespace Go.Proofs.YtfdacinedbdncaaDoor
open Go.RowKit
namespace Wr
/-- what equal needs: the reader, and a value that came in at W0 -/
structure EqIn (x : Vl) (p1 p2 : Option Addr) (c1 c2 b : Nat) (q : St) (W0 w : World) : Prop where
  hW : Below W0.heap.size W0 w
  hli : LV vi W0 (.slice p1 x.li.length c1) x.li
  hlt : LV vs W0 (.slice p2 x.lt.length c2) x.lt
  ok : x.Ok
  env : Env W0
  hb : W0.heap.size ≤ b
  rd : Rd 54 w b q
  qok : q.Ok
  len : q.rest.length ≤ 1000000000
/-- what equal does -/
def EqOut (x : Vl) (b : Nat) (q : St) (w : World) (e : Ending) (w' : World) : Prop :=
  e = .returned (.bool (x.rd q).1) ∧ Rd 54 w' b (x.rd q).2 ∧ Fr (· = b) w w'
namespace EqIn
variable {x : Vl} {p1 p2 : Option Addr} {c1 c2 b : Nat} {q : St} {W0 w w' : World}
theorem envs (h : EqIn x p1 p2 c1 c2 b q W0 w) (hb : Below W0.heap.size W0 w') : Env w' := h.env.below hb h.env.lt
theorem ng (h : EqIn x p1 p2 c1 c2 b q W0 w) : NG ≤ b := Nat.le_trans h.env.lt h.hb
end EqIn
theorem fr_below {W0 w w' : World} {b : Nat} (hW : Below W0.heap.size W0 w) (hb : W0.heap.size ≤ b) (hf : Fr (· = b) w w') : Below W0.heap.size W0 w' :=
  hW.trans (hf.below hW.size (fun i hi e => by omega))
theorem box_cell {w w1 w2 : World} {b j : Nat} {v : Value} (hb : b < w.heap.size) (h : w1.cell? ⟨w.heap.size, j, none⟩ = some v) (hf : Fr (· = b) w1 w2) : w2.cell? ⟨w.heap.size, j, none⟩ = some v :=
  (hf.cell (p := ⟨w.heap.size, j, none⟩) (cell_in (a := ⟨w.heap.size, j, none⟩) h) (by simp only; omega)).trans h
set_option maxRecDepth 100000 in
set_option maxHeartbeats 1000000 in
theorem equal_0 (x : Vl) (p1 p2 : Option Addr) (c1 c2 b : Nat) (q : St) (W0 w : World) (h : EqIn x p1 p2 c1 c2 b q W0 w) (hk : x.kd = 0) :
    Calls Tryd.prog 41 #[.pointer (some ⟨b, 0, none⟩), .agg #[.int .i64 x.kind, .int .i64 x.n, .string (bs x.s), .slice p1 x.li.length c1, .slice p2 x.lt.length c2]] w (EqOut x b q w) := by
  have HK := Lib.hid (kind_any x.kind x.n (bs x.s) p1 p2 x.li.length x.lt.length c1 c2 (w.alloc (.cells #[.int .i64 x.kind, .int .i64 x.n, .string (bs x.s), .slice p1 x.li.length c1, .slice p2 x.lt.length c2] 25)))
  have hk' : x.kind % 5 = 0 := hk
  rw [hk'] at HK
  have hres : Hid (x.rd q = ((rnum 59 0 q).1 == nneg x.n, (rnum 59 0 q).2)) := by show _ = _; unfold Vl.rd; simp [hk]
  have H := Lib.hid h
  have HBLT := Lib.hid h.rd.lt
  have HC : Hid (∀ W, Rd 54 W b q → Env W → Calls Tryd.prog 24 #[.pointer (some ⟨b, 0, none⟩)] W fun e w' => e = .returned (.int .i64 (rnum 59 0 q).1) ∧ Rd 54 w' b (rnum 59 0 q).2 ∧ Fr (· = b) W w') := fun W hr hE =>
    rdNum_any b q W hr hE (by have := h.len; omega)
  clear hk hk' h
  go_enter Tryd.func41, Tryd.ntmps41
  go_wp2_with fail
  refine HK.out.mono ?_
  rintro e w1 ⟨rfl, hb1⟩
  have hbx := (boxed hb1).trans (heap_alloc_new w _)
  have B1 := Lib.hid (below_box hb1)
  have BW : Hid (Below W0.heap.size W0 w1) := H.out.hW.trans (B1.out.mono H.out.hW.size)
  have R1 : Hid (Rd 54 w1 b q) := H.out.rd.below B1.out HBLT.out
  have F1 : Hid (Fr (· = b) w w1) := Fr.of_below B1.out
  have qc : w1.drew.cell? ⟨w.heap.size, 1, none⟩ = some (.int .i64 x.n) := by rw [show w1.drew.cell? ⟨w.heap.size, 1, none⟩ = w1.cell? ⟨w.heap.size, 1, none⟩ from rfl, Lib.cell_of_heap hbx]; rfl
  have rd1 : Rd 54 w1.drew b q := R1.out.drew
  have fr1 : Fr (· = b) w w1.drew := F1.out.drew
  clear hb1 hbx
  go_wp2_with fail
  go_region_held3 (fun w' => w'.cell? ⟨w.heap.size, 1, none⟩ = some (.int .i64 x.n)) (first | go_keep | assumption)
    ((first
      | (go_at_call 24; refine (HC.out _ rd1 (H.out.envs BW.out.drew)).mono ?_; rintro e wa ⟨rfl, ra, fa⟩; have qa : wa.cell? ⟨w.heap.size, 1, none⟩ = some (.int .i64 x.n) := box_cell HBLT.out qc fa; have RA := Lib.hid ra; have FA := Lib.hid (fr1.trans fa (fun _ _ e => e)); clear ra fa)
      | (go_at_call 55; refine (nneg_any x.n H.out.ok.n _).mono ?_; rintro e wb ⟨rfl, rfl⟩)))
  all_goals
    go_wp2
    go_ret
    rw [EqOut, hres.out]
    exact ⟨rfl, RA.out, FA.out⟩

set_option maxRecDepth 100000 in
set_option maxHeartbeats 1000000 in
theorem equal_1 (x : Vl) (p1 p2 : Option Addr) (c1 c2 b : Nat) (q : St) (W0 w : World) (h : EqIn x p1 p2 c1 c2 b q W0 w) (hk : x.kd = 1) :
    Calls Tryd.prog 41 #[.pointer (some ⟨b, 0, none⟩), .agg #[.int .i64 x.kind, .int .i64 x.n, .string (bs x.s), .slice p1 x.li.length c1, .slice p2 x.lt.length c2]] w (EqOut x b q w) := by
  have HK := Lib.hid (kind_any x.kind x.n (bs x.s) p1 p2 x.li.length x.lt.length c1 c2 (w.alloc (.cells #[.int .i64 x.kind, .int .i64 x.n, .string (bs x.s), .slice p1 x.li.length c1, .slice p2 x.lt.length c2] 25)))
  have hk' : x.kind % 5 = 1 := hk
  rw [hk'] at HK
  have hres : Hid (x.rd q = ((rint q).1 == x.n, (rint q).2)) := by show _ = _; unfold Vl.rd; simp [hk]
  have H := Lib.hid h
  have HBLT := Lib.hid h.rd.lt
  have HC : Hid (∀ W, Rd 54 W b q → Env W → Calls Tryd.prog 26 #[.pointer (some ⟨b, 0, none⟩)] W fun e w' => e = .returned (.int .i64 (rint q).1) ∧ Rd 54 w' b (rint q).2 ∧ Fr (· = b) W w') := fun W hr hE =>
    rdInt_any b q W hr hE (by have := h.len; omega)
  clear hk hk' h
  go_enter Tryd.func41, Tryd.ntmps41
  go_wp2_with fail
  refine HK.out.mono ?_
  rintro e w1 ⟨rfl, hb1⟩
  have hbx := (boxed hb1).trans (heap_alloc_new w _)
  have B1 := Lib.hid (below_box hb1)
  have BW : Hid (Below W0.heap.size W0 w1) := H.out.hW.trans (B1.out.mono H.out.hW.size)
  have R1 : Hid (Rd 54 w1 b q) := H.out.rd.below B1.out HBLT.out
  have F1 : Hid (Fr (· = b) w w1) := Fr.of_below B1.out
  have qc : w1.drew.cell? ⟨w.heap.size, 1, none⟩ = some (.int .i64 x.n) := by rw [show w1.drew.cell? ⟨w.heap.size, 1, none⟩ = w1.cell? ⟨w.heap.size, 1, none⟩ from rfl, Lib.cell_of_heap hbx]; rfl
  have rd1 : Rd 54 w1.drew b q := R1.out.drew
  have fr1 : Fr (· = b) w w1.drew := F1.out.drew
  clear hb1 hbx
  go_wp2_with fail
  go_region_held3 (fun w' => w'.cell? ⟨w.heap.size, 1, none⟩ = some (.int .i64 x.n)) (first | go_keep | assumption)
    ((first
      | (go_at_call 26; refine (HC.out _ rd1 (H.out.envs BW.out.drew)).mono ?_; rintro e wa ⟨rfl, ra, fa⟩; have qa : wa.cell? ⟨w.heap.size, 1, none⟩ = some (.int .i64 x.n) := box_cell HBLT.out qc fa; have RA := Lib.hid ra; have FA := Lib.hid (fr1.trans fa (fun _ _ e => e)); clear ra fa)))
  all_goals
    go_wp2
    go_ret
    rw [EqOut, hres.out]
    exact ⟨rfl, RA.out, FA.out⟩

set_option maxRecDepth 100000 in
set_option maxHeartbeats 1000000 in
theorem equal_2 (x : Vl) (p1 p2 : Option Addr) (c1 c2 b : Nat) (q : St) (W0 w : World) (h : EqIn x p1 p2 c1 c2 b q W0 w) (hk : x.kd = 2) :
    Calls Tryd.prog 41 #[.pointer (some ⟨b, 0, none⟩), .agg #[.int .i64 x.kind, .int .i64 x.n, .string (bs x.s), .slice p1 x.li.length c1, .slice p2 x.lt.length c2]] w (EqOut x b q w) := by
  have HK := Lib.hid (kind_any x.kind x.n (bs x.s) p1 p2 x.li.length x.lt.length c1 c2 (w.alloc (.cells #[.int .i64 x.kind, .int .i64 x.n, .string (bs x.s), .slice p1 x.li.length c1, .slice p2 x.lt.length c2] 25)))
  have hk' : x.kind % 5 = 2 := hk
  rw [hk'] at HK
  have hres : Hid (x.rd q = ((rtext q).1 == x.s, (rtext q).2)) := by show _ = _; unfold Vl.rd; simp [hk]
  have H := Lib.hid h
  have HBLT := Lib.hid h.rd.lt
  have HC : Hid (∀ W, Rd 54 W b q → Env W → Calls Tryd.prog 28 #[.pointer (some ⟨b, 0, none⟩)] W fun e w' => e = .returned (.string (bs (rtext q).1)) ∧ Rd 54 w' b (rtext q).2 ∧ Fr (· = b) W w') := fun W hr hE =>
    rdText_any b q W hr hE (by have := h.len; omega)
  clear hk hk' h
  go_enter Tryd.func41, Tryd.ntmps41
  go_wp2_with fail
  refine HK.out.mono ?_
  rintro e w1 ⟨rfl, hb1⟩
  have hbx := (boxed hb1).trans (heap_alloc_new w _)
  have B1 := Lib.hid (below_box hb1)
  have BW : Hid (Below W0.heap.size W0 w1) := H.out.hW.trans (B1.out.mono H.out.hW.size)
  have R1 : Hid (Rd 54 w1 b q) := H.out.rd.below B1.out HBLT.out
  have F1 : Hid (Fr (· = b) w w1) := Fr.of_below B1.out
  have qc : w1.drew.cell? ⟨w.heap.size, 2, none⟩ = some (.string (bs x.s)) := by rw [show w1.drew.cell? ⟨w.heap.size, 2, none⟩ = w1.cell? ⟨w.heap.size, 2, none⟩ from rfl, Lib.cell_of_heap hbx]; rfl
  have rd1 : Rd 54 w1.drew b q := R1.out.drew
  have fr1 : Fr (· = b) w w1.drew := F1.out.drew
  clear hb1 hbx
  go_wp2_with fail
  go_region_held3 (fun w' => w'.cell? ⟨w.heap.size, 2, none⟩ = some (.string (bs x.s))) (first | go_keep | assumption)
    ((first
      | (go_at_call 28; refine (HC.out _ rd1 (H.out.envs BW.out.drew)).mono ?_; rintro e wa ⟨rfl, ra, fa⟩; have qa : wa.cell? ⟨w.heap.size, 2, none⟩ = some (.string (bs x.s)) := box_cell HBLT.out qc fa; have RA := Lib.hid ra; have FA := Lib.hid (fr1.trans fa (fun _ _ e => e)); clear ra fa)))
  all_goals
    go_wp2
    go_ret
    rw [EqOut, hres.out]
    exact ⟨rfl, RA.out, FA.out⟩

set_option maxRecDepth 100000 in
set_option maxHeartbeats 1000000 in
theorem equal_3 (x : Vl) (p1 p2 : Option Addr) (c1 c2 b : Nat) (q : St) (W0 w : World) (h : EqIn x p1 p2 c1 c2 b q W0 w) (hk : x.kd = 3) :
    Calls Tryd.prog 41 #[.pointer (some ⟨b, 0, none⟩), .agg #[.int .i64 x.kind, .int .i64 x.n, .string (bs x.s), .slice p1 x.li.length c1, .slice p2 x.lt.length c2]] w (EqOut x b q w) := by
  have HK := Lib.hid (kind_any x.kind x.n (bs x.s) p1 p2 x.li.length x.lt.length c1 c2 (w.alloc (.cells #[.int .i64 x.kind, .int .i64 x.n, .string (bs x.s), .slice p1 x.li.length c1, .slice p2 x.lt.length c2] 25)))
  have hk' : x.kind % 5 = 3 := hk
  rw [hk'] at HK
  have hres : Hid (x.rd q = ((rlist rint q).1 == x.li, (rlist rint q).2)) := by show _ = _; unfold Vl.rd; simp [hk]
  have H := Lib.hid h
  have HBLT := Lib.hid h.rd.lt
  have HC : Hid (∀ W, Rd 54 W b q → Env W → Calls Tryd.prog 31 #[.pointer (some ⟨b, 0, none⟩)] W (Listsint b q W)) := fun W hr hE =>
    rdNums_any b q W hr h.qok hE h.ng h.len
  clear hk hk' h
  go_enter Tryd.func41, Tryd.ntmps41
  go_wp2_with fail
  refine HK.out.mono ?_
  rintro e w1 ⟨rfl, hb1⟩
  have hbx := (boxed hb1).trans (heap_alloc_new w _)
  have B1 := Lib.hid (below_box hb1)
  have BW : Hid (Below W0.heap.size W0 w1) := H.out.hW.trans (B1.out.mono H.out.hW.size)
  have R1 : Hid (Rd 54 w1 b q) := H.out.rd.below B1.out HBLT.out
  have F1 : Hid (Fr (· = b) w w1) := Fr.of_below B1.out
  have qc : w1.drew.cell? ⟨w.heap.size, 3, none⟩ = some (.slice p1 x.li.length c1) := by rw [show w1.drew.cell? ⟨w.heap.size, 3, none⟩ = w1.cell? ⟨w.heap.size, 3, none⟩ from rfl, Lib.cell_of_heap hbx]; rfl
  have rd1 : Rd 54 w1.drew b q := R1.out.drew
  have fr1 : Fr (· = b) w w1.drew := F1.out.drew
  clear hb1 hbx
  go_wp2_with fail
  go_region_held3 (fun w' => w'.cell? ⟨w.heap.size, 3, none⟩ = some (.slice p1 x.li.length c1)) (first | go_keep | assumption)
    ((first
      | (go_at_call 31; refine (HC.out _ rd1 (H.out.envs BW.out.drew)).mono ?_; rintro e wa ⟨va, rfl, oa, ra, fa⟩; have qa : wa.cell? ⟨w.heap.size, 3, none⟩ = some (.slice p1 x.li.length c1) := box_cell HBLT.out qc fa; have RA := Lib.hid ra; have FA := Lib.hid (fr1.trans fa (fun _ _ e => e)); have LA := Lib.hid (LV.of_own oa); have LB := Lib.hid (H.out.hli.below (fr_below H.out.hW H.out.hb FA.out) (Nat.le_refl _)); clear ra fa oa)
      | (go_at_call 30; refine (sameint_any _ _ _ _ _ LA.out LB.out).mono ?_; rintro e wb ⟨rfl, nb, rfl⟩)))
  all_goals
    go_wp2
    go_ret
    rw [EqOut, hres.out]
    exact ⟨rfl, RA.out.drewN nb, FA.out.drewN nb⟩

set_option maxRecDepth 100000 in
set_option maxHeartbeats 1000000 in
theorem equal_4 (x : Vl) (p1 p2 : Option Addr) (c1 c2 b : Nat) (q : St) (W0 w : World) (h : EqIn x p1 p2 c1 c2 b q W0 w) (hk : x.kd = 4) :
    Calls Tryd.prog 41 #[.pointer (some ⟨b, 0, none⟩), .agg #[.int .i64 x.kind, .int .i64 x.n, .string (bs x.s), .slice p1 x.li.length c1, .slice p2 x.lt.length c2]] w (EqOut x b q w) := by
  have HK := Lib.hid (kind_any x.kind x.n (bs x.s) p1 p2 x.li.length x.lt.length c1 c2 (w.alloc (.cells #[.int .i64 x.kind, .int .i64 x.n, .string (bs x.s), .slice p1 x.li.length c1, .slice p2 x.lt.length c2] 25)))
  have hk' : x.kind % 5 = 4 := hk
  rw [hk'] at HK
  have hres : Hid (x.rd q = ((rlist rtext q).1 == x.lt, (rlist rtext q).2)) := by show _ = _; unfold Vl.rd; simp [hk]
  have H := Lib.hid h
  have HBLT := Lib.hid h.rd.lt
  have HC : Hid (∀ W, Rd 54 W b q → Env W → Calls Tryd.prog 34 #[.pointer (some ⟨b, 0, none⟩)] W (Listsstring b q W)) := fun W hr hE =>
    rdTexts_any b q W hr h.qok hE h.ng h.len
  clear hk hk' h
  go_enter Tryd.func41, Tryd.ntmps41
  go_wp2_with fail
  refine HK.out.mono ?_
  rintro e w1 ⟨rfl, hb1⟩
  have hbx := (boxed hb1).trans (heap_alloc_new w _)
  have B1 := Lib.hid (below_box hb1)
  have BW : Hid (Below W0.heap.size W0 w1) := H.out.hW.trans (B1.out.mono H.out.hW.size)
  have R1 : Hid (Rd 54 w1 b q) := H.out.rd.below B1.out HBLT.out
  have F1 : Hid (Fr (· = b) w w1) := Fr.of_below B1.out
  have qc : w1.drew.cell? ⟨w.heap.size, 4, none⟩ = some (.slice p2 x.lt.length c2) := by rw [show w1.drew.cell? ⟨w.heap.size, 4, none⟩ = w1.cell? ⟨w.heap.size, 4, none⟩ from rfl, Lib.cell_of_heap hbx]; rfl
  have rd1 : Rd 54 w1.drew b q := R1.out.drew
  have fr1 : Fr (· = b) w w1.drew := F1.out.drew
  clear hb1 hbx
  go_wp2_with fail
  go_region_held3 (fun w' => w'.cell? ⟨w.heap.size, 4, none⟩ = some (.slice p2 x.lt.length c2)) (first | go_keep | assumption)
    ((first
      | (go_at_call 34; refine (HC.out _ rd1 (H.out.envs BW.out.drew)).mono ?_; rintro e wa ⟨va, rfl, oa, ra, fa⟩; have qa : wa.cell? ⟨w.heap.size, 4, none⟩ = some (.slice p2 x.lt.length c2) := box_cell HBLT.out qc fa; have RA := Lib.hid ra; have FA := Lib.hid (fr1.trans fa (fun _ _ e => e)); have LA := Lib.hid (LV.of_own oa); have LB := Lib.hid (H.out.hlt.below (fr_below H.out.hW H.out.hb FA.out) (Nat.le_refl _)); clear ra fa oa)
      | (go_at_call 33; refine (samestring_any _ _ _ _ _ LA.out LB.out).mono ?_; rintro e wb ⟨rfl, nb, rfl⟩)))
  all_goals
    go_wp2
    go_ret
    rw [EqOut, hres.out]
    exact ⟨rfl, RA.out.drewN nb, FA.out.drewN nb⟩

theorem equal_any (x : Vl) (p1 p2 : Option Addr) (c1 c2 b : Nat) (q : St) (W0 w : World) (h : EqIn x p1 p2 c1 c2 b q W0 w) :
    Calls Tryd.prog 41 #[.pointer (some ⟨b, 0, none⟩), .agg #[.int .i64 x.kind, .int .i64 x.n, .string (bs x.s), .slice p1 x.li.length c1, .slice p2 x.lt.length c2]] w (EqOut x b q w) := by
  rcases kd_cases x with hk | hk | hk | hk | hk
  · exact equal_0 x p1 p2 c1 c2 b q W0 w h hk
  · exact equal_1 x p1 p2 c1 c2 b q W0 w h hk
  · exact equal_2 x p1 p2 c1 c2 b q W0 w h hk
  · exact equal_3 x p1 p2 c1 c2 b q W0 w h hk
  · exact equal_4 x p1 p2 c1 c2 b q W0 w h hk
end Wr
end Go.Proofs.YtfdacinedbdncaaDoor
