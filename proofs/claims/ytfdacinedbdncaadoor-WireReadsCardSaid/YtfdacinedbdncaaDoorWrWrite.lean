/- missivelaw02.write, equal. -/
import Derived.Test.YtfdacinedbdncaaDoorWrSame
namespace Go.Proofs.YtfdacinedbdncaaDoor
open Go.RowKit
namespace Wr
theorem boxed {w w' : World} {o : Obj} (hb : Below (w.alloc o).heap.size (w.alloc o) w') : w'.heap[w.heap.size]? = (w.alloc o).heap[w.heap.size]? := hb.block _ (by simp)
theorem below_box {w w' : World} {o : Obj} (hb : Below (w.alloc o).heap.size (w.alloc o) w') : Below w.heap.size w w' := ((Below.refl w.heap.size w).alloc (Nat.le_refl _) o).trans (hb.mono (by simp))
theorem kd_cases (x : Vl) : x.kd = 0 ∨ x.kd = 1 ∨ x.kd = 2 ∨ x.kd = 3 ∨ x.kd = 4 := by unfold Vl.kd; omega
set_option maxRecDepth 100000 in
theorem write_0 (x : Vl) (p1 p2 : Option Addr) (c1 c2 : Nat) (w : World) (hli : LV vi w (.slice p1 x.li.length c1) x.li) (hlt : LV vs w (.slice p2 x.lt.length c2) x.lt) (ho : x.Ok) (hs : x.Small) (hE : Env w) (hk : x.kd = 0) :
    Calls Tryd.prog 40 #[.agg #[.int .i64 x.kind, .int .i64 x.n, .string (bs x.s), .slice p1 x.li.length c1, .slice p2 x.lt.length c2]] w fun e w' => e = .returned (.string (bs x.enc)) ∧ Below w.heap.size w w' := by
  have HK := Lib.hid (kind_any x.kind x.n (bs x.s) p1 p2 x.li.length x.lt.length c1 c2 (w.alloc (.cells #[.int .i64 x.kind, .int .i64 x.n, .string (bs x.s), .slice p1 x.li.length c1, .slice p2 x.lt.length c2] 25)))
  have hk' : x.kind % 5 = 0 := hk
  rw [hk'] at HK
  have henc : Hid (x.enc = enum (nneg x.n)) := by show _ = _; unfold Vl.enc; simp [hk]
  have hel := enc_len hs ho
  have HE : Hid (∀ w', Below w.heap.size w w' → Env w') := fun w' hb => hE.below hb hE.lt
  have HOK := Lib.hid ho
  have HSM := Lib.hid hs
  have HLI : Hid (∀ w', Below w.heap.size w w' → LV vi w' (.slice p1 x.li.length c1) x.li) := fun w' hb => hli.below hb (Nat.le_refl _)
  have HLT : Hid (∀ w', Below w.heap.size w w' → LV vs w' (.slice p2 x.lt.length c2) x.lt) := fun w' hb => hlt.below hb (Nat.le_refl _)
  have HLE := Lib.hid hel

  clear hk hk' hE ho hs hli hlt hel
  go_enter Tryd.func40, Tryd.ntmps40
  go_wp2_with fail
  refine HK.out.mono ?_
  rintro e w1 ⟨rfl, hb1⟩
  have hbx := (boxed hb1).trans (heap_alloc_new w _)
  have q1 : w1.cell? ⟨w.heap.size, 1, none⟩ = some (.int .i64 x.n) := by rw [Lib.cell_of_heap hbx]; rfl
  have q2 : w1.cell? ⟨w.heap.size, 2, none⟩ = some (.string (bs x.s)) := by rw [Lib.cell_of_heap hbx]; rfl
  have q3 : w1.cell? ⟨w.heap.size, 3, none⟩ = some (.slice p1 x.li.length c1) := by rw [Lib.cell_of_heap hbx]; rfl
  have q4 : w1.cell? ⟨w.heap.size, 4, none⟩ = some (.slice p2 x.lt.length c2) := by rw [Lib.cell_of_heap hbx]; rfl
  have B1 := Lib.hid (below_box hb1)
  clear hb1 hbx
  go_wp2_with fail
  refine (nneg_any x.n HOK.out.n w1).mono ?_
  rintro e w1' ⟨rfl, rfl⟩
  go_wp2_with fail
  refine (wNum_any (nneg x.n) (nneg_ok HOK.out.n).1 w1 (HE.out _ B1.out)).mono ?_
  rintro e w2 ⟨rfl, hb2⟩
  have B2 := Lib.hid (B1.out.trans (hb2.mono B1.out.size))
  clear hb2
  go_wp2
  go_ret
  rw [henc.out]
  exact ⟨rfl, B2.out⟩
set_option maxRecDepth 100000 in
theorem write_1 (x : Vl) (p1 p2 : Option Addr) (c1 c2 : Nat) (w : World) (hli : LV vi w (.slice p1 x.li.length c1) x.li) (hlt : LV vs w (.slice p2 x.lt.length c2) x.lt) (ho : x.Ok) (hs : x.Small) (hE : Env w) (hk : x.kd = 1) :
    Calls Tryd.prog 40 #[.agg #[.int .i64 x.kind, .int .i64 x.n, .string (bs x.s), .slice p1 x.li.length c1, .slice p2 x.lt.length c2]] w fun e w' => e = .returned (.string (bs x.enc)) ∧ Below w.heap.size w w' := by
  have HK := Lib.hid (kind_any x.kind x.n (bs x.s) p1 p2 x.li.length x.lt.length c1 c2 (w.alloc (.cells #[.int .i64 x.kind, .int .i64 x.n, .string (bs x.s), .slice p1 x.li.length c1, .slice p2 x.lt.length c2] 25)))
  have hk' : x.kind % 5 = 1 := hk
  rw [hk'] at HK
  have henc : Hid (x.enc = eint x.n) := by show _ = _; unfold Vl.enc; simp [hk]
  have hel := enc_len hs ho
  have HE : Hid (∀ w', Below w.heap.size w w' → Env w') := fun w' hb => hE.below hb hE.lt
  have HOK := Lib.hid ho
  have HSM := Lib.hid hs
  have HLI : Hid (∀ w', Below w.heap.size w w' → LV vi w' (.slice p1 x.li.length c1) x.li) := fun w' hb => hli.below hb (Nat.le_refl _)
  have HLT : Hid (∀ w', Below w.heap.size w w' → LV vs w' (.slice p2 x.lt.length c2) x.lt) := fun w' hb => hlt.below hb (Nat.le_refl _)
  have HLE := Lib.hid hel

  clear hk hk' hE ho hs hli hlt hel
  go_enter Tryd.func40, Tryd.ntmps40
  go_wp2_with fail
  refine HK.out.mono ?_
  rintro e w1 ⟨rfl, hb1⟩
  have hbx := (boxed hb1).trans (heap_alloc_new w _)
  have q1 : w1.cell? ⟨w.heap.size, 1, none⟩ = some (.int .i64 x.n) := by rw [Lib.cell_of_heap hbx]; rfl
  have q2 : w1.cell? ⟨w.heap.size, 2, none⟩ = some (.string (bs x.s)) := by rw [Lib.cell_of_heap hbx]; rfl
  have q3 : w1.cell? ⟨w.heap.size, 3, none⟩ = some (.slice p1 x.li.length c1) := by rw [Lib.cell_of_heap hbx]; rfl
  have q4 : w1.cell? ⟨w.heap.size, 4, none⟩ = some (.slice p2 x.lt.length c2) := by rw [Lib.cell_of_heap hbx]; rfl
  have B1 := Lib.hid (below_box hb1)
  clear hb1 hbx
  go_wp2_with fail
  refine (wInt_any x.n HOK.out.n w1 (HE.out _ B1.out)).mono ?_
  rintro e w2 ⟨rfl, hb2⟩
  have B2 := Lib.hid (B1.out.trans (hb2.mono B1.out.size))
  clear hb2
  go_wp2
  go_ret
  rw [henc.out]
  exact ⟨rfl, B2.out⟩
set_option maxRecDepth 100000 in
theorem write_2 (x : Vl) (p1 p2 : Option Addr) (c1 c2 : Nat) (w : World) (hli : LV vi w (.slice p1 x.li.length c1) x.li) (hlt : LV vs w (.slice p2 x.lt.length c2) x.lt) (ho : x.Ok) (hs : x.Small) (hE : Env w) (hk : x.kd = 2) :
    Calls Tryd.prog 40 #[.agg #[.int .i64 x.kind, .int .i64 x.n, .string (bs x.s), .slice p1 x.li.length c1, .slice p2 x.lt.length c2]] w fun e w' => e = .returned (.string (bs x.enc)) ∧ Below w.heap.size w w' := by
  have HK := Lib.hid (kind_any x.kind x.n (bs x.s) p1 p2 x.li.length x.lt.length c1 c2 (w.alloc (.cells #[.int .i64 x.kind, .int .i64 x.n, .string (bs x.s), .slice p1 x.li.length c1, .slice p2 x.lt.length c2] 25)))
  have hk' : x.kind % 5 = 2 := hk
  rw [hk'] at HK
  have henc : Hid (x.enc = etext x.s) := by show _ = _; unfold Vl.enc; simp [hk]
  have hel := enc_len hs ho
  have HE : Hid (∀ w', Below w.heap.size w w' → Env w') := fun w' hb => hE.below hb hE.lt
  have HOK := Lib.hid ho
  have HSM := Lib.hid hs
  have HLI : Hid (∀ w', Below w.heap.size w w' → LV vi w' (.slice p1 x.li.length c1) x.li) := fun w' hb => hli.below hb (Nat.le_refl _)
  have HLT : Hid (∀ w', Below w.heap.size w w' → LV vs w' (.slice p2 x.lt.length c2) x.lt) := fun w' hb => hlt.below hb (Nat.le_refl _)
  have HLE := Lib.hid hel

  clear hk hk' hE ho hs hli hlt hel
  go_enter Tryd.func40, Tryd.ntmps40
  go_wp2_with fail
  refine HK.out.mono ?_
  rintro e w1 ⟨rfl, hb1⟩
  have hbx := (boxed hb1).trans (heap_alloc_new w _)
  have q1 : w1.cell? ⟨w.heap.size, 1, none⟩ = some (.int .i64 x.n) := by rw [Lib.cell_of_heap hbx]; rfl
  have q2 : w1.cell? ⟨w.heap.size, 2, none⟩ = some (.string (bs x.s)) := by rw [Lib.cell_of_heap hbx]; rfl
  have q3 : w1.cell? ⟨w.heap.size, 3, none⟩ = some (.slice p1 x.li.length c1) := by rw [Lib.cell_of_heap hbx]; rfl
  have q4 : w1.cell? ⟨w.heap.size, 4, none⟩ = some (.slice p2 x.lt.length c2) := by rw [Lib.cell_of_heap hbx]; rfl
  have B1 := Lib.hid (below_box hb1)
  clear hb1 hbx
  go_wp2_with fail
  refine (wText_any (bs x.s) (by rw [bs_size]; have := HSM.out.s; omega) w1 (HE.out _ B1.out)).mono ?_
  rintro e w2 ⟨rfl, hb2⟩
  have B2 := Lib.hid (B1.out.trans (hb2.mono B1.out.size))
  clear hb2
  go_wp2
  go_ret
  rw [henc.out]
  exact ⟨rfl, B2.out⟩
set_option maxRecDepth 100000 in
theorem write_3 (x : Vl) (p1 p2 : Option Addr) (c1 c2 : Nat) (w : World) (hli : LV vi w (.slice p1 x.li.length c1) x.li) (hlt : LV vs w (.slice p2 x.lt.length c2) x.lt) (ho : x.Ok) (hs : x.Small) (hE : Env w) (hk : x.kd = 3) :
    Calls Tryd.prog 40 #[.agg #[.int .i64 x.kind, .int .i64 x.n, .string (bs x.s), .slice p1 x.li.length c1, .slice p2 x.lt.length c2]] w fun e w' => e = .returned (.string (bs x.enc)) ∧ Below w.heap.size w w' := by
  have HK := Lib.hid (kind_any x.kind x.n (bs x.s) p1 p2 x.li.length x.lt.length c1 c2 (w.alloc (.cells #[.int .i64 x.kind, .int .i64 x.n, .string (bs x.s), .slice p1 x.li.length c1, .slice p2 x.lt.length c2] 25)))
  have hk' : x.kind % 5 = 3 := hk
  rw [hk'] at HK
  have henc : Hid (x.enc = elist eint x.li) := by show _ = _; unfold Vl.enc; simp [hk]
  have hel := enc_len hs ho
  have HE : Hid (∀ w', Below w.heap.size w w' → Env w') := fun w' hb => hE.below hb hE.lt
  have HOK := Lib.hid ho
  have HSM := Lib.hid hs
  have HLI : Hid (∀ w', Below w.heap.size w w' → LV vi w' (.slice p1 x.li.length c1) x.li) := fun w' hb => hli.below hb (Nat.le_refl _)
  have HLT : Hid (∀ w', Below w.heap.size w w' → LV vs w' (.slice p2 x.lt.length c2) x.lt) := fun w' hb => hlt.below hb (Nat.le_refl _)
  have HLE := Lib.hid hel

  clear hk hk' hE ho hs hli hlt hel
  go_enter Tryd.func40, Tryd.ntmps40
  go_wp2_with fail
  refine HK.out.mono ?_
  rintro e w1 ⟨rfl, hb1⟩
  have hbx := (boxed hb1).trans (heap_alloc_new w _)
  have q1 : w1.cell? ⟨w.heap.size, 1, none⟩ = some (.int .i64 x.n) := by rw [Lib.cell_of_heap hbx]; rfl
  have q2 : w1.cell? ⟨w.heap.size, 2, none⟩ = some (.string (bs x.s)) := by rw [Lib.cell_of_heap hbx]; rfl
  have q3 : w1.cell? ⟨w.heap.size, 3, none⟩ = some (.slice p1 x.li.length c1) := by rw [Lib.cell_of_heap hbx]; rfl
  have q4 : w1.cell? ⟨w.heap.size, 4, none⟩ = some (.slice p2 x.lt.length c2) := by rw [Lib.cell_of_heap hbx]; rfl
  have B1 := Lib.hid (below_box hb1)
  clear hb1 hbx
  go_wp2_with fail
  refine (wNums_any _ x.li w1 (HLI.out _ B1.out) HOK.out.li (HE.out _ B1.out) (by have := HLE.out.2.1; omega)).mono ?_
  rintro e w2 ⟨rfl, hb2⟩
  have B2 := Lib.hid (B1.out.trans (hb2.mono B1.out.size))
  clear hb2
  go_wp2
  go_ret
  rw [henc.out]
  exact ⟨rfl, B2.out⟩
set_option maxRecDepth 100000 in
theorem write_4 (x : Vl) (p1 p2 : Option Addr) (c1 c2 : Nat) (w : World) (hli : LV vi w (.slice p1 x.li.length c1) x.li) (hlt : LV vs w (.slice p2 x.lt.length c2) x.lt) (ho : x.Ok) (hs : x.Small) (hE : Env w) (hk : x.kd = 4) :
    Calls Tryd.prog 40 #[.agg #[.int .i64 x.kind, .int .i64 x.n, .string (bs x.s), .slice p1 x.li.length c1, .slice p2 x.lt.length c2]] w fun e w' => e = .returned (.string (bs x.enc)) ∧ Below w.heap.size w w' := by
  have HK := Lib.hid (kind_any x.kind x.n (bs x.s) p1 p2 x.li.length x.lt.length c1 c2 (w.alloc (.cells #[.int .i64 x.kind, .int .i64 x.n, .string (bs x.s), .slice p1 x.li.length c1, .slice p2 x.lt.length c2] 25)))
  have hk' : x.kind % 5 = 4 := hk
  rw [hk'] at HK
  have henc : Hid (x.enc = elist etext x.lt) := by show _ = _; unfold Vl.enc; simp [hk]
  have hel := enc_len hs ho
  have HE : Hid (∀ w', Below w.heap.size w w' → Env w') := fun w' hb => hE.below hb hE.lt
  have HOK := Lib.hid ho
  have HSM := Lib.hid hs
  have HLI : Hid (∀ w', Below w.heap.size w w' → LV vi w' (.slice p1 x.li.length c1) x.li) := fun w' hb => hli.below hb (Nat.le_refl _)
  have HLT : Hid (∀ w', Below w.heap.size w w' → LV vs w' (.slice p2 x.lt.length c2) x.lt) := fun w' hb => hlt.below hb (Nat.le_refl _)
  have HLE := Lib.hid hel

  clear hk hk' hE ho hs hli hlt hel
  go_enter Tryd.func40, Tryd.ntmps40
  go_wp2_with fail
  refine HK.out.mono ?_
  rintro e w1 ⟨rfl, hb1⟩
  have hbx := (boxed hb1).trans (heap_alloc_new w _)
  have q1 : w1.cell? ⟨w.heap.size, 1, none⟩ = some (.int .i64 x.n) := by rw [Lib.cell_of_heap hbx]; rfl
  have q2 : w1.cell? ⟨w.heap.size, 2, none⟩ = some (.string (bs x.s)) := by rw [Lib.cell_of_heap hbx]; rfl
  have q3 : w1.cell? ⟨w.heap.size, 3, none⟩ = some (.slice p1 x.li.length c1) := by rw [Lib.cell_of_heap hbx]; rfl
  have q4 : w1.cell? ⟨w.heap.size, 4, none⟩ = some (.slice p2 x.lt.length c2) := by rw [Lib.cell_of_heap hbx]; rfl
  have B1 := Lib.hid (below_box hb1)
  clear hb1 hbx
  go_wp2_with fail
  refine (wTexts_any _ x.lt w1 (HLT.out _ B1.out) (fun t ht => by have := HSM.out.el t ht; omega) (HE.out _ B1.out) (by have := HLE.out.2.2; omega)).mono ?_
  rintro e w2 ⟨rfl, hb2⟩
  have B2 := Lib.hid (B1.out.trans (hb2.mono B1.out.size))
  clear hb2
  go_wp2
  go_ret
  rw [henc.out]
  exact ⟨rfl, B2.out⟩
theorem write_any (x : Vl) (p1 p2 : Option Addr) (c1 c2 : Nat) (w : World) (hli : LV vi w (.slice p1 x.li.length c1) x.li) (hlt : LV vs w (.slice p2 x.lt.length c2) x.lt) (ho : x.Ok) (hs : x.Small) (hE : Env w) :
    Calls Tryd.prog 40 #[.agg #[.int .i64 x.kind, .int .i64 x.n, .string (bs x.s), .slice p1 x.li.length c1, .slice p2 x.lt.length c2]] w fun e w' => e = .returned (.string (bs x.enc)) ∧ Below w.heap.size w w' := by
  rcases kd_cases x with h | h | h | h | h
  · exact write_0 x p1 p2 c1 c2 w hli hlt ho hs hE h
  · exact write_1 x p1 p2 c1 c2 w hli hlt ho hs hE h
  · exact write_2 x p1 p2 c1 c2 w hli hlt ho hs hE h
  · exact write_3 x p1 p2 c1 c2 w hli hlt ho hs hE h
  · exact write_4 x p1 p2 c1 c2 w hli hlt ho hs hE h
end Wr
end Go.Proofs.YtfdacinedbdncaaDoor
