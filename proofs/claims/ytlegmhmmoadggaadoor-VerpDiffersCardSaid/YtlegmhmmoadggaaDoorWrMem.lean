/- A reader in memory; what the calls of strconv want of the package-level variables; strconv.Itoa, strconv.Atoi as they are used here. -/
import Derived.Test.YtlegmhmmoadggaaDoorWrSpec
import Derived.Test.YtlegmhmmoadggaaDoorBldS
import Derived.Test.YtlegmhmmoadggaaDoorShelf
import Derived.Lib.SmallJoins
import Derived.Lib.AtoiErrMem
namespace Go.Proofs.YtlegmhmmoadggaaDoor
open Go.RowKit
namespace Wr
/-- the string of some bytes -/
abbrev bs (l : List UInt8) : ByteArray := ⟨l.toArray⟩
theorem bs_data (l : List UInt8) : (bs l).data.toList = l := rfl
theorem bs_size (l : List UInt8) : (bs l).size = l.length := by simp [ByteArray.size]
theorem bs_self (s : ByteArray) : bs s.data.toList = s := by simp
theorem neq_str {x y : ByteArray} (h : x.data.toList ≠ y.data.toList) : (!x.toList == y.toList) = true := by
  rw [ByteArray.toList_eq, ByteArray.toList_eq]; simpa using h
theorem eq_str_no {x y : ByteArray} (h : x.data.toList ≠ y.data.toList) : (x.toList == y.toList) = false := by
  rw [ByteArray.toList_eq, ByteArray.toList_eq]; simpa using h
/-- block b is a reader -/
def Rd (T : TypeId) (w : World) (b : Nat) (s : St) : Prop := w.heap[b]? = some (.cells #[.string (bs s.rest), .bool s.bad] T (0, 0))
namespace Rd
variable {T : TypeId} {w w' : World} {b : Nat} {s : St}
theorem lt (h : Rd T w b s) : b < w.heap.size := lt_block h
theorem c0 (h : Rd T w b s) : w.cell? ⟨b, 0, none⟩ = some (.string (bs s.rest)) := by rw [Lib.cell_of_heap h]; rfl
theorem c1 (h : Rd T w b s) : w.cell? ⟨b, 1, none⟩ = some (.bool s.bad) := by rw [Lib.cell_of_heap h]; rfl
theorem f0 (h : Rd T w b s) : w.frozen? ⟨b, 0, none⟩ = false := Lib.frozen_of_heap h 0
theorem f1 (h : Rd T w b s) : w.frozen? ⟨b, 1, none⟩ = false := Lib.frozen_of_heap h 1
theorem set0 (h : Rd T w b s) (l : List UInt8) : Rd T (w.setCell ⟨b, 0, none⟩ (.string (bs l))) b ⟨l, s.bad⟩ := by
  unfold Rd; rw [heap_setCell_same w b 0 _ T _ h]; rfl
theorem set1 (h : Rd T w b s) (x : Bool) : Rd T (w.setCell ⟨b, 1, none⟩ (.bool x)) b ⟨s.rest, x⟩ := by
  unfold Rd; rw [heap_setCell_same w b 1 _ T _ h]; rfl
theorem below (h : Rd T w b s) {B : Nat} (hb : Below B w w') (hB : b < B) : Rd T w' b s := (hb.block b hB).trans h
theorem fr (h : Rd T w b s) {S : Nat → Prop} (hf : Fr S w w') (hS : ¬ S b) : Rd T w' b s := (hf.block b h.lt hS).trans h
theorem drewN (h : Rd T w b s) (n : Nat) : Rd T (w.drewN n) b s := h
theorem drew (h : Rd T w b s) : Rd T w.drew b s := h
end Rd
theorem gTab : Tryd.prog.globalNamed "internal/strconv.uint64pow10" = some 5 := by kernel_rfl
/-- a bound of the numbers of the package-level variables that matter -/
def NG : Nat := max (max 5 2) 3 + 1
/-- the table of powers and the two errors lie as they should -/
structure Env (w : World) : Prop where
  tab : Lib.TabIs Tryd.prog w "internal/strconv.uint64pow10" .u64 Lib.pow10Tab
  syn : ∃ te pe, w.cell? ⟨2, 0, none⟩ = some (.iface te pe)
  rng : ∃ te pe, w.cell? ⟨3, 0, none⟩ = some (.iface te pe)
  lt : NG ≤ w.heap.size
namespace Env
variable {w w' : World}
theorem of_block (h : Env w) (hs : w.heap.size ≤ w'.heap.size) (hk : ∀ i, i < NG → w'.heap[i]? = w.heap[i]?) : Env w' := by
  refine ⟨?_, ?_, ?_, Nat.le_trans h.lt hs⟩
  · have e := h.tab
    unfold Lib.TabIs World.var? at e ⊢
    rw [gTab] at e ⊢
    simp only [Option.bind_some] at e ⊢
    rw [hk _ (by unfold NG; omega)]
    exact e
  · obtain ⟨te, pe, e⟩ := h.syn
    exact ⟨te, pe, (World.cell?_of_block (w := w) (a := ⟨2, 0, none⟩) (hk _ (by unfold NG; simp only; omega))).trans e⟩
  · obtain ⟨te, pe, e⟩ := h.rng
    exact ⟨te, pe, (World.cell?_of_block (w := w) (a := ⟨3, 0, none⟩) (hk _ (by unfold NG; simp only; omega))).trans e⟩
theorem below (h : Env w) {B : Nat} (hb : Below B w w') (hB : NG ≤ B) : Env w' := h.of_block hb.size fun i hi => hb.block i (by omega)
theorem fr (h : Env w) {S : Nat → Prop} (hf : Fr S w w') (hS : ∀ i, i < NG → ¬ S i) : Env w' := h.of_block hf.size fun i hi => hf.block i (Nat.lt_of_lt_of_le hi h.lt) (hS i hi)
theorem drew (h : Env w) : Env w.drew := ⟨h.tab, h.syn, h.rng, h.lt⟩
theorem drewN (h : Env w) (n : Nat) : Env (w.drewN n) := ⟨h.tab, h.syn, h.rng, h.lt⟩
end Env
theorem grow_below (w : World) (k : Nat) (os : Array Obj) : Below w.heap.size w (Sort.grow (w.drewN k) os) := by
  refine ⟨rfl, rfl, rfl, ?_, fun i hi => ?_⟩
  · simp [Sort.grow, World.drewN]
  · simp only [Sort.grow, World.drewN]
    rw [Array.getElem?_append_left hi]
theorem itoa_any (n : Int) (hn : I64 n) (w : World) (hE : Env w) :
    Calls Tryd.prog 34 #[.int .i64 n] w fun e w' => e = .returned (.string (bs (Lib.itoa n))) ∧ Below w.heap.size w w' :=
  (Tryd.strconv_Itoa n hn.1 hn.2 w hE.tab).mono fun _ _ ⟨he, k, os, hw⟩ => ⟨he, hw ▸ grow_below w k os⟩
theorem atoi_yes (s : ByteArray) (hs : s.size ≤ 1000) (n : Int) (h : dec s.data.toList = some n) (w : World) :
    Calls Tryd.prog 38 #[.string s] w fun e w' => e = .returned (.tuple #[.int .i64 n, .nilIface]) ∧ Below w.heap.size w w' := by
  have h' : Lib.atoiAll s.data.toList = .ok n := by obtain ⟨e, hn⟩ := dec_some h; rw [← e]; exact atoi_itoa n hn
  refine (Tryd.strconv_Atoi_ok s (by omega) n h' w).mono fun _ _ ⟨he, hw⟩ => ⟨he, ?_⟩
  rcases hw with rfl | ⟨t, rfl⟩
  · exact Below.refl _ _
  · exact Lib.bytesWorld_below _ _ _
/-- what Atoi answers where the string is no numeral as Itoa writes it -/
def AtoiNo (s : ByteArray) (w : World) (e : Ending) (w' : World) : Prop :=
  ((∃ n, e = .returned (.tuple #[.int .i64 n, .nilIface]) ∧ I64 n ∧ Lib.itoa n ≠ s.data.toList) ∨ (∃ n N, e = .returned (.tuple #[.int .i64 n, .iface 75 (.pointer (some ⟨N, 0, none⟩))]))) ∧ Below w.heap.size w w'
theorem atoi_no (s : ByteArray) (hs : s.size ≤ 1000) (h : dec s.data.toList = none) (w : World) (hE : Env w) :
    Calls Tryd.prog 38 #[.string s] w (AtoiNo s w) := by
  cases ha : Lib.atoiAll s.data.toList
  · rename_i n
    refine (Tryd.strconv_Atoi_ok s (by omega) n ha w).mono fun _ _ ⟨he, hw⟩ => ⟨.inl ⟨n, he, Lib.atoiAll_bounds ha, dec_none h n (Lib.atoiAll_bounds ha)⟩, ?_⟩
    rcases hw with rfl | ⟨t, rfl⟩
    · exact Below.refl _ _
    · exact Lib.bytesWorld_below _ _ _
  · obtain ⟨te, pe, hv⟩ := hE.syn
    exact (Any.strconv_Atoi_syntax Tryd.laysC172 s (by omega) ha _ w hv (.inr ⟨_, _, rfl⟩)).mono fun _ _ ⟨N, he, _, _, hb⟩ => ⟨.inr ⟨_, _, he⟩, hb⟩
  · obtain ⟨te, pe, hv⟩ := hE.rng
    exact (Tryd.strconv_Atoi_range s (by omega) ha _ w hv (.inr ⟨_, _, rfl⟩)).mono fun _ _ ⟨N, he, _, _, hb⟩ => ⟨.inr ⟨_, _, he⟩, hb⟩
/-- the first byte c of the first 21 bytes -/
theorem index_cut (c : UInt8) : ∀ (l : List UInt8), Lib.indexByte l c = match cutAt c l with | some (h, _) => (h.length : Int) | none => -1
  | [] => rfl
  | x :: r => by
    unfold Lib.indexByte cutAt
    by_cases hx : x = c
    · simp [hx]
    · rw [index_cut c r]
      simp only [hx, if_false, beq_iff_eq]
      cases cutAt c r with
      | none => rfl
      | some p =>
        obtain ⟨a, b⟩ := p
        show (if ((a.length : Int)) = -1 then (-1 : Int) else a.length + 1) = ((x :: a).length : Int)
        rw [if_neg (by omega)]; simp
theorem cut_take (c : UInt8) : ∀ (k : Nat) (l : List UInt8), cutAt c (l.take k) = match cutAt c l with | some (h, t) => if h.length < k then some (h, t.take (k - h.length - 1)) else none | none => none
  | 0, l => by
    rw [List.take_zero]
    cases h : cutAt c l with
    | none => rfl
    | some p => simp [cutAt]
  | k + 1, [] => rfl
  | k + 1, x :: r => by
    rw [List.take_succ_cons]
    unfold cutAt
    by_cases hx : x = c
    · simp [hx]
    · simp only [hx, if_false]
      rw [cut_take c k r]
      cases cutAt c r with
      | none => rfl
      | some p =>
        obtain ⟨a, b⟩ := p
        simp only [Option.map_some, List.length_cons]
        by_cases hk : a.length < k
        · rw [if_pos hk, if_pos (by omega)]; simp
        · rw [if_neg hk, if_neg (by omega)]; rfl
end Wr
end Go.Proofs.YtlegmhmmoadggaaDoor
