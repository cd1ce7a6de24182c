/- missiveref03.Sum: the plain laws of the blocks, and an append of four bytes. -/
import Derived.Test.YtmapodkdnbbjgaaDoorRefBlk
import Derived.Test.YtmapodkdnbbjgaaDoorRefShort
namespace Go.Proofs.YtmapodkdnbbjgaaDoor
open Go.RowKit Dg
/-- the state after q blocks of P -/
def runP (P : List UInt8) : Nat → St
  | 0 => iv
  | q + 1 => comp (runP P q) (chunk P (64 * q))
theorem run_runP (P : List UInt8) (n : Nat) : ∀ k, run n (runP P k) (P.drop (64 * k)) = runP P (k + n) := by
  induction n with
  | zero => intro k; rfl
  | succ n ih =>
    intro k
    show run n (comp (runP P k) ((P.drop (64 * k)).take 64)) ((P.drop (64 * k)).drop 64) = _
    rw [List.drop_drop, show 64 * k + 64 = 64 * (k + 1) by omega]
    have := ih (k + 1)
    rw [show k + 1 + n = k + (n + 1) by omega] at this
    exact this
theorem run_all (P : List UInt8) (n : Nat) : run n iv P = runP P n := by
  have := run_runP P n 0
  rw [Nat.zero_add, Nat.mul_zero, List.drop_zero] at this
  exact this
/-- the bytes of the state's first words -/
theorem bytes4_take (l : List UInt32) (i : Nat) (h : i < l.length) : (l.take (i + 1)).flatMap bytes4 = (l.take i).flatMap bytes4 ++ bytes4 (l.getD i 0) := by
  rw [List.take_succ_eq_append_getElem h, List.flatMap_append, List.getD_eq_getElem?_getD, List.getElem?_eq_getElem h]
  simp
theorem and255 (x d : Nat) (hx : x < 4294967296) : bits .and .i64 (((x / d : Nat)) : Int) 255 = ((UInt8.ofNat (x / d)).toNat : Int) := by
  have h := j64_and (x / d) 255 (Nat.lt_of_le_of_lt (Nat.div_le_self _ _) (by omega)) (by decide)
  rw [show (255 : Nat) = 2 ^ 8 - 1 from rfl, Nat.and_two_pow_sub_one_eq_mod] at h
  rw [UInt8.toNat_ofNat']
  exact h
theorem and4 (x : UInt32) : ∃ c1 c2 c3 c4 : UInt8, bytes4 x = [c1, c2, c3, c4] ∧ bits .and .i64 (v32 x / 16777216) 255 = (c1.toNat : Int) ∧ bits .and .i64 (v32 x / 65536) 255 = (c2.toNat : Int) ∧ bits .and .i64 (v32 x / 256) 255 = (c3.toNat : Int) ∧ bits .and .i64 (v32 x) 255 = (c4.toNat : Int) := by
  have hx := w32_lt x
  refine ⟨_, _, _, _, rfl, ?_, ?_, ?_, ?_⟩
  · exact and255 x.toNat 16777216 hx
  · exact and255 x.toNat 65536 hx
  · exact and255 x.toNat 256 hx
  · have := and255 x.toNat 1 hx; rw [Nat.div_one] at this; exact this
/-- 'append(s, a, b, c, d)' at bytes -/
theorem wpList_append_b4 {w : World} {ops : Array Oper} {rest : List Oper} {o : Oper} {a : Act} {Q : Exit → Act → World → Prop} (hgd : o.guard = none) (s x : Operand)
    (ho : o.op = .call { callee := .builtin .append, args := #[s, x], argTypes := #[50, 50] })
    (base : Nat) (v : Value) (n : Nat) (l : List UInt8) (hs : a.eval s = v) (hown : OB w base v n l)
    (b : Nat) (z1 z2 z3 z4 : Int) (c1 c2 c3 c4 : UInt8) (hz : Hid (z1 = (c1.toNat : Int) ∧ z2 = (c2.toNat : Int) ∧ z3 = (c3.toNat : Int) ∧ z4 = (c4.toNat : Int))) (hx : a.eval x = .slice (some ⟨b, 0, none⟩) 4 4) (hb : w.heap[b]? = some (.cells #[.int .u8 z1, .int .u8 z2, .int .u8 z3, .int .u8 z4] 5 (0, 0))) (h63 : n + 4 ≤ 4000000) (hbase : base ≤ w.heap.size)
    (h : ∀ v' w', OB w' base v' (n + 4) (l ++ [c1, c2, c3, c4]) → Below base w w' → wpList Tryd.prog ops Q rest (a.put o.dst v') w') : wpList Tryd.prog ops Q (o :: rest) a w := by
  obtain ⟨i0, hi, hz0, hz1, hz2⟩ := info_parts byte_info
  obtain ⟨e1, e2, e3, e4⟩ := hz.out
  subst e1 e2 e3 e4
  refine wpList_append_x hgd s x _ ho base 5 i0 (.int .u8 0) 1 1 Tryd.underlying50 hi hz0 hz1 hz2 rfl (by decide) v n (Lib.byteCells l) hs hown ⟨b, 0, none⟩ 4 4 [.int .u8 c1.toNat, .int .u8 c2.toNat, .int .u8 c3.toNat, .int .u8 c4.toNat] hx rfl (World.news_of_block (cs := #[.int .u8 c1.toNat, .int .u8 c2.toNat, .int .u8 c3.toNat, .int .u8 c4.toNat]) hb) (by simp [Value.oneCell']) (by unfold maxLen; omega) (by omega) hbase ?_
  intro v' w' h2 h3 h4 h5
  refine h v' w' ?_ ⟨h3.os, h3.tape, h3.output, h3.size, fun i hi => h3.block i (by omega) (fun e => by have := (Own.block_ge hown i e.symm).1; omega)⟩
  unfold OB
  rw [Lib.byteCells_append]; exact h2
end Go.Proofs.YtmapodkdnbbjgaaDoor
