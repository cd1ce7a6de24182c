/- missiveref03.value, Unhex: the walks; an append of one byte. -/
import Derived.Test.YtmapodkdnbbjgaaDoorRefHex
namespace Go.Proofs.YtmapodkdnbbjgaaDoor
open Go.RowKit Dg
/-- 'append(s, x)' at bytes -/
theorem wpList_append_b1 {w : World} {ops : Array Oper} {rest : List Oper} {o : Oper} {a : Act} {Q : Exit → Act → World → Prop} (hgd : o.guard = none) (s x : Operand)
    (ho : o.op = .call { callee := .builtin .append, args := #[s, x], argTypes := #[50, 50] })
    (base : Nat) (v : Value) (n : Nat) (l : List UInt8) (hs : a.eval s = v) (hown : OB w base v n l)
    (b : Nat) (z : Int) (c : UInt8) (hz : Hid (z = (c.toNat : Int))) (hx : a.eval x = .slice (some ⟨b, 0, none⟩) 1 1) (hb : w.heap[b]? = some (.cells #[.int .u8 z] 5 (0, 0))) (h63 : n + 1 ≤ 4000000) (hbase : base ≤ w.heap.size)
    (h : ∀ v' w', OB w' base v' (n + 1) (l ++ [c]) → Below base w w' → wpList Tryd.prog ops Q rest (a.put o.dst v') w') : wpList Tryd.prog ops Q (o :: rest) a w := by
  obtain ⟨i0, hi, hz0, hz1, hz2⟩ := info_parts byte_info
  have hz' : z = (c.toNat : Int) := hz.out
  subst hz'
  refine wpList_append_x hgd s x _ ho base 5 i0 (.int .u8 0) 1 1 Tryd.underlying50 hi hz0 hz1 hz2 rfl (by decide) v n (Lib.byteCells l) hs hown ⟨b, 0, none⟩ 1 1 [.int .u8 (c.toNat : Int)] hx rfl (World.news_of_block (cs := #[.int .u8 (c.toNat : Int)]) hb) (by simp [Value.oneCell']) (by unfold maxLen; omega) (by omega) hbase ?_
  intro v' w' h2 h3 h4 h5
  exact h v' w' (OB.snoc h2) (below_own h3 hown hbase)
end Go.Proofs.YtmapodkdnbbjgaaDoor
