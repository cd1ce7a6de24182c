/- missiveref03.k: the walk; an append of one word. -/
import Derived.Test.YtmapodkdnbbjgaaDoorRefUnhex
import Derived.Test.YtmapodkdnbbjgaaDoorRefBits
namespace Go.Proofs.YtmapodkdnbbjgaaDoor
open Go.RowKit Dg
/-- words that the call has gathered, as ints -/
def wcs (l : List UInt32) : List Value := l.map fun x => Value.int .i64 (v32 x)
def WI (w : World) (B : Nat) (v : Value) (n : Nat) (l : List UInt32) : Prop := Own w B 3 1 v n (wcs l)
theorem int_info : (Tryd.prog.info? 3).map (fun i => (i.zero, i.size, i.bytes)) = some (some (.int .i64 0), 1, 8) := by kernel_rfl
/-- 'append(s, x)' at words -/
theorem wpList_append_w1 {w : World} {ops : Array Oper} {rest : List Oper} {o : Oper} {a : Act} {Q : Exit → Act → World → Prop} (hgd : o.guard = none) (s x : Operand)
    (ho : o.op = .call { callee := .builtin .append, args := #[s, x], argTypes := #[49, 49] })
    (base : Nat) (v : Value) (n : Nat) (l : List UInt32) (hs : a.eval s = v) (hown : WI w base v n l)
    (b : Nat) (z : Int) (c : UInt32) (hz : Hid (z = v32 c)) (hx : a.eval x = .slice (some ⟨b, 0, none⟩) 1 1) (hb : w.heap[b]? = some (.cells #[.int .i64 z] 3 (0, 0))) (h63 : n + 1 ≤ 4000000) (hbase : base ≤ w.heap.size)
    (h : ∀ v' w', WI w' base v' (n + 1) (l ++ [c]) → Below base w w' → wpList Tryd.prog ops Q rest (a.put o.dst v') w') : wpList Tryd.prog ops Q (o :: rest) a w := by
  obtain ⟨i0, hi, hz0, hz1, hz2⟩ := info_parts int_info
  have hz' : z = v32 c := hz.out
  subst hz'
  refine wpList_append_x hgd s x _ ho base 3 i0 (.int .i64 0) 1 8 Tryd.underlying49 hi hz0 hz1 hz2 rfl (by decide) v n (wcs l) hs hown ⟨b, 0, none⟩ 1 1 [.int .i64 (v32 c)] hx rfl (World.news_of_block (cs := #[.int .i64 (v32 c)]) hb) (by simp [Value.oneCell']) (by unfold maxLen; omega) (by omega) hbase ?_
  intro v' w' h2 h3 h4 h5
  refine h v' w' ?_ ⟨h3.os, h3.tape, h3.output, h3.size, fun i hi => h3.block i (by omega) (fun e => by have := (Own.block_ge hown i e.symm).1; omega)⟩
  unfold WI wcs
  rw [List.map_append]; exact h2
theorem rk_any (w : World) :
    Calls Tryd.prog 53 #[] w fun e w' => e = .returned (.slice (some ⟨w.heap.size, 0, none⟩) 64 64) ∧ w' = w.alloc (.cells (wcs K).toArray 3) := by
  have e : (wcs K).toArray = (wcs K).toArray := rfl
  go_enter Tryd.func53, Tryd.ntmps53
  go_wp2
  go_ret
  exact ⟨rfl, rfl⟩
end Go.Proofs.YtmapodkdnbbjgaaDoor
