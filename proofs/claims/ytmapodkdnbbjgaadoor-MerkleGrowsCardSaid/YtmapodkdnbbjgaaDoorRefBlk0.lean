/- missiveref03.block: the plain laws, and an append of a word within a region that draws its order. -/
import Derived.Test.YtmapodkdnbbjgaaDoorRefInts
import Derived.Test.YtmapodkdnbbjgaaDoorDigSched
import Derived.Test.YtmapodkdnbbjgaaDoorDigProc
import Derived.Test.YtmapodkdnbbjgaaDoorOwn2
namespace Go.Proofs.YtmapodkdnbbjgaaDoor
open Go.RowKit Dg
/-- 'append(s, x)' at words, at a step of a region that draws its order -/
theorem step_append_w1 {w : World} {ops : Array Oper} {o : Oper} {a : Act} {K : Act → World → Prop} {Q : Exit → Act → World → Prop} {E : Prop} (hgd : o.guard = none) (s x : Operand)
    (ho : o.op = .call { callee := .builtin .append, args := #[s, x], argTypes := #[49, 49] })
    (base : Nat) (v : Value) (n : Nat) (l : List UInt32) (hs : a.eval s = v) (hown : WI w base v n l)
    (b : Nat) (z : Int) (c : UInt32) (hz : Hid (z = v32 c)) (hx : a.eval x = .slice (some ⟨b, 0, none⟩) 1 1) (hb : w.heap[b]? = some (.cells #[.int .i64 z] 3 (0, 0))) (h63 : n + 1 ≤ 4000000) (hbase : base ≤ w.heap.size)
    (h : ∀ v' w', WI w' base v' (n + 1) (l ++ [c]) → Below base w w' → (∀ g i, v.ownBlock = some g → i < n → w'.cell? ⟨g, i, none⟩ = w.cell? ⟨g, i, none⟩) → K (a.put o.dst v') w') :
    if Region.wanted o (yielded ops a.tmps) = true then Oper.wp Tryd.prog o a w K Q else E := by
  obtain ⟨i0, hi, hz0, hz1, hz2⟩ := info_parts int_info
  have hz' : z = v32 c := hz.out
  subst hz'
  refine step_append_y hgd s x _ ho base 3 i0 (.int .i64 0) 1 8 Tryd.underlying49 hi hz0 hz1 hz2 rfl (by decide) v n (wcs l) hs hown ⟨b, 0, none⟩ 1 1 [.int .i64 (v32 c)] hx rfl (World.news_of_block (cs := #[.int .i64 (v32 c)]) hb) (by simp [Value.oneCell']) (by unfold maxLen; omega) (by omega) hbase ?_
  intro v' w' h2 h3 h4 h5 h6
  refine h v' w' ?_ ⟨h3.os, h3.tape, h3.output, h3.size, fun i hi => h3.block i (by omega) (fun e => by have := (Own.block_ge hown i e.symm).1; omega)⟩ (fun g i hg hi => h6 g i hg (by omega))
  unfold WI wcs
  rw [List.map_append]; exact h2
theorem WI.len {w : World} {B : Nat} {v : Value} {n : Nat} {l : List UInt32} (h : WI w B v n l) : l.length = n := by
  have := h.1; simpa [wcs] using this
theorem wcs_at (l : List UInt32) (i : Nat) (hi : i < l.length) : (wcs l)[i]? = some (.int .i64 (v32 (l.getD i 0))) := by
  simp [wcs, List.getD_eq_getElem?_getD, List.getElem?_eq_getElem hi]
/-- the shape of a slice of words that is not empty, and its cells -/
theorem WI.row {w : World} {B : Nat} {v : Value} {n : Nat} {l : List UInt32} (h : WI w B v n l) (hn : 0 < n) :
    ∃ g cap, v = .slice (some ⟨g, 0, none⟩) n cap ∧ B ≤ g ∧ g < w.heap.size ∧ n ≤ cap ∧ cap ≤ maxLen ∧ ∀ j, j < n → w.cell? ⟨g, j, none⟩ = some (.int .i64 (v32 (l.getD j 0))) := by
  obtain ⟨g, cap, h1, h2, h3, h4, h5, h6⟩ := Own.shape h hn
  have hl := WI.len h
  exact ⟨g, cap, h1, h2, h3, h4, h5, fun j hj => by rw [h6 j (by omega), wcs_at l j (by omega)]⟩
theorem OB.row {w : World} {B : Nat} {v : Value} {n : Nat} {l : List UInt8} (h : OB w B v n l) (hn : 0 < n) :
    ∃ g cap, v = .slice (some ⟨g, 0, none⟩) n cap ∧ B ≤ g ∧ g < w.heap.size ∧ n ≤ cap ∧ cap ≤ maxLen ∧ ∀ j, j < n → w.cell? ⟨g, j, none⟩ = some (.int .u8 (l.getD j 0).toNat) := by
  obtain ⟨g, cap, h1, h2, h3, h4, h5, h6⟩ := Own.shape h hn
  have hl := OB.len h
  exact ⟨g, cap, h1, h2, h3, h4, h5, fun j hj => by
    rw [h6 j (by omega)]; simp [Lib.byteCells, List.getD_eq_getElem?_getD, List.getElem?_eq_getElem (show j < l.length by omega)]⟩
theorem or_join (a b m i : Nat) (hm : m = 2 ^ i) (hb : b < m) : a * m ||| b = a * m + b := by
  subst hm; rw [Nat.mul_comm, Nat.two_pow_add_eq_or_of_lt hb]
/-- four bytes, put together as the code does -/
theorem or4 (a b c d : UInt8) : ∃ o1 o2 : Int, bits .or .i64 ((a.toNat : Int) * 16777216) ((b.toNat : Int) * 65536) = o1 ∧ bits .or .i64 o1 ((c.toNat : Int) * 256) = o2 ∧ bits .or .i64 o2 (d.toNat : Int) = v32 (be32 a b c d) := by
  have ha := w8_lt a; have hb := w8_lt b; have hc := w8_lt c; have hd := w8_lt d
  have e1 : a.toNat * 16777216 ||| b.toNat * 65536 = a.toNat * 16777216 + b.toNat * 65536 := or_join _ _ 16777216 24 (by decide) (by omega)
  have e2 : (a.toNat * 16777216 + b.toNat * 65536) ||| c.toNat * 256 = a.toNat * 16777216 + b.toNat * 65536 + c.toNat * 256 := by
    have := or_join (a.toNat * 256 + b.toNat) (c.toNat * 256) 65536 16 (by decide) (by omega)
    rw [show (a.toNat * 256 + b.toNat) * 65536 = a.toNat * 16777216 + b.toNat * 65536 by omega] at this; exact this
  have e3 : (a.toNat * 16777216 + b.toNat * 65536 + c.toNat * 256) ||| d.toNat = a.toNat * 16777216 + b.toNat * 65536 + c.toNat * 256 + d.toNat := by
    have := or_join (a.toNat * 65536 + b.toNat * 256 + c.toNat) d.toNat 256 8 (by decide) (by omega)
    rw [show (a.toNat * 65536 + b.toNat * 256 + c.toNat) * 256 = a.toNat * 16777216 + b.toNat * 65536 + c.toNat * 256 by omega] at this; exact this
  refine ⟨((a.toNat * 16777216 + b.toNat * 65536 : Nat) : Int), ((a.toNat * 16777216 + b.toNat * 65536 + c.toNat * 256 : Nat) : Int), ?_, ?_, ?_⟩
  · rw [← e1]; exact j64_or (a.toNat * 16777216) (b.toNat * 65536) (by omega) (by omega)
  · rw [← e2]; exact j64_or (a.toNat * 16777216 + b.toNat * 65536) (c.toNat * 256) (by omega) (by omega)
  · rw [be32, v32_of _ (by omega), show ((a.toNat * 256 + b.toNat) * 256 + c.toNat) * 256 + d.toNat = a.toNat * 16777216 + b.toNat * 65536 + c.toNat * 256 + d.toNat by omega, ← e3]
    exact j64_or (a.toNat * 16777216 + b.toNat * 65536 + c.toNat * 256) d.toNat (by omega) (by omega)
theorem or4_byte (a : UInt8) : IntKind.i64.wrap (a.toNat : Int) = (a.toNat : Int) := IntWalk.i64_in _ (by have := w8_lt a; omega)
theorem or4_sh (a : UInt8) : IntKind.i64.wrap ((a.toNat : Int) * 16777216) = (a.toNat : Int) * 16777216 ∧ IntKind.i64.wrap ((a.toNat : Int) * 65536) = (a.toNat : Int) * 65536 ∧ IntKind.i64.wrap ((a.toNat : Int) * 256) = (a.toNat : Int) * 256 := by
  have := w8_lt a
  exact ⟨IntWalk.i64_in _ (by omega), IntWalk.i64_in _ (by omega), IntWalk.i64_in _ (by omega)⟩
/-- the chunk of a message that a block begins at -/
def chunk (l : List UInt8) (t : Nat) : List UInt8 := (l.drop t).take 64
theorem chunk_at (l : List UInt8) (t i : Nat) (hi : i < 64) : (chunk l t).getD i 0 = l.getD (t + i) 0 := by
  simp [chunk, List.getD_eq_getElem?_getD, hi]
theorem chunk_word (l : List UInt8) (t k : Nat) (hk : k < 16) : wordAt (chunk l t) k = be32 (l.getD (t + 4 * k) 0) (l.getD (t + 4 * k + 1) 0) (l.getD (t + 4 * k + 2) 0) (l.getD (t + 4 * k + 3) 0) := by
  unfold wordAt
  rw [chunk_at _ _ _ (by omega), chunk_at _ _ _ (by omega), chunk_at _ _ _ (by omega), chunk_at _ _ _ (by omega)]
  rfl
/-- sums of words, as the code cuts them -/
theorem sum_word (n : Int) (x : UInt32) (h0 : 0 ≤ n) (h : n % 4294967296 = v32 x) (hb : n < 9223372036854775808) (w : World) :
    Calls Tryd.prog 52 #[.int .i64 n] w fun e w' => e = .returned (.int .i64 (v32 x)) ∧ w = w' := by
  obtain ⟨m, rfl⟩ := Int.eq_ofNat_of_zero_le h0
  refine (word_any m (by omega) w).mono fun e w' ⟨he, hw⟩ => ⟨he.trans ?_, hw⟩
  rw [← h]; rfl
theorem turn_lit (x : UInt32) (k : Int) (h : 0 < k.toNat ∧ k.toNat < 32 ∧ 0 ≤ k) (w : World) :
    Calls Tryd.prog 51 #[.int .i64 (v32 x), .int .i64 k] w fun e w' => e = .returned (.int .i64 (v32 (rotr x k.toNat))) ∧ ∃ m, w' = w.drewN m := by
  have := turn_any x k.toNat h.1 h.2.1 w
  rw [Int.toNat_of_nonneg h.2.2] at this
  exact this
theorem quiet_more {P : Program} {f : FuncId} {args : Array Value} {w : World} {n : Nat} {v : Value}
    (h : Calls P f args (w.drewN n) fun e w' => e = .returned v ∧ ∃ m, w' = (w.drewN n).drewN m) :
    Calls P f args (w.drewN n) fun e w'' => e = .returned v ∧ ∃ m, w'' = w.drewN m :=
  h.mono fun _ _ ⟨he, m, hm⟩ => ⟨he, n + m, by rw [hm, World.drewN_drewN]⟩
theorem WI.alloc {w : World} {B : Nat} {v : Value} {n : Nat} {l : List UInt32} (h : WI w B v n l) (o : Obj) : WI (w.alloc o) B v n l := Own.alloc h o
theorem WI.drewN {w : World} {B : Nat} {v : Value} {n : Nat} {l : List UInt32} (h : WI w B v n l) (k : Nat) : WI (w.drewN k) B v n l := Own.drewN h k
theorem WI.drew {w : World} {B : Nat} {v : Value} {n : Nat} {l : List UInt32} (h : WI w B v n l) : WI w.drew B v n l := Own.drew h
/-- 'append(s, x...)' at words -/
theorem wpList_append_ws {w : World} {ops : Array Oper} {rest : List Oper} {o : Oper} {a : Act} {Q : Exit → Act → World → Prop} (hgd : o.guard = none) (s x : Operand)
    (ho : o.op = .call { callee := .builtin .append, args := #[s, x], argTypes := #[49, 49] })
    (base : Nat) (v : Value) (n : Nat) (l : List UInt32) (hs : a.eval s = v) (hown : WI w base v n l)
    (g m c : Nat) (l2 : List UInt32) (hl2 : l2.length = m) (hx : a.eval x = .slice (some ⟨g, 0, none⟩) m c) (hc : ∀ j, j < m → w.cell? ⟨g, j, none⟩ = some (.int .i64 (v32 (l2.getD j 0)))) (h63 : n + m ≤ 4000000) (hbase : base ≤ w.heap.size)
    (h : ∀ v' w', WI w' base v' (n + m) (l ++ l2) → Below base w w' → wpList Tryd.prog ops Q rest (a.put o.dst v') w') : wpList Tryd.prog ops Q (o :: rest) a w := by
  obtain ⟨i0, hi, hz0, hz1, hz2⟩ := info_parts int_info
  refine wpList_append_x hgd s x _ ho base 3 i0 (.int .i64 0) 1 8 Tryd.underlying49 hi hz0 hz1 hz2 rfl (by decide) v n (wcs l) hs hown ⟨g, 0, none⟩ m c (wcs l2) hx (by simp [wcs, hl2]) (fun j u hu => ?_) (by intro u hu; simp only [wcs, List.mem_map] at hu; obtain ⟨_, _, rfl⟩ := hu; rfl) (by unfold maxLen; omega) (by omega) hbase ?_
  · have hj : j < m := by
      rcases Nat.lt_or_ge j m with h | h
      · exact h
      · rw [List.getElem?_eq_none (by simp [wcs]; omega)] at hu; cases hu
    have hadd : (⟨g, 0, none⟩ : Addr).add j = ⟨g, j, none⟩ := by unfold Addr.add; split <;> simp_all
    rw [hadd, hc j hj, ← wcs_at l2 j (by omega)]; exact hu
  · intro v' w' h2 h3 h4 h5
    refine h v' w' ?_ ⟨h3.os, h3.tape, h3.output, h3.size, fun i hi => h3.block i (by omega) (fun e => by have := (Own.block_ge hown i e.symm).1; omega)⟩
    unfold WI
    rw [show wcs (l ++ l2) = wcs l ++ wcs l2 by simp [wcs]]; exact h2
theorem WI.empty {w : World} {B g : Nat} (hg : w.heap[g]? = some (.cells #[] 3 (0, 0))) (hB : B ≤ g) : WI w B (.slice (some ⟨g, 0, none⟩) 0 0) 0 [] :=
  ⟨rfl, .inr ⟨g, 0, #[], (0, 0), rfl, hB, hg, .inl (Nat.zero_le _), Nat.le_refl _, Nat.zero_le _, rfl, rfl⟩⟩
theorem WI.made {w : World} {B g n : Nat} {l : List UInt32} (hl : l.length = n) (hn : n ≤ 4000000) (hg : w.heap[g]? = some (.cells (wcs l).toArray 3 (0, 0))) (hB : B ≤ g) : WI w B (.slice (some ⟨g, 0, none⟩) n n) n l :=
  ⟨by simp [wcs, hl], .inr ⟨g, n, _, (0, 0), rfl, hB, hg, .inl (Nat.zero_le _), Nat.le_refl _, by unfold maxLen; omega, by simp [wcs, hl], by rw [List.take_of_length_le (by simp [wcs, hl])]⟩⟩
theorem K_len : K.length = 64 := rfl
theorem v32_add2 (a b : UInt32) : (v32 a + v32 b) % 4294967296 = v32 (a + b) := add32 a b
theorem v32_add4 (a b c d : UInt32) : (v32 a + v32 b + v32 c + v32 d) % 4294967296 = v32 (a + b + c + d) := by
  rw [← add32 (a + b + c) d, ← add32 (a + b) c, ← add32 a b]; omega
theorem v32_add5 (a b c d e : UInt32) : (v32 a + v32 b + v32 c + v32 d + v32 e) % 4294967296 = v32 (a + b + c + d + e) := by
  rw [← add32 (a + b + c + d) e, ← v32_add4]; omega
theorem sum_in (n : Int) (h0 : 0 ≤ n) (hb : n < 100000000000) : IntKind.i64.wrap n = n := IntWalk.i64_in _ (by omega)
/-- a sum of two words, and of five, as the code makes them and cuts them -/
theorem word2 (a b : UInt32) : ∃ s : Int, IntKind.i64.wrap (v32 a + v32 b) = s ∧ ∀ W, Calls Tryd.prog 52 #[.int .i64 s] W fun e w' => e = .returned (.int .i64 (v32 (a + b))) ∧ W = w' := by
  have a1 := v32_0 a; have a2 := v32_lt a; have b1 := v32_0 b; have b2 := v32_lt b
  exact ⟨_, sum_in _ (by omega) (by omega), fun W => sum_word _ _ (by omega) (add32 a b) (by omega) W⟩
theorem word5 (a b c d e : UInt32) : ∃ s1 s2 s3 s4 : Int, IntKind.i64.wrap (v32 a + v32 b) = s1 ∧ IntKind.i64.wrap (s1 + v32 c) = s2 ∧ IntKind.i64.wrap (s2 + v32 d) = s3 ∧ IntKind.i64.wrap (s3 + v32 e) = s4 ∧
    ∀ W, Calls Tryd.prog 52 #[.int .i64 s4] W fun y w' => y = .returned (.int .i64 (v32 (a + b + c + d + e))) ∧ W = w' := by
  have a1 := v32_0 a; have a2 := v32_lt a; have b1 := v32_0 b; have b2 := v32_lt b; have c1 := v32_0 c; have c2 := v32_lt c
  have d1 := v32_0 d; have d2 := v32_lt d; have e1 := v32_0 e; have e2 := v32_lt e
  exact ⟨_, _, _, _, sum_in _ (by omega) (by omega), sum_in _ (by omega) (by omega), sum_in _ (by omega) (by omega), sum_in _ (by omega) (by omega), fun W => sum_word _ _ (by omega) (v32_add5 a b c d e) (by omega) W⟩
end Go.Proofs.YtmapodkdnbbjgaaDoor
