/- MerkleRoots: the plain law; hashed: the walk. -/
import Derived.Test.YtmapodkdnbbjgaaDoorMkRef2
import Derived.Test.YtmapodkdnbbjgaaDoorMkLaw1
namespace Go.Proofs.YtmapodkdnbbjgaaDoor
open Go.RowKit Mk Sl
/-- 'append' under a guard that holds -/
theorem wpList_append_g {w : World} {ops : Array Oper} {rest : List Oper} {o : Oper} {a : Act} {Q : Exit → Act → World → Prop} (hw : Region.wanted o (yielded ops a.tmps) = true) (s x : Operand)
    (ho : o.op = .call { callee := .builtin .append, args := #[s, x], argTypes := #[22, 22] })
    (B : Nat) (v : Value) (l l2 : List ByteArray) (hs : a.eval s = v) (hown : SO w B v l) (v2 : Value) (hx : a.eval x = v2) (h2 : SV w v2 l2) (h63 : l.length + l2.length ≤ 1000000) (hbase : B ≤ w.heap.size)
    (h : ∀ v' w', SO w' B v' (l ++ l2) → Below B w w' → w.grownBy w' v.ownBlock → wpList Tryd.prog ops Q rest (a.put o.dst v') w') : wpList Tryd.prog ops Q (o :: rest) a w := by
  obtain ⟨v', w', hr, h3, h4, h5⟩ := run_append w o.type B v l l2 hown v2 h2 h63 hbase
  refine wpList_step fun K hK => ?_
  rw [if_pos hw]
  unfold Oper.wp execOp
  simp only [ho, resolve, invoke, builtin, Sem.run_bind, Sem.run_pure, Result.andThen_ok, List.map_toArray, List.map_cons, List.map_nil, hs, hx, hr]
  exact hK _ _ (h v' w' h3 h4 h5)
theorem noclash {l : List ByteArray} (h : ¬ Clash l) : ∀ x ∈ l, ∀ y ∈ l, H x = H y → x = y := fun x hx y hy he => Classical.byContradiction fun hn => h ⟨x, hx, y, hy, hn, he⟩
theorem Clash.mono {l l' : List ByteArray} (h : Clash l) (hs : ∀ x ∈ l, x ∈ l') : Clash l' := by
  obtain ⟨a, ha, b, hb, h1, h2⟩ := h
  exact ⟨a, hs a ha, b, hs b hb, h1, h2⟩
theorem z0_inj {a b : ByteArray} (h : z0 ++ a = z0 ++ b) : a = b := by
  have := congrArg ByteArray.data h
  simp only [ByteArray.data_append] at this
  exact ByteArray.ext (Array.append_right_inj z0.data |>.1 this)
theorem z1_inj {a b c d : ByteArray} (hs : a.size = c.size) (h : z1 ++ a ++ b = z1 ++ c ++ d) : a = c ∧ b = d := by
  have h1 := congrArg (fun x : ByteArray => x.data.toList) h
  simp only [ByteArray.data_append, Array.toList_append, List.append_assoc] at h1
  have h2 := List.append_cancel_left h1
  have h3 : a.data.toList.length = c.data.toList.length := hs
  obtain ⟨h4, h5⟩ := List.append_inj h2 h3
  exact ⟨ByteArray.ext (Array.toList_inj.1 h4), ByteArray.ext (Array.toList_inj.1 h5)⟩
/-- all strings are hashes, as a proposition -/
def All32 (l : List ByteArray) : Prop := ∀ s ∈ l, s.size = 32
theorem All32.take {l : List ByteArray} (h : All32 l) (n : Nat) : All32 (l.take n) := fun s hs => h s (List.mem_of_mem_take hs)
theorem All32.drop {l : List ByteArray} (h : All32 l) (n : Nat) : All32 (l.drop n) := fun s hs => h s (List.mem_of_mem_drop hs)
theorem root_32 (l : List ByteArray) (h : All32 l) : (root l).size = 32 := by
  by_cases h2 : l.length < 2
  · rw [root, dif_pos h2]
    cases l with
    | nil => exact H_size _
    | cons x t => exact h x (by simp)
  · rw [root_step l (by omega), join_size]
theorem all32_leaves (l : List ByteArray) : All32 (l.map leaf) := by
  intro s hs
  obtain ⟨x, _, rfl⟩ := List.mem_map.1 hs
  exact leaf_size x
theorem roots_inj (S : List ByteArray) (hS : ¬ Clash S) (N : Nat) : ∀ a b : List ByteArray, a.length = b.length → a.length ≤ N → All32 a → All32 b → (∀ x ∈ inner a, x ∈ S) → (∀ x ∈ inner b, x ∈ S) → root a = root b → a = b := by
  induction N with
  | zero =>
    intro a b h1 h2 _ _ _ _ _
    rw [List.length_eq_zero_iff.1 (show a.length = 0 by omega), List.length_eq_zero_iff.1 (show b.length = 0 by omega)]
  | succ N ih =>
    intro a b h1 h2 ha hb hia hib hr
    by_cases h3 : 2 ≤ a.length
    · have hlt := split_lt a.length h3
      have hpos := split_pos a.length
      have ea := inner_step a h3
      have eb := inner_step b (by omega)
      rw [← h1] at eb
      rw [root_step a h3, root_step b (by omega), ← h1] at hr
      have hz := noclash hS _ (hia (z1 ++ root (a.take (split a.length)) ++ root (a.drop (split a.length))) (by rw [ea]; simp)) _ (hib (z1 ++ root (b.take (split a.length)) ++ root (b.drop (split a.length))) (by rw [eb]; simp)) hr
      obtain ⟨r1, r2⟩ := z1_inj (by rw [root_32 _ (ha.take _), root_32 _ (hb.take _)]) hz
      have t1 := ih _ _ (by rw [List.length_take, List.length_take, h1]) (by rw [List.length_take]; omega) (ha.take _) (hb.take _) (fun x hx => hia x (by rw [ea]; simp [hx])) (fun x hx => hib x (by rw [eb]; simp [hx])) r1
      have t2 := ih _ _ (by rw [List.length_drop, List.length_drop, h1]) (by rw [List.length_drop]; omega) (ha.drop _) (hb.drop _) (fun x hx => hia x (by rw [ea]; simp [hx])) (fun x hx => hib x (by rw [eb]; simp [hx])) r2
      rw [← List.take_append_drop (split a.length) a, ← List.take_append_drop (split a.length) b, t1, t2]
    · have hl : a.length = 0 ∨ a.length = 1 := by omega
      rcases hl with h0 | h0
      · rw [List.length_eq_zero_iff.1 h0, List.length_eq_zero_iff.1 (show b.length = 0 by omega)]
      · obtain ⟨x, rfl⟩ := List.length_eq_one_iff.1 h0
        obtain ⟨y, rfl⟩ := List.length_eq_one_iff.1 (show b.length = 1 by omega)
        rw [root_one, root_one] at hr
        rw [hr]
/-- the strings that are hashed for leaves -/
def hashedL (l m : List ByteArray) : List ByteArray := l.map (z0 ++ ·) ++ m.map (z0 ++ ·)
theorem leaves_inj (S : List ByteArray) (hS : ¬ Clash S) : ∀ l m : List ByteArray, (∀ x ∈ l, z0 ++ x ∈ S) → (∀ x ∈ m, z0 ++ x ∈ S) → l.map leaf = m.map leaf → l = m := by
  intro l
  induction l with
  | nil => intro m _ _ h; cases m with
    | nil => rfl
    | cons y m => simp at h
  | cons x l ih =>
    intro m h1 h2 h
    cases m with
    | nil => simp at h
    | cons y m =>
      simp only [List.map_cons, List.cons.injEq] at h
      have e := z0_inj (noclash hS _ (h1 x (by simp)) _ (h2 y (by simp)) h.1)
      rw [e, ih m (fun z hz => h1 z (by simp [hz])) (fun z hz => h2 z (by simp [hz])) h.2]
theorem roots_law (l m : List ByteArray) (hlen : l.length = m.length) (hr : root (l.map leaf) = root (m.map leaf)) (hne : l ≠ m) : Clash (inner (l.map leaf) ++ inner (m.map leaf) ++ hashedL l m) := by
  apply Classical.byContradiction
  intro hS
  have h := roots_inj _ hS (l.map leaf).length (l.map leaf) (m.map leaf) (by simp [hlen]) (Nat.le_refl _) (all32_leaves l) (all32_leaves m) (fun x hx => by simp [hx]) (fun x hx => by simp [hx]) hr
  exact hne (leaves_inj _ hS l m (fun x hx => by simp only [hashedL, List.mem_append, List.mem_map]; exact .inr (.inl ⟨x, hx, rfl⟩)) (fun x hx => by simp only [hashedL, List.mem_append, List.mem_map]; exact .inr (.inr ⟨x, hx, rfl⟩)) h)
theorem inner_short (k : Nat) (hk : 32 ≤ k) (N : Nat) : ∀ l : List ByteArray, l.length ≤ N → Short l k → Short (inner l) (1 + 2 * k) := by
  induction N with
  | zero => intro l h _ s hs; rw [inner_small _ (by omega)] at hs; cases hs
  | succ N ih =>
    intro l hl h
    by_cases h2 : 2 ≤ l.length
    · have h3 := split_lt l.length h2; have h4 := split_pos l.length
      rw [inner_step l h2]
      intro s hs
      rcases List.mem_append.1 hs with hs | hs
      · rcases List.mem_append.1 hs with hs | hs
        · exact ih _ (by rw [List.length_take]; omega) (h.take _) s hs
        · exact ih _ (by rw [List.length_drop]; omega) (h.drop _) s hs
      · simp only [List.mem_singleton] at hs
        subst hs
        have a1 := root_short _ k (h.take (split l.length)) hk
        have a2 := root_short _ k (h.drop (split l.length)) hk
        rw [ByteArray.size_append, ByteArray.size_append]
        show 1 + _ + _ ≤ _
        omega
    · rw [inner_small _ (by omega)]; intro s hs; cases hs
set_option maxHeartbeats 2000000 in
theorem hashed_any (l m : List ByteArray) (v u : Value) (w : World) (hv : SV w v l) (hu : SV w u m) (hl : l.length ≤ 1000) (hm : m.length ≤ 1000) (hS : Short l 1000) (hT : Short m 1000) :
    Calls Tryd.prog 31 #[v, u] w (Ret w (hashedL l m)) := by
  obtain ⟨p, cap, rfl, _, _⟩ := hv.shape
  obtain ⟨q, caq, rfl, _, _⟩ := hu.shape
  have HV := Lib.hid hv
  have HU := Lib.hid hu
  have HS := Lib.hid hS
  have HT := Lib.hid hT
  clear hv hu hS hT
  go_enter Tryd.func31, Tryd.ntmps31
  go_wp2
  go_loopw [5, 6] (fun u5 i wr => ∃ j : Nat, j ≤ l.length ∧ i = .int .i64 j ∧ SO wr w.heap.size u5 ((l.take j).map (z0 ++ ·)) ∧ Below w.heap.size w wr) (fun _ i _ => l.length - (intOf i).toNat)
  case atStart => exact ⟨0, Nat.zero_le _, rfl, SO.nil _ _, Below.refl _ _⟩
  case round =>
    obtain ⟨j, hj, rfl, ho, hb⟩ := hrel
    have HO := Lib.hid ho
    have HB := Lib.hid hb
    by_cases hlt : j < l.length
    · obtain ⟨g, o, c, hpv, hg, _, _, hc⟩ := HV.out.row (by omega)
      simp only [Value.slice.injEq, true_and] at hpv
      obtain ⟨rfl, rfl⟩ := hpv
      have c0 := (hb.cell (p := ⟨g, o + j, none⟩) hg).trans (hc j hlt)
      have e0 : l[j]'hlt = l.getD j ⟨#[]⟩ := by simp [List.getD_eq_getElem?_getD, List.getElem?_eq_getElem hlt]
      have hts : (l.take (j + 1)).map (z0 ++ ·) = (l.take j).map (z0 ++ ·) ++ [z0 ++ l.getD j ⟨#[]⟩] := by rw [List.take_succ_eq_append_getElem hlt, e0, List.map_append]; rfl
      have hxs : (l.getD j ⟨#[]⟩).size ≤ 1000 := HS.out.get j
      obtain ⟨x, hx⟩ : ∃ x, l.getD j ⟨#[]⟩ = x := ⟨_, rfl⟩
      rw [hx] at c0 hts hxs
      have e1 : (⟨#[0]⟩ : ByteArray) ++ x = z0 ++ x := rfl
      have HTk := Lib.hid hts
      have hlen : ((l.take j).map (z0 ++ ·)).length + 1 ≤ 1000000 := by simp; omega
      clear hc hx hts e0 ho hb
      go_wp2_with (at_builtin; refine wpList_append rfl _ _ rfl w.heap.size _ _ [z0 ++ x] rfl (HO.out.alloc _) _ rfl (SV.lit (g := wr.heap.size) [z0 ++ x] (by simp) (heap_alloc_new wr _)) hlen (by have := HB.out.size; simp; omega) ?_; intro v4 w4 ho4 hb4 _; have HO4 : Hid (SO w4 w.heap.size v4 ((l.take (j + 1)).map (z0 ++ ·))) := Lib.hid (by rw [HTk.out]; exact ho4); have HB4 : Hid (Below w.heap.size w w4) := Lib.hid ((HB.out.alloc HB.out.size _).trans hb4); clear ho4 hb4)
      go_roundw
      case rel => exact ⟨j + 1, by omega, by go_num, HO4.out, HB4.out⟩
      case measure => simp [intOf]; omega
    · have HF : Hid (SO wr w.heap.size u5 (l.map (z0 ++ ·))) := Lib.hid (by
        have h := ho
        rw [List.take_of_length_le (by omega)] at h; exact h)
      have hd : decide (j < l.length) = false := by simp; omega
      clear ho hb HO
      go_wp2
      obtain ⟨wo, hwo⟩ : ∃ y, y = wr := ⟨_, rfl⟩
      rw [← hwo] at HF HB
      rw [← hwo]
      clear hwo hj hlt
      go_loopw [5, 7] (fun u5 i wr => ∃ j : Nat, j ≤ m.length ∧ i = .int .i64 j ∧ SO wr w.heap.size u5 (l.map (z0 ++ ·) ++ (m.take j).map (z0 ++ ·)) ∧ Below w.heap.size w wr) (fun _ i _ => m.length - (intOf i).toNat)
      case atStart => exact ⟨0, Nat.zero_le _, rfl, by simpa using HF.out, HB.out⟩
      case round =>
        clear HF HB
        obtain ⟨j, hj, rfl, ho, hb⟩ := hrel
        have HO := Lib.hid ho
        have HB := Lib.hid hb
        by_cases hlt : j < m.length
        · obtain ⟨g, o, c, hpv, hg, _, _, hc⟩ := HU.out.row (by omega)
          simp only [Value.slice.injEq, true_and] at hpv
          obtain ⟨rfl, rfl⟩ := hpv
          have c0 := (hb.cell (p := ⟨g, o + j, none⟩) hg).trans (hc j hlt)
          have e0 : m[j]'hlt = m.getD j ⟨#[]⟩ := by simp [List.getD_eq_getElem?_getD, List.getElem?_eq_getElem hlt]
          have hts : l.map (z0 ++ ·) ++ (m.take (j + 1)).map (z0 ++ ·) = (l.map (z0 ++ ·) ++ (m.take j).map (z0 ++ ·)) ++ [z0 ++ m.getD j ⟨#[]⟩] := by rw [List.take_succ_eq_append_getElem hlt, e0, List.map_append, List.append_assoc]; rfl
          have hxs : (m.getD j ⟨#[]⟩).size ≤ 1000 := HT.out.get j
          obtain ⟨x, hx⟩ : ∃ x, m.getD j ⟨#[]⟩ = x := ⟨_, rfl⟩
          rw [hx] at c0 hts hxs
          have e1 : (⟨#[0]⟩ : ByteArray) ++ x = z0 ++ x := rfl
          have HTk := Lib.hid hts
          have hlen : (l.map (z0 ++ ·) ++ (m.take j).map (z0 ++ ·)).length + 1 ≤ 1000000 := by simp; omega
          clear hc hx hts e0 ho hb
          go_wp2_with (at_builtin; refine wpList_append rfl _ _ rfl w.heap.size _ _ [z0 ++ x] rfl (HO.out.alloc _) _ rfl (SV.lit (g := wr.heap.size) [z0 ++ x] (by simp) (heap_alloc_new wr _)) hlen (by have := HB.out.size; simp; omega) ?_; intro v4 w4 ho4 hb4 _; have HO4 : Hid (SO w4 w.heap.size v4 (l.map (z0 ++ ·) ++ (m.take (j + 1)).map (z0 ++ ·))) := Lib.hid (by rw [HTk.out]; exact ho4); have HB4 : Hid (Below w.heap.size w w4) := Lib.hid ((HB.out.alloc HB.out.size _).trans hb4); clear ho4 hb4)
          go_roundw
          case rel => exact ⟨j + 1, by omega, by go_num, HO4.out, HB4.out⟩
          case measure => simp [intOf]; omega
        · have HFn : Hid (SO wr w.heap.size u5 (hashedL l m)) := Lib.hid (by
            have h := ho
            rw [List.take_of_length_le (by omega)] at h; exact h)
          clear ho hb HO
          go_wp2
          go_ret
          exact ⟨_, rfl, HFn.out, HB.out⟩
end Go.Proofs.YtmapodkdnbbjgaaDoor
