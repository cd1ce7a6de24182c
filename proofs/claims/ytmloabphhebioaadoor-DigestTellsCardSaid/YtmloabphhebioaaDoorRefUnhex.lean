/- missiveref03.value, Unhex: the walks; an append of one byte. -/
import Derived.Test.YtmloabphhebioaaDoorRefHex
namespace Go.Proofs.YtmloabphhebioaaDoor
open Go.RowKit Dg
theorem ix_val (c : UInt8) : ixB hexDigits c = if 48 ≤ c.toNat ∧ c.toNat ≤ 57 then (c.toNat : Int) - 48 else if 97 ≤ c.toNat ∧ c.toNat ≤ 102 then (c.toNat : Int) - 97 + 10 else -1 := by
  have h : ∀ n : Fin 256, ixB hexDigits (UInt8.ofNat n.val) = if 48 ≤ n.val ∧ n.val ≤ 57 then (n.val : Int) - 48 else if 97 ≤ n.val ∧ n.val ≤ 102 then (n.val : Int) - 97 + 10 else -1 := by decide +kernel
  have := h ⟨c.toNat, c.toNat_lt⟩
  simpa using this
theorem rvalue_any (c : UInt8) (w : World) :
    Calls Tryd.prog 35 #[.int .u8 c.toNat] w fun e w' => e = .returned (.int .i64 (ixB hexDigits c)) ∧ w = w' := by
  have hc := w8_lt c
  rw [ix_val]
  obtain ⟨n, hn⟩ : ∃ n, c.toNat = n := ⟨_, rfl⟩
  rw [hn] at hc ⊢
  clear hn
  by_cases h1 : 48 ≤ n
  · by_cases h2 : n ≤ 57
    · rw [if_pos ⟨h1, h2⟩]
      go_enter Tryd.func35, Tryd.ntmps35
      go_wp2
      go_ret
      exact ⟨rfl, rfl⟩
    · rw [if_neg (fun h => h2 h.2)]
      by_cases h3 : 97 ≤ n
      · by_cases h4 : n ≤ 102
        · rw [if_pos ⟨h3, h4⟩]
          go_enter Tryd.func35, Tryd.ntmps35
          go_wp2
          go_ret
          exact ⟨rfl, rfl⟩
        · rw [if_neg (fun h => h4 h.2)]
          go_enter Tryd.func35, Tryd.ntmps35
          go_wp2
          go_ret
          exact ⟨rfl, rfl⟩
      · rw [if_neg (fun h => h3 h.1)]
        go_enter Tryd.func35, Tryd.ntmps35
        go_wp2
        go_ret
        exact ⟨rfl, rfl⟩
  · rw [if_neg (fun h => h1 h.1), if_neg (fun h => h1 (by omega))]
    go_enter Tryd.func35, Tryd.ntmps35
    go_wp2
    go_ret
    exact ⟨rfl, rfl⟩
/-- 'append(s, x)' at bytes -/
theorem wpList_append_b1 {w : World} {ops : Array Oper} {rest : List Oper} {o : Oper} {a : Act} {Q : Exit → Act → World → Prop} (hgd : o.guard = none) (s x : Operand)
    (ho : o.op = .call { callee := .builtin .append, args := #[s, x], argTypes := #[30, 30] })
    (base : Nat) (v : Value) (n : Nat) (l : List UInt8) (hs : a.eval s = v) (hown : OB w base v n l)
    (b : Nat) (z : Int) (c : UInt8) (hz : Hid (z = (c.toNat : Int))) (hx : a.eval x = .slice (some ⟨b, 0, none⟩) 1 1) (hb : w.heap[b]? = some (.cells #[.int .u8 z] 5 (0, 0))) (h63 : n + 1 ≤ 4000000) (hbase : base ≤ w.heap.size)
    (h : ∀ v' w', OB w' base v' (n + 1) (l ++ [c]) → Below base w w' → wpList Tryd.prog ops Q rest (a.put o.dst v') w') : wpList Tryd.prog ops Q (o :: rest) a w := by
  obtain ⟨i0, hi, hz0, hz1, hz2⟩ := info_parts byte_info
  have hz' : z = (c.toNat : Int) := hz.out
  subst hz'
  refine wpList_append_x hgd s x _ ho base 5 i0 (.int .u8 0) 1 1 Tryd.underlying30 hi hz0 hz1 hz2 rfl (by decide) v n (Lib.byteCells l) hs hown ⟨b, 0, none⟩ 1 1 [.int .u8 (c.toNat : Int)] hx rfl (World.news_of_block (cs := #[.int .u8 (c.toNat : Int)]) hb) (by simp [Value.oneCell']) (by unfold maxLen; omega) (by omega) hbase ?_
  intro v' w' h2 h3 h4 h5
  exact h v' w' (OB.snoc h2) (below_own h3 hown hbase)
set_option maxHeartbeats 1000000 in
theorem runhex_any (s : ByteArray) (w : World) (hs : s.size ≤ 1000000) :
    Calls Tryd.prog 19 #[.string s] w fun e w' => e = .returned (optS (unhexL s.data.toList)) ∧ Below w.heap.size w w' := by
  by_cases hodd : s.size % 2 = 1
  · have h1 : ((s.size : Int) % 2 == 1) = true := by simp; omega
    have HU := Lib.hid (unhexL_odd s.data.toList (by simpa using hodd))
    clear hodd
    go_enter Tryd.func19, Tryd.ntmps19
    go_wp2
    go_ret2
    exact ⟨by rw [HU.out]; rfl, Below.refl _ _⟩
  · have h1 : ((s.size : Int) % 2 == 1) = false := by simp; omega
    go_enter Tryd.func19, Tryd.ntmps19
    go_wp2
    go_loopw [4, 5, 6, 7] (fun v i _ _ wr => ∃ (k : Nat) (o : List UInt8), 2 * k ≤ s.size ∧ i = .int .i64 (2 * k : Nat) ∧ Hid (unhexL s.data.toList = (unhexL (s.data.toList.drop (2 * k))).map (o ++ ·)) ∧ OB wr w.heap.size v k o ∧ Below w.heap.size w wr) (fun _ i _ _ _ => s.size - (intOf i).toNat)
    case atStart => exact ⟨0, [], Nat.zero_le _, rfl, by show _ = _; simp, Own.nil _ _ _ _, Below.refl _ _⟩
    case round =>
      obtain ⟨k, o, hk, rfl, HU, hB, hb⟩ := hrel
      have HO := Lib.hid hB
      have HB := Lib.hid hb
      clear hB hb h1
      by_cases hlt : 2 * k < s.size
      · have hlt2 : 2 * k + 1 < s.size := by omega
        have HD := Lib.hid (drop_two s (2 * k) hlt2)
        have i1 : 2 * (k : Int) < (s.size : Int) := by omega
        have i2 : 2 * (k : Int) + 1 < (s.size : Int) := by omega
        have i3 : 0 ≤ 2 * (k : Int) := by omega
        have i4 : 0 ≤ 2 * (k : Int) + 1 := by omega
        have ha := ixB_idx hexDigits s[2 * k]
        have hc := ixB_idx hexDigits s[2 * k + 1]
        have VA := fun W => rvalue_any s[2 * k] W
        have VC := fun W => rvalue_any s[2 * k + 1] W
        obtain ⟨A, hA⟩ : ∃ A, A = ixB hexDigits s[2 * k] := ⟨_, rfl⟩
        obtain ⟨C, hC⟩ : ∃ C, C = ixB hexDigits s[2 * k + 1] := ⟨_, rfl⟩
        rw [← hA] at ha VA
        rw [← hC] at hc VC
        have HVA := Lib.hid VA; have HVC := Lib.hid VC
        clear hA hC VA VC
        rcases ha with ⟨a1, a2⟩ | ⟨x, hx, a1, a2⟩
        · have HN : Hid (unhexL s.data.toList = none) := by
            show _ = _; rw [HU.out, HD.out]; simp [unhexL, a2]
          have a3 : A < 0 := by omega
          clear a1 a2 hc
          go_wp2_with fail
          refine (HVA.out _).mono ?_
          rintro e w' ⟨rfl, rfl⟩
          go_wp2_with fail
          refine (HVC.out _).mono ?_
          rintro e w' ⟨rfl, rfl⟩
          go_wp2
          go_ret2
          exact ⟨by rw [HN.out]; rfl, HB.out⟩
        · rcases hc with ⟨c1, c2⟩ | ⟨y, hy, c1, c2⟩
          · have HN : Hid (unhexL s.data.toList = none) := by
              show _ = _; rw [HU.out, HD.out]; simp [unhexL, a2, c2]
            have a3 : 0 ≤ A := by omega
            have c3 : C < 0 := by omega
            clear a1 a2 c1 c2
            go_wp2_with fail
            refine (HVA.out _).mono ?_
            rintro e w' ⟨rfl, rfl⟩
            go_wp2_with fail
            refine (HVC.out _).mono ?_
            rintro e w' ⟨rfl, rfl⟩
            go_wp2
            go_ret2
            exact ⟨by rw [HN.out]; rfl, HB.out⟩
          · have HN : Hid (unhexL s.data.toList = (unhexL (s.data.toList.drop (2 * (k + 1)))).map ((o ++ [UInt8.ofNat (16 * x + y)]) ++ ·)) := by
              show _ = _; rw [HU.out, HD.out]; simp [unhexL, a2, c2, Nat.mul_add, List.append_assoc, Option.map_map, Function.comp_def]
            simp only [hexDigits, List.length_cons, List.length_nil] at hx hy
            subst a1 c1
            clear a2 c2 HU
            obtain ⟨z, hz⟩ : ∃ z : Int, z = 16 * (x : Int) + (y : Int) := ⟨_, rfl⟩
            have HZ : Hid (z = ((UInt8.ofNat (16 * x + y)).toNat : Int)) := Lib.hid (by rw [hz, UInt8.toNat_ofNat']; omega)
            have hz2 : 16 * (x : Int) + (y : Int) = z := hz.symm
            have hz0 : 0 ≤ z := by omega
            have hz1 : z < 256 := by omega
            clear hz
            go_wp2_with fail
            refine (HVA.out _).mono ?_
            rintro e w' ⟨rfl, rfl⟩
            go_wp2_with fail
            refine (HVC.out _).mono ?_
            rintro e w' ⟨rfl, rfl⟩
            go_wp2_with (at_builtin; refine wpList_append_b1 rfl _ _ rfl w.heap.size _ k o rfl (HO.out.alloc _) wr.heap.size z _ HZ rfl (heap_alloc_new wr _) (by omega) (by have := HB.out.size; simp; omega) ?_; intro v7 wn hoN hbN; have HON := Lib.hid hoN; have HBN := Lib.hid (((HB.out.alloc HB.out.size (.cells #[.int .u8 z] 5)).trans hbN)); clear hoN hbN)
            go_roundw
            case rel => exact ⟨k + 1, _, by omega, by go_num, HN, HON.out, HBN.out⟩
            case measure => simp [intOf]; omega
      · have HN : Hid (unhexL s.data.toList = some o) := by
          have e : s.data.toList.drop (2 * k) = [] := List.drop_eq_nil_of_le (by simp; omega)
          show _ = _; rw [HU.out, e]; simp [unhexL]
        clear HU
        have hcv := Own.run_str HO.out 30 9 Tryd.underlying30 Tryd.underlying5 Tryd.underlying9
        go_wp2
        go_ret2
        exact ⟨by rw [HN.out]; rfl, HB.out⟩
end Go.Proofs.YtmloabphhebioaaDoor
