/- digest.Unhex. -/
import Derived.Test.YtmloabphhebioaaDoorDigHex
import Derived.Deep.QuietTactic
import Derived.BigQuiet
namespace Go.Proofs.YtmloabphhebioaaDoor
open Go.RowKit Dg
/-- the number of a digit, or -1 -/
def ixB (l : List UInt8) (c : UInt8) : Int := Lib.indexByte l c
theorem ixB_idx (l : List UInt8) (c : UInt8) : (ixB l c = -1 ∧ idx l c = none) ∨ ∃ x : Nat, x < l.length ∧ ixB l c = (x : Int) ∧ idx l c = some x := by
  induction l with
  | nil => exact .inl ⟨rfl, rfl⟩
  | cons b l ih =>
    simp only [ixB, Lib.indexByte, idx, List.findIdx?_cons]
    by_cases hb : (b == c) = true
    · exact .inr ⟨0, by simp, by simp [hb], by simp [hb]⟩
    · rcases ih with ⟨h1, h2⟩ | ⟨x, hx, h1, h2⟩
      · left; simp only [ixB, idx] at h1 h2; simp [hb, h1, h2]
      · right; refine ⟨x + 1, by simp; omega, ?_, ?_⟩
        · simp only [ixB] at h1; simp [hb, h1]
        · simp only [idx] at h2; simp [hb, h2]
theorem index_any (s : ByteArray) (c : UInt8) (w : World) :
    Calls Tryd.prog 30 #[.string s, .int .u8 c.toNat] w fun e w' => e = .returned (.int .i64 (ixB s.data.toList c)) ∧ w = w' :=
  (Tryd.strings_IndexByte s (c.toNat : Int) w).mono fun e w' ⟨h1, h2⟩ => ⟨by rw [h1]; simp [ixB], h2.symm⟩
theorem index_hex (c : UInt8) (w : World) :
    Calls Tryd.prog 30 #[.string ⟨#[48, 49, 50, 51, 52, 53, 54, 55, 56, 57, 97, 98, 99, 100, 101, 102]⟩, .int .u8 c.toNat] w fun e w' => e = .returned (.int .i64 (ixB hexDigits c)) ∧ w = w' :=
  index_any _ c w
theorem drop_two (s : ByteArray) (k : Nat) (h : k + 1 < s.size) : s.data.toList.drop k = s[k] :: s[k + 1] :: s.data.toList.drop (k + 2) := by
  rw [List.drop_eq_getElem_cons (by simpa using Nat.lt_of_succ_lt h), List.drop_eq_getElem_cons (by simpa using h)]; rfl
/-- what a list reads as, in a result of two parts -/
def optS (o : Option (List UInt8)) : Value := .tuple #[.string (bs (o.getD [])), .bool o.isSome]
theorem unhexL_odd (l : List UInt8) : l.length % 2 = 1 → unhexL l = none := by
  fun_induction unhexL l with
  | case1 => intro h; simp at h
  | case2 => intro _; rfl
  | case3 a b l x y h1 h2 ih => intro h; rw [ih (by simp at h; omega)]; rfl
  | case4 => intro _; rfl
set_option maxHeartbeats 1000000 in
theorem unhex_any (s : ByteArray) (w : World) (hs : s.size ≤ 1000000) :
    Calls Tryd.prog 12 #[.string s] w fun e w' => e = .returned (optS (unhexL s.data.toList)) ∧ Below w.heap.size w w' := by
  by_cases hodd : s.size % 2 = 1
  · have h1 : ((s.size : Int) % 2 == 1) = true := by simp; omega
    have HU := Lib.hid (unhexL_odd s.data.toList (by simpa using hodd))
    clear hodd
    go_enter Tryd.func12, Tryd.ntmps12
    go_wp2
    go_ret2
    exact ⟨by rw [HU.out]; rfl, Below.refl _ _⟩
  · have h1 : ((s.size : Int) % 2 == 1) = false := by simp; omega
    go_enter Tryd.func12, Tryd.ntmps12
    go_wp2
    go_loopw [5, 6, 7] (fun i _ _ wr => ∃ (k : Nat) (o : List UInt8), 2 * k ≤ s.size ∧ i = .int .i64 (2 * k : Nat) ∧ o.length ≤ k ∧ Hid (unhexL s.data.toList = (unhexL (s.data.toList.drop (2 * k))).map (o ++ ·)) ∧ Bld w.heap.size o wr ∧ Below w.heap.size w wr) (fun i _ _ _ => s.size - (intOf i).toNat)
    case atStart => exact ⟨0, [], Nat.zero_le _, rfl, Nat.le_refl _, by show _ = _; simp, bld_new w, (Below.refl _ _).alloc (Nat.le_refl _) _⟩
    case round =>
      obtain ⟨k, o, hk, rfl, ho, HU, hB, hb⟩ := hrel
      have HBd := Lib.hid hB
      have HBe := Lib.hid hb
      clear hB hb h1
      by_cases hlt : 2 * k < s.size
      · have hlt2 : 2 * k + 1 < s.size := by omega
        have HD := Lib.hid (drop_two s (2 * k) hlt2)
        have i1 : 2 * (k : Int) < (s.size : Int) := by omega
        have i2 : 2 * (k : Int) + 1 < (s.size : Int) := by omega
        have i3 : 0 ≤ 2 * (k : Int) := by omega
        have i4 : 0 ≤ 2 * (k : Int) + 1 := by omega
        have ha := ixB_idx hexDigits s[2 * k]
        have hc := ixB_idx hexDigits s[2 * k + 1]
        obtain ⟨A, hA⟩ : ∃ A, A = ixB hexDigits s[2 * k] := ⟨_, rfl⟩
        obtain ⟨C, hC⟩ : ∃ C, C = ixB hexDigits s[2 * k + 1] := ⟨_, rfl⟩
        rw [← hA] at ha
        rw [← hC] at hc
        have rA := hA.symm
        have rC := hC.symm
        clear hA hC
        rcases ha with ⟨a1, a2⟩ | ⟨x, hx, a1, a2⟩
        · have HN : Hid (unhexL s.data.toList = none) := by
            show _ = _; rw [HU.out, HD.out]; simp [unhexL, a2]
          have a3 : A < 0 := by omega
          clear a1 a2 hc
          go_wp2
          go_quiet ((go_at_call 30; exact quiet_left (index_hex _ _)))
          go_wp2
          go_ret2
          exact ⟨by rw [HN.out]; rfl, below_drewN HBe.out _⟩
        · rcases hc with ⟨c1, c2⟩ | ⟨y, hy, c1, c2⟩
          · have HN : Hid (unhexL s.data.toList = none) := by
              show _ = _; rw [HU.out, HD.out]; simp [unhexL, a2, c2]
            have a3 : 0 ≤ A := by omega
            have c3 : C < 0 := by omega
            clear a1 a2 c1 c2
            go_wp2
            go_quiet ((go_at_call 30; exact quiet_left (index_hex _ _)))
            go_wp2
            go_ret2
            exact ⟨by rw [HN.out]; rfl, below_drewN HBe.out _⟩
          · have HN : Hid (unhexL s.data.toList = (unhexL (s.data.toList.drop (2 * (k + 1)))).map ((o ++ [UInt8.ofNat (16 * x + y)]) ++ ·)) := by
              show _ = _; rw [HU.out, HD.out]; simp [unhexL, a2, c2, Nat.mul_add, List.append_assoc, Option.map_map, Function.comp_def]
            simp only [hexDigits, List.length_cons, List.length_nil] at hx hy
            subst a1 c1
            clear a2 c2 HU
            go_wp2
            go_quiet ((go_at_call 30; exact quiet_left (index_hex _ _)))
            go_wp2_with fail
            have hx16 : x < 16 := hx
            have hy16 : y < 16 := hy
            have HB2 : Hid (Bld w.heap.size o (wr.drewN nq)) := by
              rcases HBd.out with h | h
              · exact .inl h
              · exact .inr h
            refine (writeByte_int w.heap.size o (16 * (x : Int) + (y : Int)) _ HB2.out (by omega) HBe.out.size (by omega) (by omega)).mono ?_
            rintro e w1 ⟨rfl, hB1, hb1, _⟩
            have HB1 : Hid (Bld w.heap.size (o ++ [UInt8.ofNat (16 * x + y)]) w1) := by
              have e : (16 * (x : Int) + (y : Int)).toNat = 16 * x + y := by omega
              rw [e] at hB1; exact hB1
            have Hb1 := Lib.hid ((below_drewN HBe.out nq).trans hb1)
            clear hB1 hb1 HB2 hx hy
            go_wp2
            go_roundw
            case rel => exact ⟨k + 1, o ++ [UInt8.ofNat (16 * x + y)], by omega, by go_num, by simp; omega, HN, HB1.out, Hb1.out⟩
            case measure => simp [intOf]; omega
      · have HN : Hid (unhexL s.data.toList = some o) := by
          have e : s.data.toList.drop (2 * k) = [] := List.drop_eq_nil_of_le (by simp; omega)
          show _ = _; rw [HU.out, e]; simp [unhexL]
        clear HU
        go_wp2_with (go_at_call 29; refine (Tryd.Builder_String_any_k w.heap.size w.heap.size _ wr HBd.out HBe.out.size).mono ?_; rintro e w1 ⟨rfl, _, h1, _⟩)
        go_ret2
        exact ⟨by rw [HN.out]; rfl, HBe.out.trans h1⟩
end Go.Proofs.YtmloabphhebioaaDoor
