/- missivelaw38.VerpDiffers: the walk. -/
import Derived.Test.YtlegmhmmoadggaaDoorVpLaws
namespace Go.Proofs.YtlegmhmmoadggaaDoor
open Go.RowKit Wr Vp
open Dg hiding bs bs_size bs_data
namespace Vp
/-- is a byte a plus sign, a small letter or a digit of Base32 -/
def okB (c : UInt8) : Prop := c = 43 ∨ (97 ≤ c.toNat ∧ c.toNat ≤ 122) ∨ (50 ≤ c.toNat ∧ c.toNat ≤ 55)
def plusN (l : List UInt8) (k : Nat) : Nat := (l.take k).countP (· == 43)
/-- the form of a local part: small letters, a plus sign, letters and digits -/
structure PForm (l : List UInt8) : Prop where
  at_ : ∀ k (h : k < l.length), l[k] = 43 ∧ plusN l (k + 1) = plusN l k + 1 ∨ l[k] ≠ 43 ∧ plusN l (k + 1) = plusN l k ∧ ((97 ≤ l[k].toNat ∧ l[k].toNat ≤ 122) ∨ (50 ≤ l[k].toNat ∧ l[k].toNat ≤ 55 ∧ plusN l k = 1))
  all : plusN l l.length = 1
theorem plusN_succ (l : List UInt8) (k : Nat) (h : k < l.length) : plusN l (k + 1) = plusN l k + (if l[k] = 43 then 1 else 0) := by
  unfold plusN
  rw [List.take_succ_eq_append_getElem h, List.countP_append]
  by_cases e : l[k] = 43 <;> simp [e]
theorem form_local (s : List UInt8) (k : Int) (c : List UInt8) : PForm (localV s k c) := by
  have hw := word_chars k
  have hb := b32_chars (c ++ mac5 s (word k) c)
  unfold localV
  generalize hB : b32L (c ++ mac5 s (word k) c) = b at hb ⊢
  generalize hW : word k = a at hw ⊢
  have ca : a.countP (· == 43) = 0 := by
    rw [List.countP_eq_zero]; intro x hx h
    have := hw x hx
    have e : x = 43 := by simpa using h
    subst e; revert this; decide
  have cb : b.countP (· == 43) = 0 := by
    rw [List.countP_eq_zero]; intro x hx h
    have := hb x hx
    have e : x = 43 := by simpa using h
    subst e; revert this; decide
  have hall : plusN (a ++ 43 :: b) (a ++ 43 :: b).length = 1 := by
    unfold plusN
    rw [List.take_length, List.countP_append, List.countP_cons, ca, cb]; rfl
  have hgt : ∀ j, a.length < j → plusN (a ++ 43 :: b) j = 1 := by
    intro j hj
    obtain ⟨m, rfl⟩ : ∃ m, j = a.length + (m + 1) := ⟨j - a.length - 1, by omega⟩
    unfold plusN
    rw [List.take_length_add_append, List.take_succ_cons, List.countP_append, List.countP_cons, ca]
    have : (b.take m).countP (· == 43) = 0 := by
      have := (List.take_sublist m b).countP_le (p := (· == 43))
      omega
    rw [this]; rfl
  refine ⟨fun j hj => ?_, hall⟩
  rw [plusN_succ _ j hj]
  by_cases e : (a ++ 43 :: b)[j] = 43
  · left; exact ⟨e, by rw [if_pos e]⟩
  · right
    refine ⟨e, by rw [if_neg e]; rfl, ?_⟩
    rcases Nat.lt_trichotomy j a.length with h | h | h
    · left
      have e2 : (a ++ 43 :: b)[j] = a[j] := List.getElem_append_left h
      rw [e2]; exact hw _ (List.getElem_mem h)
    · subst h
      exact absurd (by rw [List.getElem_append_right (Nat.le_refl _)]; simp) e
    · obtain ⟨m, rfl⟩ : ∃ m, j = a.length + (m + 1) := ⟨j - a.length - 1, by omega⟩
      have hm : m < b.length := by rw [List.length_append, List.length_cons] at hj; omega
      have e2 : (a ++ 43 :: b)[a.length + (m + 1)] = b[m] := by
        rw [List.getElem_append_right (by omega)]; simp
      rw [e2]
      rcases hb _ (List.getElem_mem hm) with h1 | h1
      · exact .inl h1
      · exact .inr ⟨h1.1, h1.2, hgt _ (by omega)⟩
theorem toList_beq (a b : ByteArray) : (a.toList == b.toList) = decide (a = b) := by
  by_cases h : a = b
  · subst h; simp
  · rw [toList_no h, decide_eq_false h]
theorem content_cong {k n m : Int} {u v : List UInt8} (hk : 1 ≤ k ∧ k ≤ 3) (h : (k = 3 ∨ n = m) ∧ (k = 1 ∨ u = v)) : content k n u = content k m v := by
  have : k = 1 ∨ k = 2 ∨ k = 3 := by omega
  rcases this with rfl | rfl | rfl
  · have e : n = m := by omega
    unfold content; rw [if_pos rfl, if_pos rfl, e]
  · have e : n = m := by omega
    have e2 : u = v := by rcases h.2 with h | h; omega; exact h
    rw [e, e2]
  · have e2 : u = v := by rcases h.2 with h | h; omega; exact h
    unfold content; rw [if_neg (by decide), if_neg (by decide), if_neg (by decide), if_neg (by decide), e2]
theorem same_iff {s : List UInt8} {a b n m : Int} {u v : ByteArray} (ha : 1 ≤ a ∧ a ≤ 3) (hb : 1 ≤ b ∧ b ≤ 3) (hn : I64 n) (h0 : 0 ≤ n) (hm : I64 m) (m0 : 0 ≤ m) (hu : u.size ≤ 300) (hv : v.size ≤ 300) :
    (bs (localV s a (content a n u.data.toList)) = bs (localV s b (content b m v.data.toList))) ↔ (a = b ∧ (a = 3 ∨ n = m) ∧ (a = 1 ∨ u = v)) := by
  constructor
  · intro h
    have h1 : localV s a (content a n u.data.toList) = localV s b (content b m v.data.toList) := by
      have := congrArg (fun x : ByteArray => x.data.toList) h
      exact this
    obtain ⟨rfl, hc⟩ := local_inj ha hb h1
    obtain ⟨c1, c2⟩ := content_inj ha hn h0 hm m0 (by unfold len63; rw [bs_len]; omega) (by unfold len63; rw [bs_len]; omega) hc
    refine ⟨rfl, c1, ?_⟩
    rcases c2 with c2 | c2
    · exact .inl c2
    · exact .inr (ByteArray.ext (Array.toList_inj.1 c2))
  · rintro ⟨rfl, h1, h2⟩
    have h3 : a = 1 ∨ u.data.toList = v.data.toList := by
      rcases h2 with h2 | h2
      · exact .inl h2
      · exact .inr (by rw [h2])
    rw [content_cong ha ⟨h1, h3⟩]
end Vp
set_option maxRecDepth 100000 in
set_option maxHeartbeats 2000000 in
theorem differs_walk (k : ByteArray) (n : Int) (u : ByteArray) (m : Int) (v : ByteArray) (x y : Int) (w : World) (hn : I64 n) (hm : I64 m) (hx : 0 ≤ x ∧ x ≤ 255) (hy : 0 ≤ y ∧ y ≤ 255) (hE : VE w) :
    Calls Tryd.prog 4 #[.string k, .int .i64 n, .string u, .int .i64 m, .string v, .int .u8 x, .int .u8 y] w fun e w' => e = .returned (.bool true) ∧ Below w.heap.size w w' := by
  have HE := Lib.hid hE
  have HN := Lib.hid hn
  have HM := Lib.hid hm
  obtain ⟨x0, x1⟩ := hx
  obtain ⟨y0, y1⟩ := hy
  clear hE hn hm
  by_cases q0 : 300 < k.size
  · go_enter Tryd.func4, Tryd.ntmps4
    go_wp2_with fail
    refine (small_any w HE.out).mono ?_
    rintro e w1 ⟨rfl, hb⟩
    have HB1 := Lib.hid hb
    clear hb
    go_wp2
    go_ret
    exact ⟨rfl, HB1.out⟩
  · by_cases q1 : 300 < u.size
    · go_enter Tryd.func4, Tryd.ntmps4
      go_wp2_with fail
      refine (small_any w HE.out).mono ?_
      rintro e w1 ⟨rfl, hb⟩
      have HB1 := Lib.hid hb
      clear hb
      go_wp2
      go_ret
      exact ⟨rfl, HB1.out⟩
    · by_cases q2 : 300 < v.size
      · go_enter Tryd.func4, Tryd.ntmps4
        go_wp2_with fail
        refine (small_any w HE.out).mono ?_
        rintro e w1 ⟨rfl, hb⟩
        have HB1 := Lib.hid hb
        clear hb
        go_wp2
        go_ret
        exact ⟨rfl, HB1.out⟩
      · by_cases q3 : n < 0
        · go_enter Tryd.func4, Tryd.ntmps4
          go_wp2_with fail
          refine (small_any w HE.out).mono ?_
          rintro e w1 ⟨rfl, hb⟩
          have HB1 := Lib.hid hb
          clear hb
          go_wp2
          go_ret
          exact ⟨rfl, HB1.out⟩
        · by_cases q4 : m < 0
          · go_enter Tryd.func4, Tryd.ntmps4
            go_wp2_with fail
            refine (small_any w HE.out).mono ?_
            rintro e w1 ⟨rfl, hb⟩
            have HB1 := Lib.hid hb
            clear hb
            go_wp2
            go_ret
            exact ⟨rfl, HB1.out⟩
          · go_enter Tryd.func4, Tryd.ntmps4
            go_wp2_with fail
            refine (small_any w HE.out).mono ?_
            rintro e w1 ⟨rfl, hb⟩
            have HB1 := Lib.hid hb
            have HE1 := Lib.hid (HE.out.step hb)
            clear hb
            go_wp2_with fail
            obtain ⟨a, hA⟩ : ∃ a, a = 1 + x % 3 := ⟨_, rfl⟩
            obtain ⟨b, hB⟩ : ∃ a, a = 1 + y % 3 := ⟨_, rfl⟩
            rw [← hA, ← hB]
            have a1 : 1 ≤ a ∧ a ≤ 3 := by omega
            have b1 : 1 ≤ b ∧ b ≤ 3 := by omega
            clear hA hB
            have hk0 : k.size ≤ 300 := by omega
            have hu0 : u.size ≤ 300 := by omega
            have hv0 : v.size ≤ 300 := by omega
            have n0 : 0 ≤ n := by omega
            have m0 : 0 ≤ m := by omega
            have HS := Lib.hid (same_iff (s := k.data.toList) (u := u) (v := v) a1 b1 HN.out n0 HM.out m0 hu0 hv0)
            refine (vwrite_any k a n u w1 HE1.out (by omega) a1 HN.out (by omega)).mono ?_
            rintro e w2 ⟨rfl, hb⟩
            have HB2 := Lib.hid (Bt HB1.out hb)
            have HE2 := Lib.hid (HE1.out.step hb)
            clear hb
            rw [Int.max_eq_left n0]
            have l1 := local_len k.data.toList a (content a n u.data.toList)
            have z1 := content_len (k := a) (u := u.data.toList) HN.out (by rw [bs_len]; omega)
            rw [bs_len] at z1
            obtain ⟨S, hSS⟩ : ∃ S, S = bs (localV k.data.toList a (content a n u.data.toList)) := ⟨_, rfl⟩
            rw [← hSS] at HS ⊢
            have HF : Hid (PForm S.data.toList) := by rw [hSS]; exact form_local _ _ _
            have hSs : S.size ≤ 2000 := by rw [hSS, bs_size]; omega
            clear hSS l1 z1
            go_wp2_with fail
            refine (vwrite_any k b m v w2 HE2.out (by omega) b1 HM.out (by omega)).mono ?_
            rintro e w3 ⟨rfl, hb⟩
            have HB3 := Lib.hid (Bt HB2.out hb)
            clear hb
            rw [Int.max_eq_left m0]
            obtain ⟨T, hT⟩ : ∃ S, S = bs (localV k.data.toList b (content b m v.data.toList)) := ⟨_, rfl⟩
            rw [← hT] at HS ⊢
            clear hT
            go_wp2
            go_loopw [20, 21] (fun p i wr => ∃ j : Nat, j ≤ S.size ∧ p = .int .i64 (plusN S.data.toList j : Nat) ∧ i = .int .i64 j ∧ Below w.heap.size w wr) (fun _ i _ => S.size - (intOf i).toNat)
            case atStart => exact ⟨0, Nat.zero_le _, rfl, rfl, HB3.out⟩
            case round =>
              obtain ⟨j, hj, rfl, rfl, hbe⟩ := hrel
              have HB := Lib.hid hbe
              clear hbe
              by_cases hlt : j < S.size
              · have hat := HF.out.at_ j (by rw [bs_len]; exact hlt)
                have e0 : S.data.toList[j]'(by rw [bs_len]; exact hlt) = S[j] := rfl
                rw [e0] at hat
                have hp8 : plusN S.data.toList j ≤ j := by
                  unfold plusN
                  exact Nat.le_trans List.countP_le_length (by rw [List.length_take]; omega)
                obtain ⟨P, hP⟩ : ∃ P, P = plusN S.data.toList j := ⟨_, rfl⟩
                rw [← hP] at hat hp8 ⊢
                obtain ⟨P2, hP2⟩ : ∃ P, P = plusN S.data.toList (j + 1) := ⟨_, rfl⟩
                rw [← hP2] at hat
                have HP2 := Lib.hid hP2
                have h8 := w8_lt S[j]
                clear hP hP2
                rcases hat with ⟨c1, c2⟩ | ⟨c1, c2, c3⟩
                · have c4 : S[j].toNat = 43 := by rw [c1]; rfl
                  clear c1
                  go_wp2
                  exact ⟨⟨j + 1, by omega, by rw [← HP2.out, c2]; go_num, by go_num, HB.out⟩, by simp [intOf]; omega⟩
                · have c4 : S[j].toNat ≠ 43 := fun e => c1 (UInt8.toNat_inj.1 e)
                  clear c1
                  rcases c3 with c3 | c3
                  · go_wp2
                    exact ⟨⟨j + 1, by omega, by rw [← HP2.out, c2], by go_num, HB.out⟩, by simp [intOf]; omega⟩
                  · go_wp2
                    exact ⟨⟨j + 1, by omega, by rw [← HP2.out, c2, c3.2.2]; rfl, by go_num, HB.out⟩, by simp [intOf]; omega⟩
              · obtain rfl : j = S.size := by omega
                have hall := HF.out.all
                rw [bs_len] at hall
                rw [hall]
                clear HF
                have hh := HS.out
                go_wp2
                all_goals
                  go_ret
                  refine ⟨?_, HB.out⟩
                  refine congrArg (fun b => Ending.returned (Value.bool b)) (?_ : _ = true)
                  simp [toList_beq, hh]
                all_goals
                  by_cases huv : u = v
                  all_goals first
                    | omega
                    | (simp [huv]; done)
                    | (simp [huv]; omega)
                    | (simp [huv]; intros; omega)
                    | (rw [Bool.eq_iff_iff]; simp [huv]; omega)
                    | (rw [Bool.eq_iff_iff]; simp [huv]; intros; omega)
end Go.Proofs.YtlegmhmmoadggaaDoor
