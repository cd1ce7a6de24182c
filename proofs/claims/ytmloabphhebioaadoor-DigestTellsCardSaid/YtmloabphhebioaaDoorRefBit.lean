/- missiveref03.bit: the walk and its law. -/
import Derived.Test.YtmloabphhebioaaDoorRefMix
import Derived.Test.YtmloabphhebioaaDoorDigW64
namespace Go.Proofs.YtmloabphhebioaaDoor
open Go.RowKit Dg
/-- a bit of a string, or 0 behind its end -/
def bitN (s : ByteArray) (at_ : Nat) : Nat := (s.data.toList.getD (at_ / 8) 0).toNat / 2 ^ (7 - at_ % 8) % 2
set_option maxHeartbeats 1000000 in
theorem rbit_any (s : ByteArray) (k : Nat) (w : World) (hs : s.size ≤ 1000000) (hk : k ≤ 100000000) :
    Calls Tryd.prog 38 #[.string s, .int .i64 k] w fun e w' => e = .returned (.int .i64 (bitN s k)) ∧ w = w' := by
  by_cases hlt : k < 8 * s.size
  · have h8 : k / 8 < s.size := by omega
    obtain ⟨q, hq⟩ : ∃ q, q = k / 8 := ⟨_, rfl⟩
    obtain ⟨r, hr⟩ : ∃ r, r = k % 8 := ⟨_, rfl⟩
    have hr8 : r < 8 := by omega
    rw [← hq] at h8
    obtain ⟨c, hc⟩ : ∃ c, c = s[q] := ⟨_, rfl⟩
    have hb : bitN s k = c.toNat / 2 ^ (7 - r) % 2 := by
      unfold bitN
      rw [← hq, ← hr, List.getD_eq_getElem?_getD, List.getElem?_eq_getElem (by simpa using h8), hc]; rfl
    rw [hb]
    have d1 : (k : Int).tdiv 8 = (q : Int) := by rw [Int.tdiv_eq_ediv_of_nonneg (by omega)]; omega
    have d2 : (k : Int).tmod 8 = (r : Int) := by rw [Int.tmod_eq_emod_of_nonneg (by omega)]; omega
    have d3 : (k : Int) / 8 = (q : Int) := by omega
    have d4 : (k : Int) % 8 = (r : Int) := by omega
    have x1 : (0 : Int) ≤ (q : Int) := by omega
    have x2 : (q : Int) < (s.size : Int) := by omega
    have x3 : (k : Int) < 8 * (s.size : Int) := by omega
    have hcl := w8_lt s[q]
    have r5 : bits .and .i64 ((s[q].toNat : Int) / 2 ^ (7 - r)) 1 = ((c.toNat / 2 ^ (7 - r) % 2 : Nat) : Int) := by
      have e : (s[q].toNat : Int) / 2 ^ (7 - r) = ((c.toNat / 2 ^ (7 - r) : Nat) : Int) := by rw [hc]; simp
      have h := j64_and (c.toNat / 2 ^ (7 - r)) 1 (Nat.lt_of_le_of_lt (Nat.div_le_self _ _) (by rw [hc]; omega)) (by decide)
      rw [Nat.and_one_is_mod] at h
      rw [e]; exact h
    obtain ⟨z, hz⟩ : ∃ z : Int, ((c.toNat / 2 ^ (7 - r) % 2 : Nat) : Int) = z := ⟨_, rfl⟩
    rw [hz] at r5 ⊢
    clear hb hq hr hz
    go_enter Tryd.func38, Tryd.ntmps38
    go_wp2
    go_ret
    exact ⟨rfl, rfl⟩
  · have hb : bitN s k = 0 := by
      unfold bitN
      rw [List.getD_eq_getElem?_getD, List.getElem?_eq_none (by simp; omega)]; simp
    rw [hb]
    have x3 : 8 * (s.size : Int) ≤ (k : Int) := by omega
    clear hb
    go_enter Tryd.func38, Tryd.ntmps38
    go_wp2
    go_ret
    exact ⟨rfl, rfl⟩
end Go.Proofs.YtmloabphhebioaaDoor
