/- digest.masked, Mac and Short. -/
import Derived.Test.YtmapodkdnbbjgaaDoorDigSum
import Derived.Test.YtmapodkdnbbjgaaDoorDigW64
namespace Go.Proofs.YtmapodkdnbbjgaaDoor
open Go.RowKit Dg
/-- a key of a block's length -/
def padK (key : List UInt8) : List UInt8 := (List.range 64).map fun i => key.getD i 0
theorem padK_len (key : List UInt8) : (padK key).length = 64 := by simp [padK]
theorem maskL_len (key : List UInt8) (m : UInt8) : (maskL key m).length = 64 := by simp [maskL]
theorem padK_eq (key : List UInt8) : key.take 64 ++ (List.replicate 64 0).drop key.length = padK key := by
  apply List.ext_getElem?
  intro i
  simp only [padK, List.getElem?_append, List.length_take, List.getElem?_take, List.getElem?_drop, List.getElem?_map, List.getElem?_replicate]
  by_cases hi : i < 64
  · by_cases hk : i < key.length
    · simp [hi, hk, show i < min 64 key.length by omega]
    · simp [hi, hk, show ¬ i < min 64 key.length by omega, show key.length + (i - min 64 key.length) < 64 by omega]
  · have h1 : ¬ i < min 64 key.length := by omega
    simp [hi, h1]
    omega
/-- the key while it is masked: the first i bytes are done -/
def mixK (key : List UInt8) (m : UInt8) (i : Nat) : List UInt8 := (maskL key m).take i ++ (padK key).drop i
theorem mixK_get (key : List UInt8) (m : UInt8) (i : Nat) (h : i < 64) : (mixK key m i)[i]? = some (key.getD i 0) := by
  have e : ((maskL key m).take i).length = i := by rw [List.length_take, maskL_len]; omega
  rw [mixK, List.getElem?_append_right (by omega), e, Nat.sub_self, List.getElem?_drop, Nat.add_zero]
  simp [padK, h]
theorem mixK_set (key : List UInt8) (m : UInt8) (i : Nat) (h : i < 64) : (mixK key m i).set i (key.getD i 0 ^^^ m) = mixK key m (i + 1) := by
  have e : ((maskL key m).take i).length = i := by rw [List.length_take, maskL_len]; omega
  have e1 : (maskL key m).take (i + 1) = (maskL key m).take i ++ [key.getD i 0 ^^^ m] := by
    rw [List.take_succ_eq_append_getElem (by rw [maskL_len]; exact h)]; simp [maskL]
  have e2 : (padK key).drop i = key.getD i 0 :: (padK key).drop (i + 1) := by
    rw [List.drop_eq_getElem_cons (by rw [padK_len]; exact h)]; simp [padK]
  rw [mixK, mixK, e1, e2, List.set_append_right _ _ (by omega), e, Nat.sub_self]; simp
theorem xor8 (x m : UInt8) : bits .xor .u8 (x.toNat : Int) (m.toNat : Int) = ((x ^^^ m).toNat : Int) := by
  rw [u8_xor_nat _ _ (w8_lt x) (w8_lt m), UInt8.toNat_xor]
theorem sumL_len (l : List UInt8) : (sumL l).length = 32 := by simp [sumL, St.list, bytes4]
theorem keyL_len (k : List UInt8) : (keyL k).length ≤ 64 := by
  unfold keyL; split
  · rw [sumL_len]; omega
  · omega
theorem bs_append (a b : List UInt8) : bs a ++ bs b = bs (a ++ b) := by
  apply ByteArray.ext; simp [bs, ByteArray.data_append]
theorem num8_take (l : List UInt8) (k : Nat) (h : k < l.length) : num8 (l.take (k + 1)) = num8 (l.take k) * 256 + l[k].toNat := by
  rw [List.take_succ_eq_append_getElem h, num8_snoc]
theorem num8_lt (l : List UInt8) : num8 l < 256 ^ l.length := by
  have : ∀ (m : List UInt8) (n j : Nat), n < 256 ^ j → (m.map (·.toNat)).foldl (fun n d => n * 256 + d) n < 256 ^ (j + m.length) := by
    intro m
    induction m with
    | nil => intro n j h; simpa using h
    | cons c m ih =>
      intro n j h
      have hc := w8_lt c
      have := ih (n * 256 + c.toNat) (j + 1) (by rw [Nat.pow_succ]; omega)
      simpa [Nat.add_assoc, Nat.add_comm 1] using this
  have := this l 0 0 (by simp)
  simpa [num8, num] using this
theorem shortN_eq (l : List UInt8) : shortN l = num8 ((sumL l).take 8) / 16 := by
  simp only [shortN, num8, num, List.foldl_map]
end Go.Proofs.YtmapodkdnbbjgaaDoor
