/- missivelaw03.flipped: some of 32 bits are inverted. -/
import Derived.Test.YtmloabphhebioaaDoorDigSmall
import Derived.Test.YtmloabphhebioaaDoorDigBits
import Derived.Test.YtmloabphhebioaaDoorOwnStep
import Derived.IntWalk
import Derived.WalkSmall
import Derived.BigQuiet
namespace Go.Proofs.YtmloabphhebioaaDoor
open Go.RowKit Dg
namespace Dg
/-- the bytes after one step that inverts, or not, the bit at a place -/
def flip1 (l : List UInt8) (yes : Bool) (a : Nat) : List UInt8 :=
  if yes = true ∧ a < 8 * l.length then l.set (a / 8) (l.getD (a / 8) 0 ^^^ UInt8.ofNat (2 ^ (a % 8))) else l
def flipN (l : List UInt8) (f : Nat → Bool) (bit : Nat) : Nat → List UInt8
  | 0 => l
  | n + 1 => flip1 (flipN l f bit n) (f n) (bit + n)
theorem flip1_len (l : List UInt8) (y : Bool) (a : Nat) : (flip1 l y a).length = l.length := by unfold flip1; split <;> simp
theorem flipN_len (l : List UInt8) (f : Nat → Bool) (bit n : Nat) : (flipN l f bit n).length = l.length := by
  induction n with
  | zero => rfl
  | succ n ih => rw [flipN, flip1_len, ih]
theorem flip1_bit (l : List UInt8) (y : Bool) (a i : Nat) (h : i ≠ a) : ((flip1 l y a).getD (i / 8) 0).toNat.testBit (i % 8) = (l.getD (i / 8) 0).toNat.testBit (i % 8) := by
  unfold flip1
  split
  · rename_i hy
    have hl : a / 8 < l.length := by omega
    by_cases e : i / 8 = a / 8
    · rw [e, List.getD_eq_getElem?_getD, List.getElem?_set_self hl, Option.getD_some, UInt8.toNat_xor, Nat.testBit_xor]
      have h2 : (UInt8.ofNat (2 ^ (a % 8))).toNat = 2 ^ (a % 8) := by
        have h3 : 2 ^ (a % 8) ≤ 2 ^ 7 := Nat.pow_le_pow_right (by decide) (by omega)
        simp [UInt8.toNat_ofNat']; omega
      rw [h2, Nat.testBit_two_pow_of_ne (by omega)]; simp
    · rw [List.getD_eq_getElem?_getD, List.getElem?_set_ne (by omega), ← List.getD_eq_getElem?_getD]
  · rfl
theorem flipN_bit (l : List UInt8) (f : Nat → Bool) (bit n i : Nat) (h : i < bit ∨ bit + n ≤ i) : ((flipN l f bit n).getD (i / 8) 0).toNat.testBit (i % 8) = (l.getD (i / 8) 0).toNat.testBit (i % 8) := by
  induction n with
  | zero => rfl
  | succ n ih => rw [flipN, flip1_bit _ _ _ _ (by omega), ih (by omega)]
theorem flipN_congr (l : List UInt8) (f g : Nat → Bool) (bit n : Nat) (h : ∀ i, i < n → f i = g i) : flipN l f bit n = flipN l g bit n := by
  induction n with
  | zero => rfl
  | succ n ih => rw [flipN, flipN, ih (fun i hi => h i (by omega)), h n (by omega)]
theorem flipN_more {l m : List UInt8} {bit k : Nat} (h : ∃ f, m = flipN l f bit k) (y : Bool) : ∃ f, flip1 m y (bit + k) = flipN l f bit (k + 1) := by
  obtain ⟨f, rfl⟩ := h
  refine ⟨fun i => if i < k then f i else y, ?_⟩
  rw [flipN, if_neg (Nat.lt_irrefl k), flipN_congr l f (fun i => if i < k then f i else y) bit k (fun i hi => by rw [if_pos hi])]
theorem flipN_same {l m : List UInt8} {bit k : Nat} (h : ∃ f, m = flipN l f bit k) : ∃ f, m = flipN l f bit (k + 1) := by
  obtain ⟨f, hf⟩ := flipN_more h false
  exact ⟨f, by rw [← hf]; simp [flip1]⟩
end Dg
set_option maxHeartbeats 2000000 in
theorem flipped_any (s : ByteArray) (bit : Nat) (pat : Int) (w : World) (hs : s.size ≤ 2000) (hb : bit < 8 * s.size) (hp : -9223372036854775808 ≤ pat ∧ pat < 9223372036854775808) :
    Calls Tryd.prog 15 #[.string s, .int .i64 bit, .int .i64 pat] w fun e w' => (∃ f, e = .returned (.string (bs (flipN s.data.toList f bit 32)))) ∧ Below w.heap.size w w' := by
  have HP := Lib.hid hp
  clear hp
  go_enter Tryd.func15, Tryd.ntmps15
  go_wp2_with (refine wpList_to_bytes_row rfl 9 30 5 _ rfl s rfl Tryd.underlying9 Tryd.underlying30 Tryd.underlying5 (by unfold maxLen; omega) ?_; intro cap w1 hc1 hc2 hr1 hb1)
  have HR1 := Lib.hid hr1
  have HB1 := Lib.hid hb1
  clear hr1 hb1
  go_loopw [8, 9] (fun i _ wr => ∃ (k : Nat) (l : List UInt8), k ≤ 32 ∧ i = .int .i64 k ∧ l.length ≤ s.size ∧ s.size ≤ l.length ∧ Hid (∃ f, l = flipN s.data.toList f bit k) ∧ RowB wr w.heap.size 5 l ∧ Below w.heap.size w wr) (fun i _ _ => 32 - (intOf i).toNat)
  case atStart => exact ⟨0, s.data.toList, by omega, rfl, by simp, by simp, ⟨fun _ => false, rfl⟩, HR1.out, HB1.out⟩
  case round =>
    clear HR1 HB1
    obtain ⟨k, l, hk, rfl, hl1, hl2, hf, hr, hbe⟩ := hrel
    have HR := Lib.hid hr
    have HB := Lib.hid hbe
    clear hr hbe
    by_cases h32 : k < 32
    · have HN := Lib.hid (flipN_same hf.out)
      have hat : bit + k < 8 * s.size ∨ 8 * s.size ≤ bit + k := by omega
      rcases hat with hat | hat
      · have hd : (bit + k) / 8 < l.length := by omega
        have HM := Lib.hid (flipN_more hf.out true)
        have c1 := HR.out.cell _ hd
        have f1 := HR.out.frozen _ hd
        have HV : Hid (∃ y : UInt8, y = l[(bit + k) / 8] ^^^ UInt8.ofNat (2 ^ ((bit + k) % 8)) ∧ bits .xor .u8 (l[(bit + k) / 8].toNat : Int) (2 ^ ((bit + k) % 8) % 256) = (y.toNat : Int)) := by
          refine ⟨_, rfl, ?_⟩
          rw [← xor8]
          congr 1
        clear hf
        go_wp2
        · go_region
          obtain ⟨y, hy, hv⟩ := HV.out
          rw [hv]
          have HS1 : Hid (RowB (wr.setCell ⟨w.heap.size, (bit + k) / 8, none⟩ (.int .u8 y.toNat)) w.heap.size 5 (flip1 l true (bit + k))) := by
            have e : flip1 l true (bit + k) = l.set ((bit + k) / 8) y := by
              unfold flip1
              rw [if_pos ⟨rfl, by omega⟩, hy, List.getD_eq_getElem?_getD, List.getElem?_eq_getElem hd]; rfl
            rw [e]; exact HR.out.stored _ y
          have HB1 : Hid (Below w.heap.size w (wr.setCell ⟨w.heap.size, (bit + k) / 8, none⟩ (.int .u8 y.toNat))) := HB.out.setCell (p := ⟨w.heap.size, (bit + k) / 8, none⟩) (Nat.le_refl _) _
          have HL : Hid ((flip1 l true (bit + k)).length = l.length) := flip1_len _ _ _
          clear hv hy HV c1 f1
          go_wp2
          go_roundw
          case rel => exact ⟨k + 1, flip1 l true (bit + k), by omega, by go_num, by rw [HL.out]; exact hl1, by rw [HL.out]; exact hl2, HM.out, HS1.out.kept rfl, HB1.out.drew⟩
          case measure => simp [intOf]; omega
        · go_roundw
          case rel => exact ⟨k + 1, l, by omega, by go_num, hl1, hl2, HN.out, HR.out, HB.out⟩
          case measure => simp [intOf]; omega
      · clear hf
        go_wp2
        all_goals
          go_roundw
          case rel => exact ⟨k + 1, l, by omega, by go_num, hl1, hl2, HN.out, HR.out, HB.out⟩
          case measure => simp [intOf]; omega
    · obtain rfl : k = 32 := by omega
      have hcv : (convert 30 9 (.slice (some ⟨w.heap.size, 0, none⟩) s.size cap)).run Tryd.prog wr = .ok (.string (bs l)) wr :=
        run_str_cells (P := Tryd.prog) wr 30 5 9 Tryd.underlying30 Tryd.underlying5 Tryd.underlying9 w.heap.size 0 s.size cap l (by omega) (fun i hi => by rw [Nat.zero_add]; exact HR.out.cells i (by omega))
      go_wp2
      go_ret
      obtain ⟨f, hf⟩ := hf.out
      exact ⟨⟨f, by rw [← hf]; rfl⟩, HB.out⟩
end Go.Proofs.YtmloabphhebioaaDoor
