/- DigestResidue: the walk. -/
import Derived.Test.YtmloabphhebioaaDoorDigSmall
import Derived.Test.YtmloabphhebioaaDoorDigBits
namespace Go.Proofs.YtmloabphhebioaaDoor
open Go.RowKit Dg
theorem crcN_lt (l : List UInt8) : crcN l < 4294967296 := w32_lt _
set_option maxHeartbeats 2000000 in
theorem residue_walk (s : ByteArray) (w : World) (hs : s.size ≤ maxLen) (hK : KOK w) (hg : 0 < w.heap.size) :
    Calls Tryd.prog 5 #[.string s] w fun e w' => e = .returned (.bool true) ∧ Below w.heap.size w w' := by
  unfold maxLen at hs
  have HK := Lib.hid hK
  by_cases h2 : 2000 < s.size
  · go_enter Tryd.func5, Tryd.ntmps5
    go_wp2_with fail
    refine (small_any w HK.out hg).mono ?_
    rintro e w1 ⟨rfl, hb⟩
    have HB := Lib.hid hb
    clear hb hK
    go_wp2
    go_ret
    exact ⟨rfl, HB.out⟩
  · go_enter Tryd.func5, Tryd.ntmps5
    go_wp2_with fail
    refine (small_any w HK.out hg).mono ?_
    rintro e w1 ⟨rfl, hb⟩
    have HB1 := Lib.hid hb
    clear hb hK
    go_wp2_with fail
    refine (crc_any s w1 (by omega)).mono ?_
    rintro e w2 ⟨rfl, hw⟩
    have HW := Lib.hid hw
    clear hw
    obtain ⟨n, hn⟩ : ∃ n, n = crcN s.data.toList := ⟨_, rfl⟩
    have hlt : n < 4294967296 := by rw [hn]; exact crcN_lt _
    have HR : Hid (crcN (s.data.toList ++ le4 n) = 558161692) := by show _ = _; rw [hn]; exact residue _
    rw [← hn]
    clear hn
    have hcv : ∀ W : World, (convert 30 9 (.slice (some ⟨W.heap.size, 0, none⟩) 4 4)).run Tryd.prog (W.alloc (.cells #[.int .u8 ((n : Int) % 256), .int .u8 ((n : Int) / 256 % 256), .int .u8 ((n : Int) / 65536 % 256), .int .u8 ((n : Int) / 16777216)] 5)) = .ok (.string (bs (le4 n))) (W.alloc (.cells #[.int .u8 ((n : Int) % 256), .int .u8 ((n : Int) / 256 % 256), .int .u8 ((n : Int) / 65536 % 256), .int .u8 ((n : Int) / 16777216)] 5)) := fun W =>
      run_str_cells (P := Tryd.prog) _ 30 5 9 Tryd.underlying30 Tryd.underlying5 Tryd.underlying9 W.heap.size 0 4 4 (le4 n) rfl
        (fun i hi => by
          have hb : ∀ m : Nat, m < 256 → ((UInt8.ofNat m).toNat : Int) = (m : Int) := fun m h => by simp [UInt8.toNat_ofNat', Nat.mod_eq_of_lt h]
          rw [Nat.zero_add, cell_of_row _ _ i _ _ _ (heap_alloc_new _ _)]
          have e : Lib.byteCells (le4 n) = [.int .u8 ((n : Int) % 256), .int .u8 ((n : Int) / 256 % 256), .int .u8 ((n : Int) / 65536 % 256), .int .u8 ((n : Int) / 16777216)] := by
            simp only [Lib.byteCells, le4, List.map_cons, List.map_nil]
            rw [hb _ (by omega), hb _ (by omega), hb _ (by omega), hb _ (by omega)]; rfl
          rw [e]; simp)
    have HA : Hid (Below w.heap.size w (w2.alloc (.cells #[.int .u8 ((n : Int) % 256), .int .u8 ((n : Int) / 256 % 256), .int .u8 ((n : Int) / 65536 % 256), .int .u8 ((n : Int) / 16777216)] 5))) :=
      (HW.out ▸ HB1.out : Below w.heap.size w w2).alloc (by have := (HW.out ▸ HB1.out : Below w.heap.size w w2).size; exact this) _
    have z4 : (bs (le4 n)).size = 4 := rfl
    have HL : Hid ((s ++ bs (le4 n)).size ≤ 140737488351232) := by show _ ≤ _; rw [ByteArray.size_append, z4]; omega
    have HE : Hid ((s ++ bs (le4 n)).data.toList = s.data.toList ++ le4 n) := by show _ = _; simp [bs]
    go_wp2_with fail
    refine (crc_any _ _ HL.out).mono ?_
    rintro e w3 ⟨rfl, hw⟩
    have HW3 := Lib.hid hw
    clear hw
    rw [HE.out, HR.out]
    go_wp2
    go_ret
    exact ⟨rfl, HW3.out ▸ HA.out⟩
end Go.Proofs.YtmloabphhebioaaDoor
