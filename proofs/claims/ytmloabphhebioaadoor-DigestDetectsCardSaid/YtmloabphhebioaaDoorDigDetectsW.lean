/- DigestDetects: the walk. -/
import Derived.Test.YtmloabphhebioaaDoorDigFlip
import Derived.OpenShut
namespace Go.Proofs.YtmloabphhebioaaDoor
open Go.RowKit Dg
theorem crcN_tells (s : List UInt8) (f : Nat → Bool) (bit : Nat) (h : crcN s = crcN (flipN s f bit 32)) : flipN s f bit 32 = s := by
  have h1 : ~~~ crcX s = ~~~ crcX (flipN s f bit 32) := UInt32.toNat_inj.1 h
  have h2 : crcX s = crcX (flipN s f bit 32) := by
    have := congrArg (~~~ ·) h1
    simpa using this
  exact (crcX_tells s _ (flipN_len s f bit 32).symm bit (fun i hi => (flipN_bit s f bit 32 i hi).symm) h2).symm
set_option maxHeartbeats 2000000 in
theorem detects_walk (s : ByteArray) (bit pat : Int) (w : World) (hs : s.size ≤ maxLen) (hb0 : (Lit.int .i64 bit).wf = true) (hp0 : (Lit.int .i64 pat).wf = true) (hK : KOK w) (hg : 0 < w.heap.size) :
    Calls Tryd.prog 4 #[.string s, .int .i64 bit, .int .i64 pat] w fun e w' => e = .returned (.bool true) ∧ Below w.heap.size w w' := by
  unfold maxLen at hs
  have HK := Lib.hid hK
  have HP : Hid (-9223372036854775808 ≤ pat ∧ pat < 9223372036854775808) := by
    simp [Lit.wf, IntKind.min, IntKind.max, IntKind.signed, IntKind.bits] at hp0
    show _ ∧ _
    omega
  have HQ : Hid (-9223372036854775808 ≤ bit ∧ bit < 9223372036854775808) := by
    simp [Lit.wf, IntKind.min, IntKind.max, IntKind.signed, IntKind.bits] at hb0
    show _ ∧ _
    omega
  clear hp0 hb0
  by_cases hin : s.size ≤ 2000 ∧ 0 ≤ bit ∧ bit < 8 * (s.size : Int)
  · obtain ⟨h1, h2, h3⟩ := hin
    obtain ⟨b, rfl⟩ : ∃ b : Nat, bit = (b : Int) := ⟨bit.toNat, by omega⟩
    have hb3 : b < 8 * s.size := by omega
    go_enter Tryd.func4, Tryd.ntmps4
    go_wp2_with fail
    refine (small_any w HK.out hg).mono ?_
    rintro e w1 ⟨rfl, hb⟩
    have HB1 := Lib.hid hb
    clear hb hK
    go_wp2_with fail
    refine (flipped_any s b pat w1 h1 hb3 HP.out).mono ?_
    rintro e w2 ⟨⟨f, rfl⟩, hb⟩
    have HB2 := Lib.hid (HB1.out.trans (hb.mono HB1.out.size))
    clear hb
    by_cases he : crcN s.data.toList = crcN (flipN s.data.toList f b 32)
    · have e1 : bs (flipN s.data.toList f b 32) = s := by rw [crcN_tells _ _ _ he]; rfl
      rw [e1]
      clear he e1
      go_wp2_with fail
      refine (crc_any s w2 (by omega)).mono ?_
      rintro e w3 ⟨rfl, rfl⟩
      go_wp2_with fail
      refine (crc_any s w2 (by omega)).mono ?_
      rintro e w3 ⟨rfl, rfl⟩
      go_wp2
      go_ret
      exact ⟨rfl, HB2.out⟩
    · have hne : ¬ s = bs (flipN s.data.toList f b 32) := fun e => he (congrArg (fun z : ByteArray => crcN z.data.toList) e)
      have HL : Hid ((bs (flipN s.data.toList f b 32)).size ≤ 140737488351232) := by show (flipN s.data.toList f b 32).length ≤ _; rw [flipN_len]; simp; omega
      have hnn : ¬ crcN s.data.toList = crcN (bs (flipN s.data.toList f b 32)).data.toList := he
      obtain ⟨t, ht⟩ : ∃ t, t = bs (flipN s.data.toList f b 32) := ⟨_, rfl⟩
      rw [← ht] at hne HL hnn ⊢
      clear ht he
      go_wp2_with fail
      refine (crc_any s w2 (by omega)).mono ?_
      rintro e w3 ⟨rfl, rfl⟩
      go_wp2_with fail
      refine (crc_any t w2 HL.out).mono ?_
      rintro e w3 ⟨rfl, rfl⟩
      have hst : (s.toList == t.toList) = false := by rw [ByteArray.toList_eq, ByteArray.toList_eq]; exact beq_false_of_ne fun e => hne (ByteArray.ext (Array.toList_inj.1 e))
      have hnm : ((crcN s.data.toList : Int) == (crcN t.data.toList : Int)) = false := by simpa using (show ¬ (crcN s.data.toList : Int) = (crcN t.data.toList : Int) by omega)
      go_wp2
      go_ret
      exact ⟨rfl, HB2.out⟩
  · go_enter Tryd.func4, Tryd.ntmps4
    go_wp2_with fail
    refine (small_any w HK.out hg).mono ?_
    rintro e w1 ⟨rfl, hb⟩
    have HB := Lib.hid hb
    clear hb hK
    rcases Nat.lt_or_ge 2000 s.size with h2 | h2
    · go_wp2
      go_ret
      exact ⟨rfl, HB.out⟩
    · rcases Int.lt_or_le bit 0 with h3 | h3
      · go_wp2
        go_ret
        exact ⟨rfl, HB.out⟩
      · have h4 : 8 * (s.size : Int) ≤ bit := by omega
        go_wp2
        go_ret
        exact ⟨rfl, HB.out⟩
end Go.Proofs.YtmloabphhebioaaDoor
