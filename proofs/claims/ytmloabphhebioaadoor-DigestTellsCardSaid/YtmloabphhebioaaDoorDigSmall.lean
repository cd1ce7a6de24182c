/- missivelaw03.small: the documentation's examples hold. -/
import Derived.Test.YtmloabphhebioaaDoorDigMac
import Derived.Test.YtmloabphhebioaaDoorDigU32
namespace Go.Proofs.YtmloabphhebioaaDoor
open Go.RowKit Dg
set_option maxRecDepth 100000
theorem ex_sum1 : bs (sumL (⟨#[97, 98, 99]⟩ : ByteArray).data.toList) = ⟨#[186, 120, 22, 191, 143, 1, 207, 234, 65, 65, 64, 222, 93, 174, 34, 35, 176, 3, 97, 163, 150, 23, 122, 156, 180, 16, 255, 97, 242, 0, 21, 173]⟩ := by decide +kernel
theorem ex_hex1 : bs (hexL (⟨#[186, 120, 22, 191, 143, 1, 207, 234, 65, 65, 64, 222, 93, 174, 34, 35, 176, 3, 97, 163, 150, 23, 122, 156, 180, 16, 255, 97, 242, 0, 21, 173]⟩ : ByteArray).data.toList) = ⟨#[98, 97, 55, 56, 49, 54, 98, 102, 56, 102, 48, 49, 99, 102, 101, 97, 52, 49, 52, 49, 52, 48, 100, 101, 53, 100, 97, 101, 50, 50, 50, 51, 98, 48, 48, 51, 54, 49, 97, 51, 57, 54, 49, 55, 55, 97, 57, 99, 98, 52, 49, 48, 102, 102, 54, 49, 102, 50, 48, 48, 49, 53, 97, 100]⟩ := by decide +kernel
theorem ex_sum2 : bs (sumL (⟨#[]⟩ : ByteArray).data.toList) = ⟨#[227, 176, 196, 66, 152, 252, 28, 20, 154, 251, 244, 200, 153, 111, 185, 36, 39, 174, 65, 228, 100, 155, 147, 76, 164, 149, 153, 27, 120, 82, 184, 85]⟩ := by decide +kernel
theorem ex_hex2 : bs (hexL (⟨#[227, 176, 196, 66, 152, 252, 28, 20, 154, 251, 244, 200, 153, 111, 185, 36, 39, 174, 65, 228, 100, 155, 147, 76, 164, 149, 153, 27, 120, 82, 184, 85]⟩ : ByteArray).data.toList) = ⟨#[101, 51, 98, 48, 99, 52, 52, 50, 57, 56, 102, 99, 49, 99, 49, 52, 57, 97, 102, 98, 102, 52, 99, 56, 57, 57, 54, 102, 98, 57, 50, 52, 50, 55, 97, 101, 52, 49, 101, 52, 54, 52, 57, 98, 57, 51, 52, 99, 97, 52, 57, 53, 57, 57, 49, 98, 55, 56, 53, 50, 98, 56, 53, 53]⟩ := by decide +kernel
theorem ex_crc1 : crcN (⟨#[49, 50, 51, 52, 53, 54, 55, 56, 57]⟩ : ByteArray).data.toList = 3421780262 := by decide +kernel
theorem ex_mac : bs (macL (⟨#[107, 101, 121]⟩ : ByteArray).data.toList (⟨#[84, 104, 101, 32, 113, 117, 105, 99, 107, 32, 98, 114, 111, 119, 110, 32, 102, 111, 120, 32, 106, 117, 109, 112, 115, 32, 111, 118, 101, 114, 32, 116, 104, 101, 32, 108, 97, 122, 121, 32, 100, 111, 103]⟩ : ByteArray).data.toList) = ⟨#[247, 188, 131, 244, 48, 83, 132, 36, 177, 50, 152, 230, 170, 111, 177, 67, 239, 77, 89, 161, 73, 70, 23, 89, 151, 71, 157, 188, 45, 26, 60, 216]⟩ := by decide +kernel
theorem ex_hex3 : bs (hexL (⟨#[247, 188, 131, 244, 48, 83, 132, 36, 177, 50, 152, 230, 170, 111, 177, 67, 239, 77, 89, 161, 73, 70, 23, 89, 151, 71, 157, 188, 45, 26, 60, 216]⟩ : ByteArray).data.toList) = ⟨#[102, 55, 98, 99, 56, 51, 102, 52, 51, 48, 53, 51, 56, 52, 50, 52, 98, 49, 51, 50, 57, 56, 101, 54, 97, 97, 54, 102, 98, 49, 52, 51, 101, 102, 52, 100, 53, 57, 97, 49, 52, 57, 52, 54, 49, 55, 53, 57, 57, 55, 52, 55, 57, 100, 98, 99, 50, 100, 49, 97, 51, 99, 100, 56]⟩ := by decide +kernel
theorem ex_crc2 : crcN (⟨#[]⟩ : ByteArray).data.toList = 0 := by decide +kernel
theorem ex_unhex1 : unhexL (⟨#[48, 65]⟩ : ByteArray).data.toList = none := by decide +kernel
theorem ex_unhex2 : unhexL (⟨#[48, 97]⟩ : ByteArray).data.toList = some [10] := by decide +kernel
theorem ex_unb : unb32L (⟨#[109, 122]⟩ : ByteArray).data.toList = none := by decide +kernel
theorem ex_b32 : bs (b32L (⟨#[102, 111, 111, 98, 97, 114]⟩ : ByteArray).data.toList) = ⟨#[109, 122, 120, 119, 54, 121, 116, 98, 111, 105]⟩ := by decide +kernel
theorem KOK.below {w w' : World} {B : Nat} (h : KOK w) (hb : Below B w w') (hg : 0 < B) : KOK w' := fun i hi => (hb.cell (p := ⟨_, i, none⟩) hg).trans (h i hi)
set_option maxHeartbeats 4000000 in
theorem small_any (w : World) (hK : KOK w) (hg : 0 < w.heap.size) :
    Calls Tryd.prog 10 #[] w fun e w' => e = .returned (.bool true) ∧ Below w.heap.size w w' := by
  have HK := Lib.hid hK
  clear hK
  go_enter Tryd.func10, Tryd.ntmps10
  have HB0 := Lib.hid (Below.refl w.heap.size w)
  have HK0 := HK
  have hg0 := hg
  go_wp2_with fail
  refine (unhex_any ⟨#[48, 65]⟩ w (by decide)).mono ?_
  rintro e w1 ⟨rfl, hb⟩
  have HB1 := Lib.hid (HB0.out.trans (hb.mono HB0.out.size))
  clear hb
  have HK1 := Lib.hid (HK.out.below HB1.out hg)
  have hg1 := Nat.lt_of_lt_of_le hg HB1.out.size
  rw [ex_unhex1, show optS none = .tuple #[.string ⟨#[]⟩, .bool false] from rfl]
  go_wp2_with fail
  refine (unhex_any ⟨#[48, 97]⟩ w1 (by decide)).mono ?_
  rintro e w2 ⟨rfl, hb⟩
  have HB2 := Lib.hid (HB1.out.trans (hb.mono HB1.out.size))
  clear hb
  have HK2 := Lib.hid (HK.out.below HB2.out hg)
  have hg2 := Nat.lt_of_lt_of_le hg HB2.out.size
  rw [ex_unhex2, show optS (some [10]) = .tuple #[.string ⟨#[10]⟩, .bool true] from rfl]
  go_wp2_with fail
  refine (unb32_any ⟨#[109, 122]⟩ w2 (by decide)).mono ?_
  rintro e w3 ⟨rfl, hb⟩
  have HB3 := Lib.hid (HB2.out.trans (hb.mono HB2.out.size))
  clear hb
  have HK3 := Lib.hid (HK.out.below HB3.out hg)
  have hg3 := Nat.lt_of_lt_of_le hg HB3.out.size
  rw [ex_unb, show optS none = .tuple #[.string ⟨#[]⟩, .bool false] from rfl]
  go_wp2_with fail
  refine (sum_any ⟨#[97, 98, 99]⟩ w3 (by decide) HK3.out hg3).mono ?_
  rintro e w4 ⟨rfl, hb⟩
  have HB4 := Lib.hid (HB3.out.trans (hb.mono HB3.out.size))
  clear hb
  have HK4 := Lib.hid (HK.out.below HB4.out hg)
  have hg4 := Nat.lt_of_lt_of_le hg HB4.out.size
  rw [ex_sum1]
  go_wp2_with fail
  refine (hex_any ⟨#[186, 120, 22, 191, 143, 1, 207, 234, 65, 65, 64, 222, 93, 174, 34, 35, 176, 3, 97, 163, 150, 23, 122, 156, 180, 16, 255, 97, 242, 0, 21, 173]⟩ w4 (by decide)).mono ?_
  rintro e w5 ⟨rfl, hb⟩
  have HB5 := Lib.hid (HB4.out.trans (hb.mono HB4.out.size))
  clear hb
  have HK5 := Lib.hid (HK.out.below HB5.out hg)
  have hg5 := Nat.lt_of_lt_of_le hg HB5.out.size
  rw [ex_hex1]
  go_wp2_with fail
  refine (sum_any ⟨#[]⟩ w5 (by decide) HK5.out hg5).mono ?_
  rintro e w6 ⟨rfl, hb⟩
  have HB6 := Lib.hid (HB5.out.trans (hb.mono HB5.out.size))
  clear hb
  have HK6 := Lib.hid (HK.out.below HB6.out hg)
  have hg6 := Nat.lt_of_lt_of_le hg HB6.out.size
  rw [ex_sum2]
  go_wp2_with fail
  refine (hex_any ⟨#[227, 176, 196, 66, 152, 252, 28, 20, 154, 251, 244, 200, 153, 111, 185, 36, 39, 174, 65, 228, 100, 155, 147, 76, 164, 149, 153, 27, 120, 82, 184, 85]⟩ w6 (by decide)).mono ?_
  rintro e w7 ⟨rfl, hb⟩
  have HB7 := Lib.hid (HB6.out.trans (hb.mono HB6.out.size))
  clear hb
  have HK7 := Lib.hid (HK.out.below HB7.out hg)
  have hg7 := Nat.lt_of_lt_of_le hg HB7.out.size
  rw [ex_hex2]
  go_wp2_with fail
  refine (crc_any ⟨#[49, 50, 51, 52, 53, 54, 55, 56, 57]⟩ w7 (by decide)).mono ?_
  rintro e w8 ⟨rfl, rfl⟩
  rw [ex_crc1]
  have HB8 := HB7
  have HK8 := HK7
  have hg8 := hg7
  go_wp2_with fail
  refine (mac_any ⟨#[107, 101, 121]⟩ ⟨#[84, 104, 101, 32, 113, 117, 105, 99, 107, 32, 98, 114, 111, 119, 110, 32, 102, 111, 120, 32, 106, 117, 109, 112, 115, 32, 111, 118, 101, 114, 32, 116, 104, 101, 32, 108, 97, 122, 121, 32, 100, 111, 103]⟩ w7 (by decide) (by decide) HK8.out hg8).mono ?_
  rintro e w9 ⟨rfl, hb⟩
  have HB9 := Lib.hid (HB8.out.trans (hb.mono HB8.out.size))
  clear hb
  have HK9 := Lib.hid (HK.out.below HB9.out hg)
  have hg9 := Nat.lt_of_lt_of_le hg HB9.out.size
  rw [ex_mac]
  go_wp2_with fail
  refine (hex_any ⟨#[247, 188, 131, 244, 48, 83, 132, 36, 177, 50, 152, 230, 170, 111, 177, 67, 239, 77, 89, 161, 73, 70, 23, 89, 151, 71, 157, 188, 45, 26, 60, 216]⟩ w9 (by decide)).mono ?_
  rintro e w10 ⟨rfl, hb⟩
  have HB10 := Lib.hid (HB9.out.trans (hb.mono HB9.out.size))
  clear hb
  have HK10 := Lib.hid (HK.out.below HB10.out hg)
  have hg10 := Nat.lt_of_lt_of_le hg HB10.out.size
  rw [ex_hex3]
  go_wp2_with fail
  refine (crc_any ⟨#[]⟩ w10 (by decide)).mono ?_
  rintro e w11 ⟨rfl, rfl⟩
  rw [ex_crc2]
  have HB11 := HB10
  have HK11 := HK10
  have hg11 := hg10
  go_wp2_with fail
  refine (b32_any ⟨#[102, 111, 111, 98, 97, 114]⟩ w10 (by decide)).mono ?_
  rintro e w12 ⟨rfl, hb⟩
  have HB12 := Lib.hid (HB11.out.trans (hb.mono HB11.out.size))
  clear hb
  have HK12 := Lib.hid (HK.out.below HB12.out hg)
  have hg12 := Nat.lt_of_lt_of_le hg HB12.out.size
  rw [ex_b32]
  go_wp2
  go_ret
  exact ⟨rfl, HB12.out⟩
end Go.Proofs.YtmloabphhebioaaDoor
