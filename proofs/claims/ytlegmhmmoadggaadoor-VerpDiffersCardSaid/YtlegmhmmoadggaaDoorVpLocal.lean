/- verp: mac, local, Bounce, Vote, Confirm. -/
import Derived.Test.YtlegmhmmoadggaaDoorVpEnv
import Derived.WalkSmall
namespace Go.Proofs.YtlegmhmmoadggaaDoor
open Go.RowKit Wr Vp
open Dg hiding bs bs_size bs_data
namespace Vp
theorem Bt {w w1 w2 : World} (h : Below w.heap.size w w1) (h2 : Below w1.heap.size w1 w2) : Below w.heap.size w w2 := h.trans (h2.mono h.size)
theorem eint_len {n : Int} (h : I64 n) : (eint n).length ≤ 21 := by unfold eint; have := itoa_len n h; simp; omega
theorem enum_len {n : Int} (h : I64 n) : (enum n).length ≤ 21 := by
  unfold enum
  split
  · simp
  · exact eint_len h
theorem etext_len (l : List UInt8) (h : l.length ≤ 1000000) : (etext l).length ≤ l.length + 22 := by
  unfold etext
  have := itoa_len (l.length : Int) ⟨by omega, by omega⟩
  simp only [List.length_append, List.length_cons, List.length_nil]; omega
theorem bsl (s : ByteArray) : bs s.data.toList = s := rfl
theorem bs_len (s : ByteArray) : s.data.toList.length = s.size := rfl
end Vp
set_option maxRecDepth 100000 in
theorem vmac_any (k word c : ByteArray) (w : World) (hE : VE w) (hk : k.size ≤ 1000000) (hw : word.size ≤ 100) (hc : c.size ≤ 800000) :
    Calls Tryd.prog 32 #[.string k, .string word, .string c] w fun e w' => e = .returned (.string (bs (mac5 k.data.toList word.data.toList c.data.toList))) ∧ Below w.heap.size w w' := by
  have HT := Lib.hid (wText_any word (by omega) w hE.env)
  have HE := Lib.hid hE
  clear hE
  have hz : (etext word.data.toList).length ≤ 200 := by
    have := etext_len word.data.toList (by rw [bs_len]; omega)
    rw [bs_len] at this; omega
  obtain ⟨t, ht⟩ : ∃ t, t = bs (etext word.data.toList) := ⟨_, rfl⟩
  have hts : t.size ≤ 200 := by rw [ht, bs_size]; exact hz
  rw [← ht] at HT
  have HTT := Lib.hid ht
  clear ht hz
  go_enter Tryd.func32, Tryd.ntmps32
  go_wp2_with fail
  refine HT.out.mono ?_
  rintro e w1 ⟨rfl, hb⟩
  have HB1 := Lib.hid hb
  have HE1 := Lib.hid (HE.out.step hb)
  clear hb
  go_wp2_with fail
  refine (mac_any k (t ++ c) w1 hk (by rw [ByteArray.size_append]; omega) HE1.out.kok HE1.out.kg).mono ?_
  rintro e w2 ⟨rfl, hb⟩
  have HB2 := Lib.hid (Bt HB1.out hb)
  clear hb
  obtain ⟨m, hm⟩ : ∃ m, m = Dg.bs (macL k.data.toList (t ++ c).data.toList) := ⟨_, rfl⟩
  rw [← hm]
  have hms : m.size = 32 := by rw [hm, Dg.bs_size, macL, sumL_len]
  have HM : Hid (m.extract 0 5 = bs (mac5 k.data.toList word.data.toList c.data.toList)) := by
    show _ = _
    have e : (t ++ c).data.toList = etext word.data.toList ++ c.data.toList := by
      rw [HTT.out]; simp
    rw [hm, e]
    unfold mac5
    exact upto_eq _ 5
  clear hm
  go_wp2
  go_ret
  refine ⟨?_, HB2.out⟩
  rw [← HM.out]; rfl
set_option maxRecDepth 100000 in
theorem vlocal_any (k : ByteArray) (kind : Int) (c : ByteArray) (w : World) (hE : VE w) (hk : k.size ≤ 1000000) (hw : 1 ≤ kind ∧ kind ≤ 3) (hc : c.size ≤ 800000) :
    Calls Tryd.prog 20 #[.string k, .int .i64 kind, .string c] w fun e w' => e = .returned (.string (bs (localV k.data.toList kind c.data.toList))) ∧ Below w.heap.size w w' := by
  have HE := Lib.hid hE
  clear hE
  have HW : Hid (w.cell? ⟨0, kind.toNat, none⟩ = some (.string (bs (word kind)))) := by
    have : kind = 1 ∨ kind = 2 ∨ kind = 3 := by omega
    rcases this with rfl | rfl | rfl
    · exact HE.out.w1
    · exact HE.out.w2
    · exact HE.out.w3
  have hws : (bs (word kind)).size ≤ 7 := by
    rw [bs_size]; unfold word; split <;> (try split) <;> (try split) <;> simp
  obtain ⟨wd, hwd⟩ : ∃ x, x = bs (word kind) := ⟨_, rfl⟩
  rw [← hwd] at HW hws
  have HWD := Lib.hid hwd
  clear hwd
  have c1 := HW.out
  go_enter Tryd.func20, Tryd.ntmps20
  go_wp2_with fail
  refine (vmac_any k wd c w HE.out hk (by omega) hc).mono ?_
  rintro e w1 ⟨rfl, hb⟩
  have HB1 := Lib.hid hb
  clear hb c1
  have hml : (mac5 k.data.toList wd.data.toList c.data.toList).length = 5 := mac5_len _ _ _
  obtain ⟨m, hm⟩ : ∃ m, m = bs (mac5 k.data.toList wd.data.toList c.data.toList) := ⟨_, rfl⟩
  rw [← hm]
  have hms : m.size = 5 := by rw [hm, bs_size]; exact hml
  have HM := Lib.hid hm
  clear hm hml
  go_wp2_with fail
  refine (b32_any (c ++ m) w1 (by rw [ByteArray.size_append]; omega)).mono ?_
  rintro e w2 ⟨rfl, hb⟩
  have HB2 := Lib.hid (Bt HB1.out hb)
  clear hb
  have hbl : (b32L (c ++ m).data.toList).length ≤ 2 * (c.size + 5) + 1 := by
    rw [b32L_len, bs_len, ByteArray.size_append]; omega
  obtain ⟨t, ht⟩ : ∃ x, x = Dg.bs (b32L (c ++ m).data.toList) := ⟨_, rfl⟩
  rw [← ht]
  have hts : t.size ≤ 2 * (c.size + 5) + 1 := by rw [ht, Dg.bs_size]; exact hbl
  have HR : Hid (wd ++ (⟨#[43]⟩ : ByteArray) ++ t = bs (localV k.data.toList kind c.data.toList)) := by
    show _ = _
    have e : (c ++ m).data.toList = c.data.toList ++ mac5 k.data.toList (word kind) c.data.toList := by
      rw [HM.out, HWD.out]; simp
    rw [ht, e, HWD.out]
    unfold localV
    apply ByteArray.ext; apply Array.ext'
    simp [Dg.bs]
  clear ht hbl
  go_wp2
  go_ret
  refine ⟨?_, HB2.out⟩
  rw [← HR.out]; rfl
theorem I64_max {n : Int} (h : I64 n) : I64 (max n 0) := by unfold I64 at *; omega
theorem enum_max (n : Int) : enum (max n 0) = eint (max n 0) := if_neg (by omega)
set_option maxRecDepth 100000 in
theorem bounce_any (k : ByteArray) (n : Int) (w : World) (hE : VE w) (hk : k.size ≤ 1000000) (hn : I64 n) :
    Calls Tryd.prog 11 #[.string k, .int .i64 n] w fun e w' => e = .returned (.string (bs (localV k.data.toList 1 (content 1 (max n 0) [])))) ∧ Below w.heap.size w w' := by
  have HE := Lib.hid hE
  have HC := Lib.hid (wNum_any (max n 0) (I64_max hn) w hE.env)
  have hzl := enum_len (I64_max hn)
  obtain ⟨t, ht⟩ : ∃ t, t = bs (enum (max n 0)) := ⟨_, rfl⟩
  have hts : t.size ≤ 21 := by rw [ht, bs_size]; exact hzl
  rw [← ht] at HC
  have HT : Hid (t.data.toList = content 1 (max n 0) []) := by
    show _ = _; rw [ht, enum_max]; unfold content; simp
  clear ht hzl hE
  go_enter Tryd.func11, Tryd.ntmps11
  go_wp2_with fail
  refine HC.out.mono ?_
  rintro e w1 ⟨rfl, hb⟩
  have HB1 := Lib.hid hb
  have HE1 := Lib.hid (HE.out.step hb)
  clear hb
  go_wp2_with fail
  refine (vlocal_any k 1 t w1 HE1.out hk (by omega) (by omega)).mono ?_
  rintro e w2 ⟨rfl, hb⟩
  have HB2 := Lib.hid (Bt HB1.out hb)
  clear hb
  rw [HT.out]
  go_wp2
  go_ret
  exact ⟨rfl, HB2.out⟩
set_option maxRecDepth 100000 in
theorem confirm_any (k u : ByteArray) (n : Int) (w : World) (hE : VE w) (hk : k.size ≤ 1000000) (hu : u.size ≤ 700000) :
    Calls Tryd.prog 13 #[.string k, .string u] w fun e w' => e = .returned (.string (bs (localV k.data.toList 3 (content 3 n u.data.toList)))) ∧ Below w.heap.size w w' := by
  have HE := Lib.hid hE
  have HC := Lib.hid (wText_any u (by omega) w hE.env)
  have hzl := etext_len u.data.toList (by rw [bs_len]; omega)
  rw [bs_len] at hzl
  obtain ⟨t, ht⟩ : ∃ t, t = bs (etext u.data.toList) := ⟨_, rfl⟩
  have hts : t.size ≤ u.size + 22 := by rw [ht, bs_size]; exact hzl
  rw [← ht] at HC
  have HT : Hid (t.data.toList = content 3 n u.data.toList) := by
    show _ = _; rw [ht]; unfold content; simp
  clear ht hzl hE
  go_enter Tryd.func13, Tryd.ntmps13
  go_wp2_with fail
  refine HC.out.mono ?_
  rintro e w1 ⟨rfl, hb⟩
  have HB1 := Lib.hid hb
  have HE1 := Lib.hid (HE.out.step hb)
  clear hb
  go_wp2_with fail
  refine (vlocal_any k 3 t w1 HE1.out hk (by omega) (by omega)).mono ?_
  rintro e w2 ⟨rfl, hb⟩
  have HB2 := Lib.hid (Bt HB1.out hb)
  clear hb
  rw [HT.out]
  go_wp2
  go_ret
  exact ⟨rfl, HB2.out⟩
set_option maxRecDepth 100000 in
theorem vote_any (k : ByteArray) (n : Int) (u : ByteArray) (w : World) (hE : VE w) (hk : k.size ≤ 1000000) (hn : I64 n) (hu : u.size ≤ 700000) :
    Calls Tryd.prog 12 #[.string k, .int .i64 n, .string u] w fun e w' => e = .returned (.string (bs (localV k.data.toList 2 (content 2 (max n 0) u.data.toList)))) ∧ Below w.heap.size w w' := by
  have HE := Lib.hid hE
  have HC := Lib.hid (wNum_any (max n 0) (I64_max hn) w hE.env)
  have hzl := enum_len (I64_max hn)
  obtain ⟨t, ht⟩ : ∃ t, t = bs (enum (max n 0)) := ⟨_, rfl⟩
  have hts : t.size ≤ 21 := by rw [ht, bs_size]; exact hzl
  rw [← ht] at HC
  have HT := Lib.hid ht
  clear ht hzl hE
  go_enter Tryd.func12, Tryd.ntmps12
  go_wp2_with fail
  refine HC.out.mono ?_
  rintro e w1 ⟨rfl, hb⟩
  have HB1 := Lib.hid hb
  have HE1 := Lib.hid (HE.out.step hb)
  clear hb
  have HC2 := Lib.hid (wText_any u (by omega) w1 HE1.out.env)
  have hzl := etext_len u.data.toList (by rw [bs_len]; omega)
  rw [bs_len] at hzl
  obtain ⟨t2, ht⟩ : ∃ t, t = bs (etext u.data.toList) := ⟨_, rfl⟩
  have hts2 : t2.size ≤ u.size + 22 := by rw [ht, bs_size]; exact hzl
  rw [← ht] at HC2
  have HR : Hid ((t ++ t2).data.toList = content 2 (max n 0) u.data.toList) := by
    show _ = _; rw [ht, HT.out, enum_max]; unfold content; simp
  clear ht hzl
  go_wp2_with fail
  refine HC2.out.mono ?_
  rintro e w2 ⟨rfl, hb⟩
  have HB2 := Lib.hid (Bt HB1.out hb)
  have HE2 := Lib.hid (HE1.out.step hb)
  clear hb
  go_wp2_with fail
  refine (vlocal_any k 2 (t ++ t2) w2 HE2.out hk (by omega) (by rw [ByteArray.size_append]; omega)).mono ?_
  rintro e w3 ⟨rfl, hb⟩
  have HB3 := Lib.hid (Bt HB2.out hb)
  clear hb
  rw [HR.out]
  go_wp2
  go_ret
  exact ⟨rfl, HB3.out⟩
end Go.Proofs.YtlegmhmmoadggaaDoor
