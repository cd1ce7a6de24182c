/- missivelaw38: small, write. -/
import Derived.Test.YtlegmhmmoadggaaDoorVpCut
namespace Go.Proofs.YtlegmhmmoadggaaDoor
open Go.RowKit Wr Vp
open Dg hiding bs bs_size bs_data
namespace Vp
theorem back {s l : List UInt8} {k n : Int} {u : List UInt8} (hk : 1 ≤ k ∧ k ≤ 3) (hn : I64 n) (h0 : 0 ≤ n) (hu : u.length ≤ 700000) (h : lower l = localV s k (content k n u)) :
    parse s l = ⟨k, if k = 3 then 0 else n, if k = 1 then [] else u, true⟩ := by
  rw [parse_local hk h, read_content hk hn h0 (by unfold len63; omega)]
  rfl
theorem content_len {k n : Int} {u : List UInt8} (hn : I64 n) (hu : u.length ≤ 700000) : (content k n u).length ≤ u.length + 43 := by
  have h1 := eint_len hn
  have h2 := etext_len u (by omega)
  unfold content
  split
  · omega
  · split
    · rw [List.length_append]; omega
    · omega
theorem local_len (s : List UInt8) (k : Int) (c : List UInt8) : (localV s k c).length ≤ 2 * c.length + 19 := by
  have hw : (word k).length ≤ 7 := by unfold word; split <;> (try split) <;> (try split) <;> simp
  unfold localV
  rw [List.length_append, List.length_cons, b32L_len, List.length_append, mac5_len]; omega
theorem upper_len (l : List UInt8) : (upper l).length = l.length := by unfold upper; simp
theorem none1 : parse [107] [118, 111, 116, 101, 43, 97, 98, 99] = .none := parse_none (by decide +kernel)
end Vp
theorem parse_as (k s : ByteArray) (w : World) (hE : VE w) (hk : k.size ≤ 1000000) (hs : s.size ≤ 400000) (o : Out) (ho : parse k.data.toList s.data.toList = o) :
    Calls Tryd.prog 7 #[.string k, .string s] w fun e w' => e = .returned (.tuple #[.int .i64 o.kind, .int .i64 o.n, .string (bs o.user), .bool o.ok]) ∧ Below w.heap.size w w' :=
  (parse_any k s w hE hk hs).mono fun e w' ⟨h, hb⟩ => ⟨by rw [h, ho]; rfl, hb⟩
set_option maxRecDepth 100000 in
theorem small_any (w : World) (hE : VE w) :
    Calls Tryd.prog 6 #[] w fun e w' => e = .returned (.bool true) ∧ Below w.heap.size w w' := by
  have HE := Lib.hid hE
  clear hE
  have hsz := local_len [107] 1 (content 1 (max 7 0) [])
  have hcz := content_len (k := 1) (n := max 7 0) (u := []) ⟨by decide, by decide⟩ (by decide)
  have HP1 : Hid (parse [107] (localV [107] 1 (content 1 (max 7 0) [])) = ⟨1, 7, [], true⟩) :=
    back (k := 1) (n := max 7 0) (u := []) (by omega) ⟨by decide, by decide⟩ (by decide) (by decide) (lower_local _ _ _)
  have C1 := Lib.hid (bounce_any ⟨#[107]⟩ 7 w HE.out (by decide) ⟨by decide, by decide⟩)
  obtain ⟨t, ht⟩ : ∃ t, t = bs (localV (⟨#[107]⟩ : ByteArray).data.toList 1 (content 1 (max 7 0) [])) := ⟨_, rfl⟩
  rw [← ht] at C1
  have hts : t.size ≤ 1000 := by
    rw [ht, bs_size]; simp only [List.length_nil] at hcz; exact Nat.le_trans hsz (by omega)
  have HP : Hid (parse (⟨#[107]⟩ : ByteArray).data.toList t.data.toList = ⟨1, 7, [], true⟩) := by show _ = _; rw [ht]; exact HP1.out
  clear ht hsz hcz HP1
  go_enter Tryd.func6, Tryd.ntmps6
  go_wp2_with fail
  refine C1.out.mono ?_
  rintro e w1 ⟨rfl, hb⟩
  have HB1 := Lib.hid hb
  have HE1 := Lib.hid (HE.out.step hb)
  clear hb
  go_wp2_with fail
  refine (parse_as ⟨#[107]⟩ t w1 HE1.out (by decide) (by omega) _ HP.out).mono ?_
  rintro e w2 ⟨rfl, hb⟩
  have HB2 := Lib.hid (Bt HB1.out hb)
  have HE2 := Lib.hid (HE1.out.step hb)
  clear hb
  go_wp2_with fail
  refine (parse_as ⟨#[107]⟩ ⟨#[118, 111, 116, 101, 43, 97, 98, 99]⟩ w2 HE2.out (by decide) (by decide) .none none1).mono ?_
  rintro e w3 ⟨rfl, hb⟩
  have HB3 := Lib.hid (Bt HB2.out hb)
  clear hb
  go_wp2
  go_ret
  exact ⟨rfl, HB3.out⟩
set_option maxRecDepth 100000 in
theorem vwrite_any (k : ByteArray) (kind n : Int) (u : ByteArray) (w : World) (hE : VE w) (hk : k.size ≤ 1000000) (hki : 1 ≤ kind ∧ kind ≤ 3) (hn : I64 n) (hu : u.size ≤ 700000) :
    Calls Tryd.prog 8 #[.string k, .int .i64 kind, .int .i64 n, .string u] w fun e w' => e = .returned (.string (bs (localV k.data.toList kind (content kind (max n 0) u.data.toList)))) ∧ Below w.heap.size w w' := by
  have C1 := Lib.hid (bounce_any k n w hE hk hn)
  have C2 := Lib.hid (vote_any k n u w hE hk hn hu)
  have C3 := Lib.hid (confirm_any k u (max n 0) w hE hk hu)
  clear hE hn
  have : kind = 1 ∨ kind = 2 ∨ kind = 3 := by omega
  rcases this with rfl | rfl | rfl
  · go_enter Tryd.func8, Tryd.ntmps8
    go_wp2_with fail
    refine C1.out.mono ?_
    rintro e w1 ⟨rfl, hb⟩
    have HB := Lib.hid hb
    clear hb
    go_wp2
    go_ret
    exact ⟨rfl, HB.out⟩
  · go_enter Tryd.func8, Tryd.ntmps8
    go_wp2_with fail
    refine C2.out.mono ?_
    rintro e w1 ⟨rfl, hb⟩
    have HB := Lib.hid hb
    clear hb
    go_wp2
    go_ret
    exact ⟨rfl, HB.out⟩
  · go_enter Tryd.func8, Tryd.ntmps8
    go_wp2_with fail
    refine C3.out.mono ?_
    rintro e w1 ⟨rfl, hb⟩
    have HB := Lib.hid hb
    clear hb
    go_wp2
    go_ret
    exact ⟨rfl, HB.out⟩
end Go.Proofs.YtlegmhmmoadggaaDoor
