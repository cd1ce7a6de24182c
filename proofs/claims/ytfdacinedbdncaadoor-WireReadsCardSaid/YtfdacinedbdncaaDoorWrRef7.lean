/- (*missiveref02.Reader).Nums. -/
import Derived.Test.YtfdacinedbdncaaDoorWrRef6
import Derived.Test.YtfdacinedbdncaaDoorWrRow
namespace Go.Proofs.YtfdacinedbdncaaDoor
open Go.RowKit
namespace Wr
/-- where the reference's loop stands -/
structure RItint (b : Nat) (s : St) (N : Nat) (w : World) (v : Value) (i : Nat) (wr : World) (l : List Int) (q : St) : Prop where
  hi : i ≤ N
  own : Own wr w.heap.size 3 1 v l.length (l.map vi)
  rd : RR wr b q
  fr : Fr (· = b) w wr
  eq : (l ++ (rmany rint (N - i) q).1, (rmany rint (N - i) q).2) = rmany rint N s
  len : l.length + q.rest.length ≤ s.rest.length ∨ (q.bad = true ∧ q.rest = [] ∧ l.length ≤ s.rest.length + 1)
theorem RItint.start {b : Nat} {s : St} {N : Nat} {w wr : World} (hr : RR wr b s) (hf : Fr (· = b) w wr) : RItint b s N w (.slice none 0 0) 0 wr [] s :=
  ⟨by omega, Own.nil _ _ _ _, hr, hf, by simp, .inl (by simp)⟩
theorem RItint.step {b : Nat} {s : St} {N : Nat} {w wr w1 : World} {v v' : Value} {i : Nat} {l : List Int} {q : St} (h : RItint b s N w v i wr l q) (hj : i < N) (hb : q.bad = false) (hok : q.Ok)
    (hown : Own w1 w.heap.size 3 1 v' (l.length + 1) (l.map vi ++ [vi (rint q).1])) (hrd : RR w1 b (rint q).2) (hf : Fr (· = b) w w1) :
    RItint b s N w v' (i + 1) w1 (l ++ [(rint q).1]) (rint q).2 := by
  refine ⟨by omega, by simpa using hown, hrd, hf, ?_, ?_⟩
  · have e := h.eq
    have e1 : N - i = (N - (i + 1)) + 1 := by omega
    rw [e1] at e
    simp only [rmany, hb] at e
    rw [← e]
    simp
  · have hl : q.rest.length + l.length ≤ s.rest.length := by
      rcases h.len with h1 | ⟨h1, _⟩
      · omega
      · rw [hb] at h1; cases h1
    cases hq : (rint q).2.bad with
    | true =>
      refine .inr ⟨rfl, ?_, by simp; omega⟩
      exact rint_ok hok hq
    | false =>
      have := rint_lt q hq
      left; simp; omega
theorem RItint.done {b : Nat} {s : St} {N : Nat} {w wr : World} {v : Value} {i : Nat} {l : List Int} {q : St} (h : RItint b s N w v i wr l q) (hd : q.bad = true ∨ ¬ i < N) : rmany rint N s = (l, q) := by
  rw [← h.eq]
  rcases hd with hd | hd
  · rw [rmany_bad _ _ hd]; simp
  · have e : N - i = 0 := by omega
    rw [e]; simp [rmany]
theorem RItint.cap {b : Nat} {s : St} {N : Nat} {w wr : World} {v : Value} {i : Nat} {l : List Int} {q : St} (h : RItint b s N w v i wr l q) : l.length ≤ s.rest.length + 1 ∧ q.rest.length ≤ s.rest.length := by
  rcases h.len with h1 | ⟨_, h2, h3⟩
  · omega
  · rw [h2]; simp; omega
/-- what a method of the reference that reads a list does -/
def RListsint (b : Nat) (s : St) (w : World) (e : Ending) (w' : World) : Prop :=
  ∃ v, e = .returned v ∧ Own w' w.heap.size 3 1 v (rlist rint s).1.length ((rlist rint s).1.map vi) ∧ RR w' b (rlist rint s).2 ∧ Fr (· = b) w w'
set_option maxRecDepth 100000 in
set_option maxHeartbeats 2000000 in
theorem rrNums_any (b : Nat) (s : St) (w : World) (h : RR w b s) (hok : s.Ok) (hl : s.rest.length ≤ 1000000000) :
    Calls Tryd.prog 32 #[.pointer (some ⟨b, 0, none⟩)] w (RListsint b s w) := by
  obtain ⟨i0, hi, hz0, hz1, hz2⟩ := info_parts int_info
  have HC := Lib.hid (rnumber_any 91 b s w h (by omega))
  have hn0 := rnum_ge 91 s
  have hi64 := rnum_i64 91 0 s
  have hle := rnum_le 91 0 s
  have hok1 : (rnum 91 0 s).2.Ok := rnum_ok hok
  obtain ⟨n, hn⟩ : ∃ n, n = rnum 91 0 s := ⟨_, rfl⟩
  obtain ⟨n, q⟩ := n
  have HN := Lib.hid hn
  rw [← hn] at HC hn0 hi64 hle hok1
  simp only at hn0 hle hi64 hok1
  obtain ⟨N, rfl⟩ : ∃ k : Nat, n = (k : Int) := ⟨n.toNat, by omega⟩
  have hk : (N : Int) ≤ 9223372036854775807 := hi64.2
  have HLT := Lib.hid h.lt
  have HOK := Lib.hid hok1
  clear h hn hn0 hi64 hok hok1
  have hres : Hid (rlist rint s = if (rclose 93 (rmany rint N q).2).bad then ([], rclose 93 (rmany rint N q).2) else ((rmany rint N q).1, rclose 93 (rmany rint N q).2)) := by
    show _ = _
    unfold rlist
    rw [← HN.out]
    rfl
  go_enter Tryd.func32, Tryd.ntmps32
  go_wp2_with fail
  refine HC.out.mono ?_
  rintro e w0 ⟨rfl, h1, hf1⟩
  have HIT := Lib.hid (RItint.start (N := N) h1 hf1)
  clear h1 hf1
  go_wp2_with fail
  go_loopw [4, 5] (fun v n wr => ∃ (i : Nat) (l : List Int) (u : St), n = .int .i64 i ∧ u.Ok ∧ RItint b q N w v i wr l u) (fun _ n _ => N - (intOf n).toNat)
  case atStart => exact ⟨_, [], q, rfl, HOK.out, HIT.out⟩
  case round =>
    obtain ⟨i, l, u, rfl, hu, hI⟩ := hrel
    have hcap := hI.cap
    have hiN := hI.hi
    have HI := Lib.hid hI
    have HU := Lib.hid hu
    have c1 := hI.rd.c1
    clear hI hu HIT
    cases hbd : u.bad with
    | true =>
      have HD := Lib.hid (HI.out.done (.inl hbd))
      have hfl : Hid (rclose 93 u = u ∧ u.bad = true) := by
        have hr := HU.out hbd
        obtain ⟨ur, ub⟩ := u
        simp only at hr hbd
        subst hr hbd
        exact ⟨rfl, rfl⟩
      rw [hbd] at c1
      clear hbd
      by_cases hj : i < N
      all_goals
        go_wp2
        go_ret
        refine ⟨_, rfl, ?_⟩
        rw [hres.out, HD.out]
        rw [if_pos (by rw [hfl.out.1]; exact hfl.out.2)]
        rw [hfl.out.1]
        exact ⟨Own.nil _ _ _ _, HI.out.rd, HI.out.fr⟩
    | false =>
      rw [hbd] at c1
      by_cases hj : i < N
      · have HBD := Lib.hid hbd
        clear hbd
        go_wp2_with fail
        refine (rrInt_any b u wr HI.out.rd (by omega)).mono ?_
        rintro e w1 ⟨he, h1, hf1⟩
        obtain ⟨x, hx⟩ : ∃ x, x =  (rint u).1 := ⟨_, rfl⟩
        have hxe : vi (rint u).1 = .int .i64 x := by rw [hx]
        rw [hxe] at he
        subst he
        have HX := Lib.hid hxe
        clear hxe
        have hown : Own w1 w.heap.size 3 1 u4 l.length (l.map vi) := HI.out.own.fr hf1 (fun g hg e => by have := (HI.out.own.block_ge g hg).1; have := HLT.out; omega)
        have HOW := Lib.hid hown
        have HR1 := Lib.hid h1
        have HF1 := Lib.hid (HI.out.fr.trans hf1 (fun _ _ e => e))
        clear h1 hf1 hown hx
        go_wp2_with (at_builtin; (refine wpList_append_x rfl _ _ 22 rfl w.heap.size 3 i0 _ 1 8 Tryd.underlying22 hi hz0 hz1 hz2 rfl (by decide) _ l.length _ rfl (HOW.out.alloc _) ⟨w1.heap.size, 0, none⟩ 1 1 [.int .i64 x] rfl rfl (one_new (.int .i64 x) w1 _) (one_cell rfl) (by unfold maxLen; omega) (by omega) (by have := HF1.out.size; simp; omega) ?_; intro v' w2 hown' hgrow hnil hblk; clear hnil; refine Hid.out ?_))
        refine Lib.hid ?_
        have HF2 : Hid (Fr (· = b) w w2) := (HF1.out.alloc _).grown hgrow (fun k hk hlt => by
          have := (HOW.out.block_ge k hk).1; omega)
        have HR2 : Hid (RR w2 b (rint u).2) := by
          have hlt := HLT.out
          have hlt1 := HR1.out.lt
          refine (hgrow.block b (by simp; omega) (fun e => ?_)).trans ((Below.heap_alloc w1 _ b hlt1).trans HR1.out)
          have := (HOW.out.block_ge b e.symm).1
          omega
        have HOW2 := Lib.hid hown'
        clear hown' hgrow hblk
        go_wp2
        go_roundw
        case rel => exact ⟨i + 1, _, _, by go_num, rint_ok HU.out, HI.out.step hj HBD.out HU.out (by rw [HX.out]; exact HOW2.out) HR2.out HF2.out⟩
        case measure => simp [intOf]; omega
      · have HD := Lib.hid (HI.out.done (.inr hj))
        have HBD := Lib.hid hbd
        clear hbd
        have HCL := Lib.hid (rclose_any 93 b u wr HI.out.rd (by omega))
        cases hcb : headIs 93 u.rest with
        | true =>
          have hok2 : Hid ((rclose 93 u).bad = false) := by
            show _ = _
            unfold rclose
            cases hr : u.rest with
            | nil => rw [hr] at hcb; cases hcb
            | cons x t => rw [hr] at hcb; simp only [headIs, beq_iff_eq] at hcb; simp only; rw [if_pos hcb]; exact HBD.out
          rw [hcb] at HCL
          clear hcb
          go_wp2_with fail
          refine HCL.out.mono ?_
          rintro e w1 ⟨rfl, h1, hf1⟩
          have HR1 := Lib.hid h1
          have HF1 := Lib.hid hf1
          clear h1 hf1
          go_wp2
          go_ret
          refine ⟨_, rfl, ?_⟩
          rw [hres.out, HD.out]
          rw [if_neg (by rw [hok2.out]; decide)]
          exact ⟨HI.out.own.fr HF1.out (fun g hg e => by have := (HI.out.own.block_ge g hg).1; have := HLT.out; omega), HR1.out, HI.out.fr.trans HF1.out (fun _ _ e => e)⟩
        | false =>
          have hok2 : Hid ((rclose 93 u).bad = true) := by
            show _ = _
            unfold rclose
            cases hr : u.rest with
            | nil => rfl
            | cons x t => rw [hr] at hcb; simp only [headIs, beq_eq_false_iff_ne, ne_eq] at hcb; simp only; rw [if_neg hcb]; rfl
          rw [hcb] at HCL
          clear hcb
          go_wp2_with fail
          refine HCL.out.mono ?_
          rintro e w1 ⟨rfl, h1, hf1⟩
          have HR1 := Lib.hid h1
          have HF1 := Lib.hid hf1
          clear h1 hf1
          go_wp2
          go_ret
          refine ⟨_, rfl, ?_⟩
          rw [hres.out, HD.out]
          rw [if_pos hok2.out]
          exact ⟨Own.nil _ _ _ _, HR1.out, HI.out.fr.trans HF1.out (fun _ _ e => e)⟩
end Wr
end Go.Proofs.YtfdacinedbdncaaDoor
