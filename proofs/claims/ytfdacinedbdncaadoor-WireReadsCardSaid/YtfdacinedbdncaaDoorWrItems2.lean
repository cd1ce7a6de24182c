/- wire.items[string] and (*wire.Reader).Texts. -/
import Derived.Test.YtfdacinedbdncaaDoorWrWalk4
import Derived.Test.YtfdacinedbdncaaDoorWrRow
namespace Go.Proofs.YtfdacinedbdncaaDoor
open Go.RowKit
namespace Wr
/-- where the loop of items stands -/
structure Itstring (b : Nat) (s : St) (N : Nat) (w : World) (v : Value) (n : Int) (wr : World) (l : List (List UInt8)) (q : St) : Prop where
  hn : 0 ≤ n
  hN : n ≤ N
  own : Own wr w.heap.size 9 1 v l.length (l.map vs)
  rd : Rd 54 wr b q
  env : Env wr
  fr : Fr (· = b) w wr
  eq : (l ++ (rmany rtext n.toNat q).1, (rmany rtext n.toNat q).2) = rmany rtext N s
  len : l.length + q.rest.length ≤ s.rest.length ∨ (q.bad = true ∧ q.rest = [] ∧ l.length ≤ s.rest.length + 1)
theorem Itstring.start {b : Nat} {s : St} {N : Nat} {w wr : World} (hr : Rd 54 wr b s) (hE : Env wr) (hf : Fr (· = b) w wr) : Itstring b s N w (.slice none 0 0) N wr [] s :=
  ⟨by omega, Int.le_refl _, Own.nil _ _ _ _, hr, hE, hf, by simp, .inl (by simp)⟩
theorem Itstring.step {b : Nat} {s : St} {N : Nat} {w wr w1 : World} {v v' : Value} {j : Int} {l : List (List UInt8)} {q : St} (h : Itstring b s N w v j wr l q) (hj : 0 < j) (hb : q.bad = false) (hok : q.Ok)
    (hown : Own w1 w.heap.size 9 1 v' (l.length + 1) (l.map vs ++ [vs (rtext q).1])) (hrd : Rd 54 w1 b (rtext q).2) (hE : Env w1) (hf : Fr (· = b) w w1) :
    Itstring b s N w v' (j - 1) w1 (l ++ [(rtext q).1]) (rtext q).2 := by
  refine ⟨by omega, by have := h.hN; omega, by simpa using hown, hrd, hE, hf, ?_, ?_⟩
  · have e := h.eq
    have e1 : j.toNat = (j - 1).toNat + 1 := by omega
    rw [e1] at e
    simp only [rmany, hb] at e
    rw [← e]
    simp
  · have hl : q.rest.length + l.length ≤ s.rest.length := by
      rcases h.len with h1 | ⟨h1, _⟩
      · omega
      · rw [hb] at h1; cases h1
    cases hq : (rtext q).2.bad with
    | true =>
      refine .inr ⟨rfl, ?_, by simp; omega⟩
      exact rtext_ok hok hq
    | false =>
      have := rtext_lt q hq
      left; simp; omega
theorem Itstring.done {b : Nat} {s : St} {N : Nat} {w wr : World} {v : Value} {j : Int} {l : List (List UInt8)} {q : St} (h : Itstring b s N w v j wr l q) (hd : q.bad = true ∨ ¬ 0 < j) : rmany rtext N s = (l, q) := by
  rw [← h.eq]
  rcases hd with hd | hd
  · rw [rmany_bad _ _ hd]; simp
  · have e : j.toNat = 0 := by omega
    rw [e]; simp [rmany]
theorem Itstring.cap {b : Nat} {s : St} {N : Nat} {w wr : World} {v : Value} {n : Int} {l : List (List UInt8)} {q : St} (h : Itstring b s N w v n wr l q) : l.length ≤ s.rest.length + 1 ∧ q.rest.length ≤ s.rest.length := by
  rcases h.len with h1 | ⟨_, h2, h3⟩
  · omega
  · rw [h2]; simp; omega
/-- what a method that reads a list does -/
def Listsstring (b : Nat) (s : St) (w : World) (e : Ending) (w' : World) : Prop :=
  ∃ v, e = .returned v ∧ Own w' w.heap.size 9 1 v (rlist rtext s).1.length ((rlist rtext s).1.map vs) ∧ Rd 54 w' b (rlist rtext s).2 ∧ Fr (· = b) w w'
set_option maxRecDepth 100000 in
set_option maxHeartbeats 2000000 in
theorem itemsstring_any (b : Nat) (s : St) (w : World) (h : Rd 54 w b s) (hok : s.Ok) (hE : Env w) (hb : NG ≤ b) (hl : s.rest.length ≤ 1000000000) :
    Calls Tryd.prog 54 #[.pointer (some ⟨b, 0, none⟩), .func (.func 28) #[.pointer (some ⟨b, 0, none⟩)] #[]] w (Listsstring b s w) := by
  obtain ⟨i0, hi, hz0, hz1, hz2⟩ := info_parts str_info
  have HC := Lib.hid (number_any 91 0 b s w h hE (by omega))
  have hn0 := rnum_ge 91 s
  have hi64 := rnum_i64 91 0 s
  have hle := rnum_le 91 0 s
  have hok1 : (rnum 91 0 s).2.Ok := rnum_ok hok
  obtain ⟨n, hn⟩ : ∃ n, n = rnum 91 0 s := ⟨_, rfl⟩
  obtain ⟨n, q⟩ := n
  have HN := Lib.hid hn
  rw [← hn] at HC hn0 hi64 hle hok1
  simp only at hn0 hle hi64 hok1
  obtain ⟨N, rfl⟩ : ∃ k : Nat, n = (k : Int) := ⟨n.toNat, by omega⟩
  have hk : (N : Int) ≤ 9223372036854775807 := hi64.2
  have HE := Lib.hid hE
  have HLT := Lib.hid h.lt
  have HOK := Lib.hid hok1
  clear h hE hn hn0 hi64 hok hok1
  have hres : Hid (rlist rtext s = if (rclose 93 (rmany rtext N q).2).bad then ([], rclose 93 (rmany rtext N q).2) else ((rmany rtext N q).1, rclose 93 (rmany rtext N q).2)) := by
    show _ = _
    unfold rlist
    rw [← HN.out]
    rfl
  have HES : Hid (∀ W, Fr (· = b) w W → Env W) := fun W hW => HE.out.fr hW (fun i hi e => by omega)
  go_enter Tryd.func54, Tryd.ntmps54
  go_wp2_with fail
  refine HC.out.mono ?_
  rintro e w0 ⟨rfl, h1, hf1⟩
  have HIT := Lib.hid (Itstring.start (N := N) h1 (HES.out _ hf1) hf1)
  clear h1 hf1
  go_wp2_with fail
  go_loopw [5, 6] (fun v n wr => ∃ (j : Int) (l : List (List UInt8)) (u : St), n = .int .i64 j ∧ u.Ok ∧ Itstring b q N w v j wr l u) (fun _ n _ => (intOf n).toNat)
  case atStart => exact ⟨_, [], q, rfl, HOK.out, HIT.out⟩
  case round =>
    obtain ⟨j, l, u, rfl, hu, hI⟩ := hrel
    have hcap := hI.cap
    have hj0 := hI.hn
    have hjN := hI.hN
    have HI := Lib.hid hI
    have HU := Lib.hid hu
    have c1 := hI.rd.c1
    clear hI hu HIT
    by_cases hj : 0 < j
    · have hdj : decide (0 < j) = true := decide_eq_true hj
      cases hbd : u.bad with
      | false =>
        rw [hbd] at c1
        have HBD := Lib.hid hbd
        clear hbd
        go_wp2_with fail
        refine (rdText_any b u wr HI.out.rd HI.out.env (by omega)).mono ?_
        rintro e w1 ⟨he, h1, hf1⟩
        obtain ⟨x, hx⟩ : ∃ x, x = bs (rtext u).1 := ⟨_, rfl⟩
        have hxe : vs (rtext u).1 = .string x := by rw [hx]
        rw [hxe] at he
        subst he
        have HX := Lib.hid hxe
        clear hxe
        have hown : Own w1 w.heap.size 9 1 u5 l.length (l.map vs) := HI.out.own.fr hf1 (fun g hg e => by have := (HI.out.own.block_ge g hg).1; have := HLT.out; omega)
        have HOW := Lib.hid hown
        have HR1 := Lib.hid h1
        have HF1 := Lib.hid (HI.out.fr.trans hf1 (fun _ _ e => e))
        clear h1 hf1 hown hx
        go_wp2_with (at_builtin; (refine wpList_append_x rfl _ _ 23 rfl w.heap.size 9 i0 _ 1 16 Tryd.underlying23 hi hz0 hz1 hz2 rfl (by decide) _ l.length _ rfl (HOW.out.alloc _) ⟨w1.heap.size, 0, none⟩ 1 1 [.string x] rfl rfl (one_new (.string x) w1 _) (one_cell rfl) (by unfold maxLen; omega) (by omega) (by have := HF1.out.size; simp; omega) ?_; intro v' w2 hown' hgrow hnil hblk; clear hnil; refine Hid.out ?_))
        refine Lib.hid ?_
        have HF2 : Hid (Fr (· = b) w w2) := (HF1.out.alloc _).grown hgrow (fun k hk hlt => by
          have := (HOW.out.block_ge k hk).1; omega)
        have HR2 : Hid (Rd 54 w2 b (rtext u).2) := by
          have hlt := HLT.out
          have hlt1 := HR1.out.lt
          refine (hgrow.block b (by simp; omega) (fun e => ?_)).trans ((Below.heap_alloc w1 _ b hlt1).trans HR1.out)
          have := (HOW.out.block_ge b e.symm).1
          omega
        have HOW2 := Lib.hid hown'
        clear hown' hgrow hblk
        go_wp2
        go_roundw
        case rel => exact ⟨_, _, _, rfl, rtext_ok HU.out, HI.out.step hj HBD.out HU.out (by rw [HX.out]; exact HOW2.out) HR2.out (HES.out _ HF2.out) HF2.out⟩
        case measure => simp [intOf]; omega
      | true =>
        rw [hbd] at c1
        have HD := Lib.hid (HI.out.done (.inl hbd))
        clear hbd
        have hb1 := HI.out.rd
        cases hcb : (rclose 93 u).bad with
        | true =>
          go_wp2_with fail
          refine (close_any 93 b u wr HI.out.rd).mono ?_
          rintro e w1 ⟨rfl, h1, hf1⟩
          have d1 := h1.c1
          rw [hcb] at d1
          have HR1 := Lib.hid h1
          have HF1 := Lib.hid hf1
          have HCB := Lib.hid hcb
          clear h1 hf1 hcb
          go_wp2
          go_ret
          refine ⟨_, rfl, ?_⟩
          rw [hres.out, HD.out]
          rw [if_pos HCB.out]
          exact ⟨Own.nil _ _ _ _, HR1.out, HI.out.fr.trans HF1.out (fun _ _ e => e)⟩
        | false =>
          go_wp2_with fail
          refine (close_any 93 b u wr HI.out.rd).mono ?_
          rintro e w1 ⟨rfl, h1, hf1⟩
          have d1 := h1.c1
          rw [hcb] at d1
          have HR1 := Lib.hid h1
          have HF1 := Lib.hid hf1
          have HCB := Lib.hid hcb
          clear h1 hf1 hcb
          go_wp2
          go_ret
          refine ⟨_, rfl, ?_⟩
          rw [hres.out, HD.out]
          rw [if_neg (by rw [HCB.out]; decide)]
          exact ⟨HI.out.own.fr HF1.out (fun g hg e => by have := (HI.out.own.block_ge g hg).1; have := HLT.out; omega), HR1.out, HI.out.fr.trans HF1.out (fun _ _ e => e)⟩
    · have hdj : decide (0 < j) = false := decide_eq_false hj
      have HD := Lib.hid (HI.out.done (.inr hj))
      have hb1 := HI.out.rd
      cases hcb : (rclose 93 u).bad with
      | true =>
        go_wp2_with fail
        refine (close_any 93 b u wr HI.out.rd).mono ?_
        rintro e w1 ⟨rfl, h1, hf1⟩
        have d1 := h1.c1
        rw [hcb] at d1
        have HR1 := Lib.hid h1
        have HF1 := Lib.hid hf1
        have HCB := Lib.hid hcb
        clear h1 hf1 hcb
        go_wp2
        go_ret
        refine ⟨_, rfl, ?_⟩
        rw [hres.out, HD.out]
        rw [if_pos HCB.out]
        exact ⟨Own.nil _ _ _ _, HR1.out, HI.out.fr.trans HF1.out (fun _ _ e => e)⟩
      | false =>
        go_wp2_with fail
        refine (close_any 93 b u wr HI.out.rd).mono ?_
        rintro e w1 ⟨rfl, h1, hf1⟩
        have d1 := h1.c1
        rw [hcb] at d1
        have HR1 := Lib.hid h1
        have HF1 := Lib.hid hf1
        have HCB := Lib.hid hcb
        clear h1 hf1 hcb
        go_wp2
        go_ret
        refine ⟨_, rfl, ?_⟩
        rw [hres.out, HD.out]
        rw [if_neg (by rw [HCB.out]; decide)]
        exact ⟨HI.out.own.fr HF1.out (fun g hg e => by have := (HI.out.own.block_ge g hg).1; have := HLT.out; omega), HR1.out, HI.out.fr.trans HF1.out (fun _ _ e => e)⟩
set_option maxRecDepth 100000 in
theorem rdTexts_any (b : Nat) (s : St) (w : World) (h : Rd 54 w b s) (hok : s.Ok) (hE : Env w) (hb : NG ≤ b) (hl : s.rest.length ≤ 1000000000) :
    Calls Tryd.prog 34 #[.pointer (some ⟨b, 0, none⟩)] w (Listsstring b s w) := by
  have HC := Lib.hid (itemsstring_any b s w h hok hE hb hl)
  clear h hok hE hb hl
  go_enter Tryd.func34, Tryd.ntmps34
  go_wp2_with fail
  refine HC.out.mono ?_
  rintro e w1 ⟨v, rfl, h1⟩
  have H1 := Lib.hid h1
  clear h1
  go_wp2
  go_ret
  exact ⟨v, rfl, H1.out⟩
end Wr
end Go.Proofs.YtfdacinedbdncaaDoor

