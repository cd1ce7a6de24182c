/- missivelaw02: the values; kind, number, SameNums, SameTexts, write. -/
import Derived.Test.YtfdacinedbdncaaDoorWrHelp1
namespace Go.Proofs.YtfdacinedbdncaaDoor
open Go.RowKit
namespace Wr
/-- a value to write -/
structure Vl where
  kind : Int
  n : Int
  s : List UInt8
  li : List Int
  lt : List (List UInt8)
def nneg (n : Int) : Int := if n < 0 then -(n + 1) else n
theorem nneg_ok {n : Int} (h : I64 n) : I64 (nneg n) ∧ 0 ≤ nneg n := by
  unfold nneg I64 at *
  split <;> omega
def Vl.kd (x : Vl) : Int := x.kind % 5
def Vl.enc (x : Vl) : List UInt8 :=
  if x.kd = 0 then enum (nneg x.n) else if x.kd = 1 then eint x.n else if x.kd = 2 then etext x.s else if x.kd = 3 then elist eint x.li else elist etext x.lt
/-- what a reader reads next is the value -/
def Vl.rd (x : Vl) (q : St) : Bool × St :=
  if x.kd = 0 then ((rnum 59 0 q).1 == nneg x.n, (rnum 59 0 q).2) else if x.kd = 1 then ((rint q).1 == x.n, (rint q).2) else if x.kd = 2 then ((rtext q).1 == x.s, (rtext q).2)
  else if x.kd = 3 then ((rlist rint q).1 == x.li, (rlist rint q).2) else ((rlist rtext q).1 == x.lt, (rlist rtext q).2)
/-- the value is small -/
structure Vl.Small (x : Vl) : Prop where
  s : x.s.length ≤ 400
  li : x.li.length ≤ 400
  lt : x.lt.length ≤ 400
  el : ∀ t ∈ x.lt, t.length ≤ 400
structure Vl.Ok (x : Vl) : Prop where
  k : I64 x.kind
  n : I64 x.n
  li : ∀ y ∈ x.li, I64 y
theorem itoa_le (n : Nat) (h : n ≤ 1000000000000) : (Lib.itoa (n : Int)).length ≤ 20 := itoa_len _ ⟨by omega, by omega⟩
theorem eint_len {n : Int} (h : I64 n) : (eint n).length ≤ 21 := by unfold eint; have := itoa_len n h; simp; omega
theorem flat_len {α : Type} (f : α → List UInt8) (B : Nat) : ∀ l : List α, (∀ x ∈ l, (f x).length ≤ B) → (l.flatMap f).length ≤ l.length * B
  | [], _ => by simp
  | x :: t, h => by
    have h1 := h x (by simp)
    have h2 := flat_len f B t (fun y hy => h y (by simp [hy]))
    simp only [List.flatMap_cons, List.length_append, List.length_cons, Nat.add_mul, Nat.one_mul]
    omega
theorem enc_len {x : Vl} (h : x.Small) (ho : x.Ok) : x.enc.length ≤ 200000 ∧ (elist eint x.li).length ≤ 200000 ∧ (elist etext x.lt).length ≤ 200000 := by
  have a1 := (nneg_ok ho.n).1
  have a2 := eint_len a1
  have a3 := eint_len ho.n
  have a4 : (etext x.s).length ≤ 422 := by have := itoa_le x.s.length (by have := h.s; omega); have := h.s; unfold etext; simp; omega
  have a5 : (elist eint x.li).length ≤ 200000 := by
    have h1 := flat_len eint 21 x.li (fun y hy => eint_len (ho.li y hy))
    have := itoa_le x.li.length (by have := h.li; omega)
    have := h.li
    unfold elist; simp only [List.length_append, List.length_cons, List.length_nil]; omega
  have a6 : (elist etext x.lt).length ≤ 200000 := by
    have h1 := flat_len etext 422 x.lt (fun t ht => by have h1 := h.el t ht; have := itoa_le t.length (by omega); unfold etext; simp; omega)
    have := itoa_le x.lt.length (by have := h.lt; omega)
    have := h.lt
    unfold elist; simp only [List.length_append, List.length_cons, List.length_nil]; omega
  refine ⟨?_, a5, a6⟩
  unfold Vl.enc enum
  repeat' split
  all_goals first | (simp; done) | omega
theorem rmany_ok {α : Type} {one : St → α × St} (h : ∀ s : St, s.Ok → (one s).2.Ok) : ∀ (n : Nat) (s : St), s.Ok → (rmany one n s).2.Ok
  | 0, s, hs => hs
  | n + 1, s, hs => by
    simp only [rmany]
    split
    · exact hs
    · exact rmany_ok h n _ (h s hs)
theorem rlist_ok {α : Type} {one : St → α × St} (h : ∀ s : St, s.Ok → (one s).2.Ok) {q : St} (hq : q.Ok) : (rlist one q).2.Ok := by
  unfold rlist
  simp only
  have h1 : (rclose 93 (rmany one (rnum 91 0 q).1.toNat (rnum 91 0 q).2).2).Ok := rclose_ok (rmany_ok h _ _ (rnum_ok hq))
  split <;> exact h1
/-- a value reads back -/
theorem Vl.back {x : Vl} (h : x.Small) (ho : x.Ok) (t : List UInt8) : x.rd ⟨x.enc ++ t, false⟩ = (true, ⟨t, false⟩) := by
  have b1 : ∀ u, rnum 59 0 ⟨enum (nneg x.n) ++ u, false⟩ = (nneg x.n, ⟨u, false⟩) := by
    intro u
    unfold enum
    rw [if_neg (by have := (nneg_ok ho.n).2; omega)]
    unfold eint
    rw [List.append_assoc]
    exact rnum_mk rfl (nneg_ok ho.n).1 (nneg_ok ho.n).2 u false
  unfold Vl.rd Vl.enc
  split
  · rw [b1]; simp
  · split
    · rw [rint_mk ho.n]; simp
    · split
      · rw [rtext_mk (by have := h.s; unfold len63; omega)]; simp
      · split
        · rw [rlist_mk (by have := h.li; unfold len63; omega) (fun y hy u => rint_mk (ho.li y hy) u false)]; simp
        · rw [rlist_mk (by have := h.lt; unfold len63; omega) (fun y hy u => rtext_mk (by have := h.el y hy; unfold len63; omega) u)]; simp
theorem Vl.rd_ok {x : Vl} {q : St} (h : q.Ok) : (x.rd q).2.Ok := by
  unfold Vl.rd
  repeat' split
  · exact rnum_ok h
  · exact rint_ok h
  · exact rtext_ok h
  · exact rlist_ok (fun s hs => rint_ok hs) h
  · exact rlist_ok (fun s hs => rtext_ok hs) h
set_option maxRecDepth 100000 in
theorem kind_any (k n : Int) (s : ByteArray) (p1 p2 : Option Addr) (n1 n2 c1 c2 : Nat) (w : World) :
    Calls Tryd.prog 23 #[.agg #[.int .i64 k, .int .i64 n, .string s, .slice p1 n1 c1, .slice p2 n2 c2]] w fun e w' => e = .returned (.int .i64 (k % 5)) ∧ Below w.heap.size w w' := by
  obtain ⟨t, ht⟩ : ∃ t, k.tmod 5 = t := ⟨_, rfl⟩
  have h1 : -5 < t ∧ t < 5 ∧ (t < 0 → t + 5 = k % 5) ∧ (¬ t < 0 → t = k % 5) := by
    subst ht
    have := Int.tmod_def k 5
    have h5 := Int.tdiv_eq_ediv (a := k) (b := 5)
    rcases Int.lt_or_le k 0 with h0 | h0
    · have a : k.tmod 5 = -((-k) % 5) := by
        rw [show k = -(-k) by omega, Int.neg_tmod, Int.tmod_eq_emod_of_nonneg (by omega)]; simp
      rw [a]; omega
    · rw [Int.tmod_eq_emod_of_nonneg h0]; omega
  obtain ⟨b1, b2, b3, b4⟩ := h1
  by_cases hneg : t < 0
  · have HE : Hid (t + 5 = k % 5) := b3 hneg
    have hd : decide (t < 0) = true := decide_eq_true hneg
    clear b3 b4
    go_enter Tryd.func23, Tryd.ntmps23
    go_wp2
    go_ret
    exact ⟨congrArg (fun x => Ending.returned (Value.int .i64 x)) HE.out, (Below.refl _ _).alloc (Nat.le_refl _) _⟩
  · have HE : Hid (t = k % 5) := b4 hneg
    have hd : decide (t < 0) = false := decide_eq_false hneg
    clear b3 b4
    go_enter Tryd.func23, Tryd.ntmps23
    go_wp2
    go_ret
    exact ⟨congrArg (fun x => Ending.returned (Value.int .i64 x)) HE.out, (Below.refl _ _).alloc (Nat.le_refl _) _⟩
theorem nneg_any (n : Int) (hn : I64 n) (w : World) : Calls Tryd.prog 55 #[.int .i64 n] w fun e w' => e = .returned (.int .i64 (nneg n)) ∧ w = w' := by
  obtain ⟨h0, h1⟩ := hn
  unfold nneg
  by_cases hneg : n < 0
  · rw [if_pos hneg]
    have hd : decide (n < 0) = true := decide_eq_true hneg
    go_enter Tryd.func55, Tryd.ntmps55
    go_wp2
    go_ret
    exact ⟨rfl, rfl⟩
  · rw [if_neg hneg]
    have hd : decide (n < 0) = false := decide_eq_false hneg
    go_enter Tryd.func55, Tryd.ntmps55
    go_wp2
    go_ret
    exact ⟨rfl, rfl⟩
end Wr
end Go.Proofs.YtfdacinedbdncaaDoor
