/- The wire format, plain: encodings, a reader as a function on what is left. -/
import Derived.Test.YtlegmhmmoadggaaDoorWrDec
namespace Go.Proofs.YtlegmhmmoadggaaDoor
namespace Wr
open Go.Lib
/-- a reader: what is left, and whether it has failed -/
structure St where
  rest : List UInt8
  bad : Bool
def St.fail : St := ⟨[], true⟩
/-- what stands before the first byte c, and what behind it -/
def cutAt (c : UInt8) : List UInt8 → Option (List UInt8 × List UInt8)
  | [] => none
  | x :: r => if x = c then some ([], r) else (cutAt c r).map fun p => (x :: p.1, p.2)
theorem cutAt_some {c : UInt8} : ∀ {l h t : List UInt8}, cutAt c l = some (h, t) → l = h ++ c :: t ∧ c ∉ h
  | [], h, t, e => by simp [cutAt] at e
  | x :: r, h, t, e => by
    unfold cutAt at e
    split at e
    · rename_i hx
      simp only [Option.some.injEq, Prod.mk.injEq] at e
      obtain ⟨rfl, rfl⟩ := e
      subst hx
      simp
    · rename_i hx
      obtain ⟨⟨a, b⟩, hp, he⟩ := Option.map_eq_some_iff.1 e
      simp only [Prod.mk.injEq] at he
      obtain ⟨rfl, rfl⟩ := he
      obtain ⟨h1, h2⟩ := cutAt_some hp
      refine ⟨by rw [h1]; rfl, ?_⟩
      simp only [List.mem_cons, not_or]
      exact ⟨fun e => hx e.symm, h2⟩
theorem cutAt_mk {c : UInt8} : ∀ {h t : List UInt8}, c ∉ h → cutAt c (h ++ c :: t) = some (h, t)
  | [], t, _ => by simp [cutAt]
  | x :: r, t, hn => by
    simp only [List.mem_cons, not_or] at hn
    simp only [List.cons_append, cutAt]
    rw [if_neg (fun e => hn.1 e.symm), cutAt_mk hn.2]
    rfl
theorem cutAt_none {c : UInt8} : ∀ {l : List UInt8}, cutAt c l = none ↔ c ∉ l
  | [] => by simp [cutAt]
  | x :: r => by
    unfold cutAt
    split
    · rename_i hx; subst hx; simp
    · rename_i hx
      simp only [Option.map_eq_none_iff, List.mem_cons, not_or]
      rw [cutAt_none]
      exact ⟨fun h => ⟨fun e => hx e.symm, h⟩, fun h => h.2⟩
/-- an int, at least as great as a limit, and the byte c behind it -/
def rnum (c : UInt8) (least : Int) (s : St) : Int × St :=
  match cutAt c s.rest with
  | none => (0, .fail)
  | some (h, t) => match (if h.length ≤ 20 then dec h else none) with
    | none => (0, .fail)
    | some n => if n < least then (0, .fail) else (n, ⟨t, s.bad⟩)
def rclose (c : UInt8) (s : St) : St := match s.rest with
  | [] => .fail
  | x :: t => if x = c then ⟨t, s.bad⟩ else .fail
def rtext (s : St) : List UInt8 × St :=
  let p := rnum 58 0 s
  if p.2.rest.length < p.1 then ([], .fail)
  else
    let q := rclose 44 ⟨p.2.rest.drop p.1.toNat, p.2.bad⟩
    if q.bad then ([], q) else (p.2.rest.take p.1.toNat, q)
def rint (s : St) : Int × St := rnum 59 (-9223372036854775808) s
def rmany {α : Type} (one : St → α × St) : Nat → St → List α × St
  | 0, s => ([], s)
  | n + 1, s => if s.bad then ([], s) else ((one s).1 :: (rmany one n (one s).2).1, (rmany one n (one s).2).2)
def rlist {α : Type} (one : St → α × St) (s : St) : List α × St :=
  let p := rnum 91 0 s
  let q := rmany one p.1.toNat p.2
  let r := rclose 93 q.2
  if r.bad then ([], r) else (q.1, r)
/-- failed: nothing is left -/
def St.Ok (s : St) : Prop := s.bad = true → s.rest = []
theorem fail_ok : St.fail.Ok := fun _ => rfl
theorem rnum_ok {c least} {s : St} (h : s.Ok) : (rnum c least s).2.Ok := by
  unfold rnum
  split
  · exact fail_ok
  · rename_i a b hc
    split
    · exact fail_ok
    · split
      · exact fail_ok
      · intro hb
        have := h hb
        rw [this] at hc
        simp [cutAt] at hc
theorem rclose_ok {c} {s : St} (h : s.Ok) : (rclose c s).Ok := by
  unfold rclose
  split
  · exact fail_ok
  · rename_i x t hx
    split
    · intro hb
      have := h hb
      rw [this] at hx
      cases hx
    · exact fail_ok
theorem rnum_good {c least} {s : St} {n : Int} {s' : St} (h : rnum c least s = (n, s')) (hb : s'.bad = false) : s.bad = false ∧ s.rest = itoa n ++ c :: s'.rest ∧ I64 n ∧ least ≤ n := by
  unfold rnum at h
  split at h
  · cases h; simp [St.fail] at hb
  · rename_i a b hc
    split at h
    · cases h; simp [St.fail] at hb
    · rename_i m hm
      split at h
      · cases h; simp [St.fail] at hb
      · rename_i hl
        simp only [Prod.mk.injEq] at h
        obtain ⟨rfl, rfl⟩ := h
        split at hm
        · obtain ⟨e1, e2⟩ := dec_some hm
          rw [e1]
          exact ⟨hb, (cutAt_some hc).1, e2, by omega⟩
        · cases hm
theorem not_numByte {c : UInt8} (hc : numByte c = false) (n : Int) : c ∉ itoa n := by
  intro h
  rw [itoa_bytes n c h] at hc
  cases hc
theorem rnum_mk {c : UInt8} (hc : numByte c = false) {least n : Int} (hn : I64 n) (hl : least ≤ n) (t : List UInt8) (b : Bool) : rnum c least ⟨itoa n ++ c :: t, b⟩ = (n, ⟨t, b⟩) := by
  unfold rnum
  simp only [cutAt_mk (not_numByte hc n), if_pos (itoa_len n hn), dec_itoa n hn]
  rw [if_neg (by omega)]
theorem rclose_good {c} {s : St} (hb : (rclose c s).bad = false) : s.bad = false ∧ s.rest = c :: (rclose c s).rest := by
  unfold rclose at hb ⊢
  cases hs : s.rest with
  | nil => simp [hs, St.fail] at hb
  | cons x t =>
    simp only [hs] at hb ⊢
    split at hb
    · rename_i hx
      subst hx
      rw [if_pos rfl]
      exact ⟨hb, rfl⟩
    · simp [St.fail] at hb
theorem rclose_mk {c} (t : List UInt8) (b : Bool) : rclose c ⟨c :: t, b⟩ = ⟨t, b⟩ := by simp [rclose]
/-- the encodings -/
def eint (n : Int) : List UInt8 := itoa n ++ [59]
def enum (n : Int) : List UInt8 := if n < 0 then [] else eint n
def etext (s : List UInt8) : List UInt8 := itoa s.length ++ 58 :: (s ++ [44])
def elist {α : Type} (one : α → List UInt8) (l : List α) : List UInt8 := itoa l.length ++ 91 :: (l.flatMap one ++ [93])
def len63 (n : Nat) : Prop := n ≤ 9223372036854775807
theorem rint_mk {n : Int} (hn : I64 n) (t : List UInt8) (b : Bool) : rint ⟨eint n ++ t, b⟩ = (n, ⟨t, b⟩) := by
  unfold rint eint
  rw [List.append_assoc]
  exact rnum_mk rfl hn hn.1 t b
theorem rtext_mk {s : List UInt8} (hs : len63 s.length) (t : List UInt8) : rtext ⟨etext s ++ t, false⟩ = (s, ⟨t, false⟩) := by
  have hn : I64 (s.length : Int) := by unfold len63 at hs; exact ⟨by omega, by omega⟩
  have e : etext s ++ t = itoa s.length ++ 58 :: (s ++ 44 :: t) := by simp [etext]
  unfold rtext
  rw [e, rnum_mk rfl hn (by omega)]
  simp only
  rw [if_neg (by simp; omega)]
  have e2 : ((s.length : Int)).toNat = s.length := by omega
  rw [e2, List.drop_left, List.take_left, rclose_mk]
  simp
theorem rmany_of {α : Type} {one : St → α × St} {enc : α → List UInt8} (t : List UInt8) : ∀ (l : List α), (∀ x ∈ l, ∀ u, one ⟨enc x ++ u, false⟩ = (x, ⟨u, false⟩)) → rmany one l.length ⟨l.flatMap enc ++ t, false⟩ = (l, ⟨t, false⟩)
  | [], _ => by simp [rmany]
  | x :: l, h => by
    simp only [List.length_cons, rmany, List.flatMap_cons, List.append_assoc]
    rw [if_neg (by simp), h x (by simp)]
    simp only [rmany_of t l (fun y hy => h y (by simp [hy]))]
theorem rlist_mk {α : Type} {one : St → α × St} {enc : α → List UInt8} {l : List α} (hl : len63 l.length) (h : ∀ x ∈ l, ∀ u, one ⟨enc x ++ u, false⟩ = (x, ⟨u, false⟩)) (t : List UInt8) :
    rlist one ⟨elist enc l ++ t, false⟩ = (l, ⟨t, false⟩) := by
  have hn : I64 (l.length : Int) := by unfold len63 at hl; exact ⟨by omega, by omega⟩
  have e : elist enc l ++ t = itoa l.length ++ 91 :: (l.flatMap enc ++ 93 :: t) := by simp [elist]
  unfold rlist
  rw [e, rnum_mk rfl hn (by omega)]
  have e2 : ((l.length : Int)).toNat = l.length := by omega
  simp only [e2, rmany_of _ l h, rclose_mk]
  simp
theorem rint_good {s : St} (hb : (rint s).2.bad = false) : s.bad = false ∧ s.rest = eint (rint s).1 ++ (rint s).2.rest ∧ I64 (rint s).1 := by
  obtain ⟨h1, h2, h3, _⟩ := rnum_good (n := (rint s).1) (s' := (rint s).2) rfl hb
  exact ⟨h1, by rw [h2]; simp [eint], h3⟩
theorem rtext_good {s : St} (hb : (rtext s).2.bad = false) : s.bad = false ∧ s.rest = etext (rtext s).1 ++ (rtext s).2.rest := by
  unfold rtext at hb ⊢
  obtain ⟨n, u⟩ : ∃ n, n = rnum 58 0 s := ⟨_, rfl⟩
  simp only [← u] at hb ⊢
  split at hb
  · simp [St.fail] at hb
  · rename_i hl
    split at hb
    · rename_i hq; rw [hq] at hb; cases hb
    · rename_i hq
      rw [if_neg hl, if_neg hq]
      simp only
      obtain ⟨a1, a2⟩ := rclose_good (by simpa using hq)
      simp only at a1 a2
      obtain ⟨b1, b2, b3, b4⟩ := rnum_good (n := n.1) (s' := n.2) u.symm a1
      refine ⟨b1, ?_⟩
      have hlen : (n.2.rest.take n.1.toNat).length = n.1.toNat := by rw [List.length_take]; omega
      unfold etext
      rw [b2, hlen]
      have e : ((n.1.toNat : Nat) : Int) = n.1 := by omega
      rw [e]
      simp only [List.append_assoc, List.cons_append, List.nil_append]
      congr 2
      rw [← a2, List.take_append_drop]
theorem rmany_bad {α : Type} {one : St → α × St} (n : Nat) (s : St) (h : s.bad = true) : rmany one n s = ([], s) := by
  cases n with
  | zero => rfl
  | succ n => simp [rmany, h]
theorem rmany_good {α : Type} {one : St → α × St} {enc : α → List UInt8} (h : ∀ s, (one s).2.bad = false → s.bad = false ∧ s.rest = enc (one s).1 ++ (one s).2.rest) :
    ∀ (n : Nat) (s : St), (rmany one n s).2.bad = false → s.bad = false ∧ s.rest = (rmany one n s).1.flatMap enc ++ (rmany one n s).2.rest ∧ (rmany one n s).1.length = n
  | 0, s, hb => ⟨by simpa [rmany] using hb, by simp [rmany], by simp [rmany]⟩
  | n + 1, s, hb => by
    simp only [rmany] at hb ⊢
    split at hb
    · rename_i hs; rw [hs] at hb; cases hb
    · rename_i hs
      rw [if_neg hs]
      simp only
      obtain ⟨a1, a2, a3⟩ := rmany_good h n (one s).2 hb
      obtain ⟨b1, b2⟩ := h s a1
      exact ⟨b1, by rw [b2, a2]; simp, by simp [a3]⟩
theorem rlist_good {α : Type} {one : St → α × St} {enc : α → List UInt8} (h : ∀ s, (one s).2.bad = false → s.bad = false ∧ s.rest = enc (one s).1 ++ (one s).2.rest) {s : St} (hb : (rlist one s).2.bad = false) :
    s.bad = false ∧ s.rest = elist enc (rlist one s).1 ++ (rlist one s).2.rest := by
  unfold rlist at hb ⊢
  obtain ⟨p, u⟩ : ∃ p, p = rnum 91 0 s := ⟨_, rfl⟩
  simp only [← u] at hb ⊢
  split at hb
  · rename_i hq; rw [hq] at hb; cases hb
  · rename_i hq
    rw [if_neg hq]
    simp only
    obtain ⟨a1, a2⟩ := rclose_good (by simpa using hq)
    obtain ⟨b1, b2, b3⟩ := rmany_good h _ _ a1
    obtain ⟨c1, c2, c3, c4⟩ := rnum_good (n := p.1) (s' := p.2) u.symm b1
    refine ⟨c1, ?_⟩
    unfold elist
    rw [b3, c2, b2]
    have e : ((p.1.toNat : Nat) : Int) = p.1 := by omega
    rw [e, a2]
    simp
/-- each item read takes something -/
theorem rmany_len {α : Type} {one : St → α × St} (h : ∀ s, (one s).2.bad = false → (one s).2.rest.length < s.rest.length) :
    ∀ (n : Nat) (s : St), (rmany one n s).1.length ≤ s.rest.length + 1
  | 0, s => by simp [rmany]
  | n + 1, s => by
    simp only [rmany]
    split
    · simp
    · simp only [List.length_cons]
      cases hb : (one s).2.bad with
      | true => rw [rmany_bad n _ hb]; simp
      | false =>
        have := h s hb
        have := rmany_len h n (one s).2
        omega
end Wr
end Go.Proofs.YtlegmhmmoadggaaDoor
