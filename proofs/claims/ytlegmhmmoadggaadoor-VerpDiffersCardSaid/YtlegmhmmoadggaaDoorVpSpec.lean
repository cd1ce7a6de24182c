/- Addresses that carry a proof (verp), plain: what is written, and what is read back. -/
import Derived.Test.YtlegmhmmoadggaaDoorDigTrip
import Derived.Test.YtlegmhmmoadggaaDoorDigMac
import Derived.Test.YtlegmhmmoadggaaDoorWrSpec
namespace Go.Proofs.YtlegmhmmoadggaaDoor
namespace Vp
open Wr Dg
def lowB (c : UInt8) : UInt8 := if 65 ≤ c.toNat ∧ c.toNat ≤ 90 then UInt8.ofNat (c.toNat + 32) else c
def upB (c : UInt8) : UInt8 := if 97 ≤ c.toNat ∧ c.toNat ≤ 122 then UInt8.ofNat (c.toNat - 32) else c
def lower (l : List UInt8) : List UInt8 := l.map lowB
def upper (l : List UInt8) : List UInt8 := l.map upB
/-- the words of the kinds -/
def word (k : Int) : List UInt8 := if k = 1 then [98, 111, 117, 110, 99, 101, 115] else if k = 2 then [118, 111, 116, 101] else if k = 3 then [99, 111, 110, 102, 105, 114, 109] else []
def mac5 (secret word content : List UInt8) : List UInt8 := (macL secret (etext word ++ content)).take 5
def localV (secret : List UInt8) (k : Int) (content : List UInt8) : List UInt8 := word k ++ 43 :: b32L (content ++ mac5 secret (word k) content)
/-- what stands in the address of a kind -/
def content (k : Int) (n : Int) (user : List UInt8) : List UInt8 := if k = 1 then eint n else if k = 2 then eint n ++ etext user else etext user
/-- reading a content -/
def readC (k : Int) (c : List UInt8) : Int × List UInt8 × Wr.St :=
  if k = 1 then ((rnum 59 0 ⟨c, false⟩).1, [], (rnum 59 0 ⟨c, false⟩).2)
  else if k = 2 then ((rnum 59 0 ⟨c, false⟩).1, (rtext (rnum 59 0 ⟨c, false⟩).2).1, (rtext (rnum 59 0 ⟨c, false⟩).2).2)
  else (0, (rtext ⟨c, false⟩).1, (rtext ⟨c, false⟩).2)
structure Out where
  kind : Int
  n : Int
  user : List UInt8
  ok : Bool
def Out.none : Out := ⟨0, 0, [], false⟩
/-- the kind of a word -/
def kindOf (w : List UInt8) : Int := if w = word 1 then 1 else if w = word 2 then 2 else if w = word 3 then 3 else 0
/-- reading a content of the kind of a word -/
def parseC (secret s w bytes : List UInt8) : Out :=
  let c := bytes.take (bytes.length - 5)
  let k := kindOf w
  if k = 0 then .none
  else
    let r := readC k c
    if (!r.2.2.bad && r.2.2.rest.isEmpty) && decide (localV secret k c = s) then ⟨k, r.1, r.2.1, true⟩ else .none
def parse (secret l : List UInt8) : Out :=
  match cutAt 43 (lower l) with
  | none => .none
  | some (w, tok) => match unb32L tok with
    | none => .none
    | some bytes => if bytes.length < 5 then .none else parseC secret (lower l) w bytes
theorem mac5_len (a b c : List UInt8) : (mac5 a b c).length = 5 := by unfold mac5; rw [List.length_take, macL, sumL_len]; rfl
theorem letter_ok : ∀ x, x < 32 → (97 ≤ (letter x).toNat ∧ (letter x).toNat ≤ 122) ∨ (50 ≤ (letter x).toNat ∧ (letter x).toNat ≤ 55) := by decide +kernel
theorem b32_chars (l : List UInt8) : ∀ c ∈ b32L l, (97 ≤ c.toNat ∧ c.toNat ≤ 122) ∨ (50 ≤ c.toNat ∧ c.toNat ≤ 55) := by
  intro c hc
  unfold b32L at hc
  obtain ⟨x, hx, rfl⟩ := List.mem_map.1 hc
  exact letter_ok x (digs_lt 32 (by decide) _ _ x hx)
theorem word_chars (k : Int) : ∀ c ∈ word k, 97 ≤ c.toNat ∧ c.toNat ≤ 122 := by
  have h : ∀ l : List UInt8, l.all (fun c => decide (97 ≤ c.toNat ∧ c.toNat ≤ 122)) = true → ∀ c ∈ l, 97 ≤ c.toNat ∧ c.toNat ≤ 122 := fun l hl c hc => by simpa using List.all_eq_true.1 hl c hc
  unfold word
  split
  · exact h _ (by decide)
  · split
    · exact h _ (by decide)
    · split
      · exact h _ (by decide)
      · exact h _ (by decide)
/-- a byte of an address -/
theorem local_chars (s : List UInt8) (k : Int) (c : List UInt8) : ∀ x ∈ localV s k c, x = 43 ∨ (97 ≤ x.toNat ∧ x.toNat ≤ 122) ∨ (50 ≤ x.toNat ∧ x.toNat ≤ 55) := by
  intro x hx
  unfold localV at hx
  rw [List.mem_append, List.mem_cons] at hx
  rcases hx with hx | hx | hx
  · exact .inr (.inl (word_chars k x hx))
  · exact .inl hx
  · exact .inr (b32_chars _ x hx)
theorem lower_local (s : List UInt8) (k : Int) (c : List UInt8) : lower (localV s k c) = localV s k c := by
  unfold lower
  rw [List.map_congr_left (g := id) (fun x hx => ?_), List.map_id]
  have h := local_chars s k c x hx
  unfold lowB
  rw [if_neg]
  · rfl
  · intro ⟨h1, h2⟩
    rcases h with rfl | h | h
    · exact absurd h1 (by decide)
    · omega
    · omega
theorem up_low (x : UInt8) (h : ¬ (65 ≤ x.toNat ∧ x.toNat ≤ 90)) : lowB (upB x) = x := by
  unfold upB
  split
  · rename_i h1
    have h2 : (UInt8.ofNat (x.toNat - 32)).toNat = x.toNat - 32 := by rw [UInt8.toNat_ofNat']; omega
    unfold lowB
    rw [h2, if_pos (by omega)]
    apply UInt8.toNat_inj.1
    rw [UInt8.toNat_ofNat']; omega
  · unfold lowB
    rw [if_neg h]
theorem lower_upper_local (s : List UInt8) (k : Int) (c : List UInt8) : lower (upper (localV s k c)) = localV s k c := by
  unfold lower upper
  rw [List.map_map, List.map_congr_left (g := id) (fun x hx => ?_), List.map_id]
  have h := local_chars s k c x hx
  refine up_low x (fun ⟨h1, h2⟩ => ?_)
  rcases h with rfl | h | h
  · exact absurd h1 (by decide)
  · omega
  · omega
theorem word_plus (k : Int) : (43 : UInt8) ∉ word k := fun h => absurd (word_chars k _ h).1 (by decide)
theorem cut_local (s : List UInt8) (k : Int) (c : List UInt8) : cutAt 43 (localV s k c) = some (word k, b32L (c ++ mac5 s (word k) c)) := cutAt_mk (word_plus k)
theorem kindOf_word {k : Int} (h : 1 ≤ k ∧ k ≤ 3) : kindOf (word k) = k := by
  have : k = 1 ∨ k = 2 ∨ k = 3 := by omega
  rcases this with rfl | rfl | rfl <;> rfl
theorem word_kindOf {w : List UInt8} (h : kindOf w ≠ 0) : word (kindOf w) = w ∧ 1 ≤ kindOf w ∧ kindOf w ≤ 3 := by
  unfold kindOf at h ⊢
  by_cases h1 : w = word 1
  · rw [if_pos h1]; exact ⟨h1.symm, by decide, by decide⟩
  · rw [if_neg h1] at h ⊢
    by_cases h2 : w = word 2
    · rw [if_pos h2]; exact ⟨h2.symm, by decide, by decide⟩
    · rw [if_neg h2] at h ⊢
      by_cases h3 : w = word 3
      · rw [if_pos h3]; exact ⟨h3.symm, by decide, by decide⟩
      · rw [if_neg h3] at h; exact absurd rfl h
/-- what parse makes of an address of a content -/
theorem parse_local {secret l : List UInt8} {k : Int} (hk : 1 ≤ k ∧ k ≤ 3) {c : List UInt8} (hl : lower l = localV secret k c) :
    parse secret l = if !(readC k c).2.2.bad && (readC k c).2.2.rest.isEmpty then ⟨k, (readC k c).1, (readC k c).2.1, true⟩ else .none := by
  unfold parse
  rw [hl, cut_local]
  simp only [unb_b32]
  have h5 : (c ++ mac5 secret (word k) c).length = c.length + 5 := by rw [List.length_append, mac5_len]
  rw [if_neg (by omega)]
  unfold parseC
  simp only
  have ht : (c ++ mac5 secret (word k) c).take ((c ++ mac5 secret (word k) c).length - 5) = c := by
    rw [h5, Nat.add_sub_cancel, List.take_left]
  rw [ht, kindOf_word hk, if_neg (by omega)]
  simp
theorem read_content {k n : Int} (hk : 1 ≤ k ∧ k ≤ 3) (hn : I64 n) (h0 : 0 ≤ n) {user : List UInt8} (hu : len63 user.length) :
    readC k (content k n user) = (if k = 3 then 0 else n, if k = 1 then [] else user, ⟨[], false⟩) := by
  have e1 : ∀ t, rnum 59 0 ⟨eint n ++ t, false⟩ = (n, ⟨t, false⟩) := fun t => by unfold eint; rw [List.append_assoc]; exact rnum_mk rfl hn h0 t false
  have e2 : rtext ⟨etext user, false⟩ = (user, ⟨[], false⟩) := by have := rtext_mk hu []; rwa [List.append_nil] at this
  have e3 := e1 []
  rw [List.append_nil] at e3
  have : k = 1 ∨ k = 2 ∨ k = 3 := by omega
  rcases this with rfl | rfl | rfl
  · simp [readC, content, e3]
  · simp [readC, content, e1, e2]
  · simp [readC, content, e2]
theorem content_read {k : Int} (hk : 1 ≤ k ∧ k ≤ 3) {c : List UInt8} (hb : (readC k c).2.2.bad = false) (hr : (readC k c).2.2.rest = []) :
    content k (readC k c).1 (readC k c).2.1 = c ∧ 0 ≤ (readC k c).1 ∧ I64 (readC k c).1 := by
  have : k = 1 ∨ k = 2 ∨ k = 3 := by omega
  rcases this with rfl | rfl | rfl
  · simp only [readC, if_true] at hb hr ⊢
    obtain ⟨_, e, hi, h0⟩ := rnum_good (n := (rnum 59 0 ⟨c, false⟩).1) (s' := (rnum 59 0 ⟨c, false⟩).2) rfl hb
    rw [hr] at e
    refine ⟨?_, h0, hi⟩
    simp only [content, if_true, eint]
    exact e.symm
  · simp only [readC, show ¬ ((2 : Int) = 1) by decide, if_false, if_true] at hb hr ⊢
    obtain ⟨b1, e2⟩ := rtext_good hb
    obtain ⟨_, e, hi, h0⟩ := rnum_good (n := (rnum 59 0 ⟨c, false⟩).1) (s' := (rnum 59 0 ⟨c, false⟩).2) rfl b1
    rw [hr, List.append_nil] at e2
    rw [e2] at e
    refine ⟨?_, h0, hi⟩
    simp only [content, show ¬ ((2 : Int) = 1) by decide, if_false, if_true, eint, List.append_assoc, List.singleton_append]
    exact e.symm
  · simp only [readC, show ¬ ((3 : Int) = 1) by decide, show ¬ ((3 : Int) = 2) by decide, if_false] at hb hr ⊢
    obtain ⟨_, e2⟩ := rtext_good hb
    rw [hr, List.append_nil] at e2
    refine ⟨?_, by omega, ⟨by omega, by omega⟩⟩
    simp only [content, show ¬ ((3 : Int) = 1) by decide, show ¬ ((3 : Int) = 2) by decide, if_false]
    exact e2.symm
/-- what is accepted is what is written -/
theorem parse_only {secret l : List UInt8} (h : (parse secret l).ok = true) :
    1 ≤ (parse secret l).kind ∧ (parse secret l).kind ≤ 3 ∧ 0 ≤ (parse secret l).n ∧ I64 (parse secret l).n ∧ localV secret (parse secret l).kind (content (parse secret l).kind (parse secret l).n (parse secret l).user) = lower l ∧
      ((parse secret l).kind = 1 → (parse secret l).user = []) ∧ ((parse secret l).kind = 3 → (parse secret l).n = 0) := by
  unfold parse at h ⊢
  cases hc : cutAt 43 (lower l) with
  | none => rw [hc] at h; cases h
  | some p =>
    obtain ⟨w, tok⟩ := p
    rw [hc] at h
    simp only at h ⊢
    cases hu : unb32L tok with
    | none => rw [hu] at h; cases h
    | some bytes =>
      rw [hu] at h
      simp only at h ⊢
      by_cases h5 : bytes.length < 5
      · rw [if_pos h5] at h; cases h
      · rw [if_neg h5] at h ⊢
        unfold parseC at h ⊢
        simp only at h ⊢
        by_cases hk : kindOf w = 0
        · rw [if_pos hk] at h; cases h
        · rw [if_neg hk] at h ⊢
          obtain ⟨hw, k1, k3⟩ := word_kindOf hk
          split at h
          · rename_i hcond
            rw [if_pos hcond]
            simp only [Bool.and_eq_true, Bool.not_eq_true', List.isEmpty_iff, decide_eq_true_eq] at hcond
            obtain ⟨⟨hb, hr⟩, hloc⟩ := hcond
            obtain ⟨e1, e2, e3⟩ := content_read ⟨k1, k3⟩ hb hr
            simp only
            refine ⟨k1, k3, e2, e3, by rw [e1]; exact hloc, fun hk1 => ?_, fun hk3 => ?_⟩
            · rw [hk1]; rfl
            · rw [hk3]; rfl
          · cases h
theorem parse_none {secret l : List UInt8} (h : (parse secret l).ok = false) : parse secret l = .none := by
  unfold parse at h ⊢
  cases hc : cutAt 43 (lower l) with
  | none => rfl
  | some p =>
    obtain ⟨w, tok⟩ := p
    rw [hc] at h
    simp only at h ⊢
    cases hu : unb32L tok with
    | none => rfl
    | some bytes =>
      rw [hu] at h
      simp only at h ⊢
      by_cases h5 : bytes.length < 5
      · rw [if_pos h5]
      · rw [if_neg h5] at h ⊢
        unfold parseC at h ⊢
        simp only at h ⊢
        by_cases hk : kindOf w = 0
        · rw [if_pos hk]
        · rw [if_neg hk] at h ⊢
          split at h
          · cases h
          · rename_i hcond; rw [if_neg hcond]
/-- equal addresses carry the same -/
theorem local_inj {s : List UInt8} {k j : Int} (hk : 1 ≤ k ∧ k ≤ 3) (hj : 1 ≤ j ∧ j ≤ 3) {c d : List UInt8} (h : localV s k c = localV s j d) : k = j ∧ c = d := by
  have h1 := cut_local s k c
  rw [h, cut_local] at h1
  simp only [Option.some.injEq, Prod.mk.injEq] at h1
  obtain ⟨hw, hb⟩ := h1
  have hkj : k = j := by
    have a := kindOf_word hk
    rw [← hw, kindOf_word hj] at a
    exact a.symm
  refine ⟨hkj, ?_⟩
  have h2 := unb_b32 (c ++ mac5 s (word k) c)
  rw [← hb, unb_b32] at h2
  have h3 := Option.some.inj h2
  have hl : d.length = c.length := by
    have := congrArg List.length h3
    simp only [List.length_append, mac5_len] at this
    omega
  have h4 := congrArg (List.take c.length) h3
  rw [List.take_left, ← hl, List.take_left] at h4
  exact h4.symm
theorem content_inj {k n m : Int} (hk : 1 ≤ k ∧ k ≤ 3) (hn : I64 n) (h0 : 0 ≤ n) (hm : I64 m) (m0 : 0 ≤ m) {u v : List UInt8} (hu : len63 u.length) (hv : len63 v.length) (h : content k n u = content k m v) :
    (k = 3 ∨ n = m) ∧ (k = 1 ∨ u = v) := by
  have a := read_content hk hn h0 hu
  rw [h, read_content hk hm m0 hv] at a
  simp only [Prod.mk.injEq, and_true] at a
  have : k = 1 ∨ k = 2 ∨ k = 3 := by omega
  rcases this with rfl | rfl | rfl
  · simp at a; exact ⟨.inr a.symm, .inl rfl⟩
  · simp at a; exact ⟨.inr a.1.symm, .inr a.2.symm⟩
  · simp at a; exact ⟨.inl rfl, .inr a.symm⟩
end Vp
end Go.Proofs.YtlegmhmmoadggaaDoor
