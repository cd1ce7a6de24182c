/- The plain functions of package merkle: roots, paths, growths, on lists of strings; no program in sight. -/
import Derived.Test.YtmapodkdnbbjgaaDoorDigMac
namespace Go.Proofs.YtmapodkdnbbjgaaDoor
namespace Mk
open Dg
/-- the digest of a string -/
def H (s : ByteArray) : ByteArray := bs (sumL s.data.toList)
theorem H_size (s : ByteArray) : (H s).size = 32 := sumL_len _
def z0 : ByteArray := ⟨#[0]⟩
def z1 : ByteArray := ⟨#[1]⟩
def leaf (s : ByteArray) : ByteArray := H (z0 ++ s)
def join (a b : ByteArray) : ByteArray := H (z1 ++ a ++ b)
theorem leaf_size (s : ByteArray) : (leaf s).size = 32 := H_size _
theorem join_size (a b : ByteArray) : (join a b).size = 32 := H_size _
/-- the greatest power of 2 below a number -/
def split (n : Nat) : Nat := 2 ^ (n - 1).log2
theorem split_pos (n : Nat) : 0 < split n := Nat.two_pow_pos _
theorem split_lt (n : Nat) (h : 2 ≤ n) : split n < n := by
  have := Nat.log2_self_le (n := n - 1) (by omega)
  unfold split; omega
theorem split_ge (n : Nat) (h : 2 ≤ n) : n ≤ 2 * split n := by
  have := Nat.lt_log2_self (n := n - 1)
  unfold split; rw [Nat.pow_succ] at this; omega
theorem split_unique (n : Nat) (e : Nat) (h1 : 2 ^ e < n) (h2 : n ≤ 2 * 2 ^ e) : split n = 2 ^ e := by
  have h0 : 0 < 2 ^ e := Nat.two_pow_pos e
  have h3 : (n - 1).log2 = e := (Nat.log2_eq_iff (by omega)).2 ⟨by omega, by rw [Nat.pow_succ]; omega⟩
  unfold split; rw [h3]
/-- the root of a list of hashes -/
def root (l : List ByteArray) : ByteArray :=
  if h : l.length < 2 then l.headD (H ⟨#[]⟩)
  else
    have := split_lt l.length (by omega)
    have := split_pos l.length
    join (root (l.take (split l.length))) (root (l.drop (split l.length)))
termination_by l.length
decreasing_by
  · rw [List.length_take]; omega
  · rw [List.length_drop]; omega
theorem root_nil : root [] = H ⟨#[]⟩ := by rw [root]; rfl
theorem root_one (x : ByteArray) : root [x] = x := by rw [root]; rfl
theorem root_step (l : List ByteArray) (h : 2 ≤ l.length) : root l = join (root (l.take (split l.length))) (root (l.drop (split l.length))) := by
  conv => lhs; rw [root]
  rw [dif_neg (by omega)]
/-- the hashes beside the way from the leaf number i, the lowest one first -/
def path (l : List ByteArray) (i : Nat) : List ByteArray :=
  if h : l.length < 2 then []
  else
    have := split_lt l.length (by omega)
    have := split_pos l.length
    if i < split l.length then path (l.take (split l.length)) i ++ [root (l.drop (split l.length))]
    else path (l.drop (split l.length)) (i - split l.length) ++ [root (l.take (split l.length))]
termination_by l.length
decreasing_by
  · rw [List.length_take]; omega
  · rw [List.length_drop]; omega
theorem path_small (l : List ByteArray) (i : Nat) (h : l.length < 2) : path l i = [] := by rw [path, dif_pos h]
theorem path_left (l : List ByteArray) (i : Nat) (h : 2 ≤ l.length) (hi : i < split l.length) : path l i = path (l.take (split l.length)) i ++ [root (l.drop (split l.length))] := by
  conv => lhs; rw [path]
  rw [dif_neg (by omega), if_pos hi]
theorem path_right (l : List ByteArray) (i : Nat) (h : 2 ≤ l.length) (hi : ¬ i < split l.length) : path l i = path (l.drop (split l.length)) (i - split l.length) ++ [root (l.take (split l.length))] := by
  conv => lhs; rw [path]
  rw [dif_neg (by omega), if_neg hi]
/-- the growth from the first m -/
def growth (l : List ByteArray) (m : Nat) (whole : Bool) : List ByteArray :=
  if h : l.length < 2 ∨ m = l.length then (if whole then [] else [root l])
  else
    have := split_lt l.length (by omega)
    have := split_pos l.length
    if m ≤ split l.length then growth (l.take (split l.length)) m whole ++ [root (l.drop (split l.length))]
    else growth (l.drop (split l.length)) (m - split l.length) false ++ [root (l.take (split l.length))]
termination_by l.length
decreasing_by
  · rw [List.length_take]; omega
  · rw [List.length_drop]; omega
theorem growth_end (l : List ByteArray) (m : Nat) (b : Bool) (h : l.length < 2 ∨ m = l.length) : growth l m b = if b then [] else [root l] := by rw [growth, dif_pos h]
theorem growth_left (l : List ByteArray) (m : Nat) (b : Bool) (h : 2 ≤ l.length) (hm : m ≠ l.length) (hi : m ≤ split l.length) : growth l m b = growth (l.take (split l.length)) m b ++ [root (l.drop (split l.length))] := by
  conv => lhs; rw [growth]
  rw [dif_neg (by omega), if_pos hi]
theorem growth_right (l : List ByteArray) (m : Nat) (b : Bool) (h : 2 ≤ l.length) (hm : m ≠ l.length) (hi : ¬ m ≤ split l.length) : growth l m b = growth (l.drop (split l.length)) (m - split l.length) false ++ [root (l.take (split l.length))] := by
  conv => lhs; rw [growth]
  rw [dif_neg (by omega), if_neg hi]
/-- the root by a path, the path from the top down -/
def byR : Nat → Nat → ByteArray → List ByteArray → ByteArray × Bool
  | n, _, x, [] => (x, n == 1)
  | n, i, x, y :: q =>
    if n = 1 then (x, false)
    else if i < split n then (join (byR (split n) i x q).1 y, (byR (split n) i x q).2)
    else (join y (byR (n - split n) (i - split n) x q).1, (byR (n - split n) (i - split n) x q).2)
/-- the roots by a growth, the growth from the top down -/
def bothR : ByteArray → Nat → Nat → List ByteArray → Bool → ByteArray × ByteArray × Bool
  | old, m, n, [], whole => if m = n ∧ whole then (old, old, true) else (⟨#[]⟩, ⟨#[]⟩, false)
  | old, m, n, x :: q, whole =>
    if m = n ∧ whole then (old, old, false)
    else if m = n then (x, x, q.isEmpty)
    else if m ≤ split n then ((bothR old m (split n) q whole).1, join (bothR old m (split n) q whole).2.1 x, (bothR old m (split n) q whole).2.2)
    else (join x (bothR old (m - split n) (n - split n) q false).1, join x (bothR old (m - split n) (n - split n) q false).2.1, (bothR old (m - split n) (n - split n) q false).2.2)
/-- all strings are hashes -/
def allH (l : List ByteArray) : Bool := l.all fun s => s.size == 32
def check (rt : ByteArray) (n i : Nat) (x : ByteArray) (p : List ByteArray) : Bool :=
  rt.size == 32 && x.size == 32 && allH p && (byR n i x p.reverse).2 && decide ((byR n i x p.reverse).1 = rt)
def checkGrown (old : ByteArray) (m : Nat) (rt : ByteArray) (n : Nat) (p : List ByteArray) : Bool :=
  old.size == 32 && rt.size == 32 && allH p && if m = 0 then decide (old = H ⟨#[]⟩) && p.isEmpty else (bothR old m n p.reverse true).2.2 && decide ((bothR old m n p.reverse true).1 = old) && decide ((bothR old m n p.reverse true).2.1 = rt)
/-- which way a list lies, from the whole list downwards -/
def rights (n i : Nat) : List Bool :=
  if h : n < 2 then []
  else
    have := split_lt n (by omega)
    have := split_pos n
    if i < split n then false :: rights (split n) i else true :: rights (n - split n) (i - split n)
termination_by n
theorem rights_small (n i : Nat) (h : n < 2) : rights n i = [] := by rw [rights, dif_pos h]
theorem rights_left (n i : Nat) (h : 2 ≤ n) (hi : i < split n) : rights n i = false :: rights (split n) i := by
  conv => lhs; rw [rights]
  rw [dif_neg (by omega), if_pos hi]
theorem rights_right (n i : Nat) (h : 2 ≤ n) (hi : ¬ i < split n) : rights n i = true :: rights (n - split n) (i - split n) := by
  conv => lhs; rw [rights]
  rw [dif_neg (by omega), if_neg hi]
/-- the same for a growth; and whether the end is the whole old list -/
def gright (n m : Nat) (whole : Bool) : List Bool × Bool :=
  if h : n < 2 ∨ n ≤ m then ([], whole)
  else
    have := split_lt n (by omega)
    have := split_pos n
    if m ≤ split n then (false :: (gright (split n) m whole).1, (gright (split n) m whole).2) else (true :: (gright (n - split n) (m - split n) false).1, (gright (n - split n) (m - split n) false).2)
termination_by n
theorem gright_end (n m : Nat) (b : Bool) (h : n < 2 ∨ n ≤ m) : gright n m b = ([], b) := by rw [gright, dif_pos h]
theorem gright_left (n m : Nat) (b : Bool) (h : 2 ≤ n) (hm : m < n) (hi : m ≤ split n) : gright n m b = (false :: (gright (split n) m b).1, (gright (split n) m b).2) := by
  conv => lhs; rw [gright]
  rw [dif_neg (by omega), if_pos hi]
theorem gright_right (n m : Nat) (b : Bool) (h : 2 ≤ n) (hm : m < n) (hi : ¬ m ≤ split n) : gright n m b = (true :: (gright (n - split n) (m - split n) false).1, (gright (n - split n) (m - split n) false).2) := by
  conv => lhs; rw [gright]
  rw [dif_neg (by omega), if_neg hi]
/-- a leaf, up a path (from the top down) -/
def upF (x : ByteArray) : List ByteArray → List Bool → ByteArray
  | y :: q, r :: rs => if r then join y (upF x q rs) else join (upF x q rs) y
  | _, _ => x
/-- two hashes, up a growth: the first one grows on right ways alone -/
def upG (x : ByteArray) : List ByteArray → List Bool → ByteArray
  | y :: q, r :: rs => if r then join y (upG x q rs) else upG x q rs
  | _, _ => x
theorem byR_up (q : List ByteArray) : ∀ (n i : Nat) (x : ByteArray), 1 ≤ n → i < n → (byR n i x q).2 = ((rights n i).length == q.length) ∧ ((rights n i).length = q.length → (byR n i x q).1 = upF x q (rights n i)) := by
  induction q with
  | nil =>
    intro n i x hn hi
    by_cases h : n < 2
    · obtain rfl : n = 1 := by omega
      rw [rights_small _ _ h]; simp [byR, upF]
    · have : (rights n i).length ≠ 0 := by
        by_cases hk : i < split n
        · rw [rights_left n i (by omega) hk]; simp
        · rw [rights_right n i (by omega) hk]; simp
      have hn1 : (n == 1) = false := by simp; omega
      refine ⟨?_, fun h0 => absurd h0 this⟩
      rw [show (byR n i x []).2 = (n == 1) from rfl, hn1]
      symm; simpa using this
  | cons y q ih =>
    intro n i x hn hi
    by_cases h : n < 2
    · obtain rfl : n = 1 := by omega
      rw [rights_small _ _ h]; simp [byR]
    · have hl := split_lt n (by omega); have hp := split_pos n
      by_cases hk : i < split n
      · obtain ⟨e1, e2⟩ := ih (split n) i x (by omega) hk
        rw [rights_left n i (by omega) hk]
        have eb : byR n i x (y :: q) = (join (byR (split n) i x q).1 y, (byR (split n) i x q).2) := by
          rw [byR, if_neg (by omega), if_pos hk]
        rw [eb]
        refine ⟨?_, fun hh => ?_⟩
        · simp [e1]
        · simp only [List.length_cons, Nat.succ.injEq] at hh
          show join _ _ = _
          rw [e2 (by omega)]; simp [upF]
      · obtain ⟨e1, e2⟩ := ih (n - split n) (i - split n) x (by omega) (by omega)
        rw [rights_right n i (by omega) hk]
        have eb : byR n i x (y :: q) = (join y (byR (n - split n) (i - split n) x q).1, (byR (n - split n) (i - split n) x q).2) := by
          rw [byR, if_neg (by omega), if_neg hk]
        rw [eb]
        refine ⟨?_, fun hh => ?_⟩
        · simp [e1]
        · simp only [List.length_cons, Nat.succ.injEq] at hh
          show join _ _ = _
          rw [e2 (by omega)]; simp [upF]
end Mk
end Go.Proofs.YtmapodkdnbbjgaaDoor
