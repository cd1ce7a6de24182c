/- The room of users in memory: a map's block that reads as a room; the set of names that have been met; the laws at the operations. -/
import Derived.Test.YtbcldkbacdnpiaaProg
import Derived.Test.YtbcldkbacdnpiaaQuSpec
import Derived.WalkKit
import Derived.Maps.RangeWalk
import Derived.Maps.OwnSet
import Derived.Maps.StringElems
import Derived.Lib.Hide
namespace Go.Proofs.Ytbcldkbacdnpiaa
open Go.RowKit Go.Maps Qu
/-- a user's state as a value -/
def uval (u : U) : Value := .agg #[.bool u.m, .int .i64 u.d, .string u.t]
def udat (u : U) : DataW Unit := .agg [.lit (.bool u.m), .lit (.int .i64 u.d), .lit (.string u.t.data.toList)]
def uelem : Value → Option (DataW Unit × List MemPlace)
  | .agg cs => match cs.toList with
    | [.bool m, .int .i64 d, .string t] => some (.agg [.lit (.bool m), .lit (.int .i64 d), .lit (.string t.data.toList)], [])
    | _ => none
  | _ => none
theorem uelem_mk (u : U) : uelem (uval u) = some (udat u, []) := rfl
theorem uelem_inv {v : Value} {z : DataW Unit × List MemPlace} (h : uelem v = some z) : ∃ u, v = uval u ∧ z = (udat u, []) := by
  unfold uelem at h
  split at h
  · rename_i cs
    split at h
    · rename_i m d t hcs
      obtain ⟨l⟩ := cs
      simp only at hcs
      subst hcs
      cases h
      exact ⟨⟨m, d, t⟩, rfl, rfl⟩
    · cases h
  · cases h
theorem udat_inj {u u' : U} (h : udat u = udat u') : u = u' := by
  unfold udat at h
  simp only [DataW.agg.injEq, List.cons.injEq, DataW.lit.injEq, Lit.bool.injEq, Lit.int.injEq, Lit.string.injEq, true_and, and_true] at h
  cases u; cases u'
  simp only at h
  obtain ⟨rfl, rfl, h3⟩ := h
  rw [bytes_ext h3]
def Qu.Room.set (r : Room) (k : ByteArray) (u : U) : Room := ⟨if k ∈ r.keys then r.keys else r.keys ++ [k], fun x => if x = k then u else r.of x⟩
theorem apply_set (r : Room) (e : Ev) : r.apply e = r.set e.user (turn (r.of e.user) e) := by
  unfold Room.apply Room.set
  congr 1
  funext k
  split
  · rename_i h; rw [h]
  · rfl
/-- what the map's datum says -/
structure Says (D : DataW Unit) (r : Room) : Prop where
  at_ : ∀ k : ByteArray, D.atKey (.string k.data.toList) (udat Qu.zero) = udat (r.of k)
  has : ∀ k : ByteArray, Maps.has D (.string k.data.toList) = decide (k ∈ r.keys)
theorem isKey (l : List UInt8) : WideAt.IsKeyLit (.string l) := by simp [WideAt.IsKeyLit]
theorem key_ne {k k' : ByteArray} (h : k' ≠ k) : (Lit.string k'.data.toList) ≠ .string k.data.toList := fun e => h (bytes_ext (by simpa using e))
theorem Says.none : Says (.map []) Room.none := ⟨fun _ => rfl, fun _ => rfl⟩
theorem Says.put {D : DataW Unit} {r : Room} (h : Says D r) (hm : IsMap D) (k : ByteArray) (u : U) : Says (D.put (.string k.data.toList) (udat u)) (r.set k u) := by
  refine ⟨fun x => ?_, fun x => ?_⟩
  · by_cases c : x = k
    · subst c
      rw [Maps.atKey_put_same hm (isKey _)]; simp [Room.set]
    · rw [Maps.atKey_put_other (key_ne c), h.at_]; simp [Room.set, c]
  · by_cases c : x = k
    · subst c
      rw [Maps.has_put_same hm (isKey _)]
      symm
      rw [decide_eq_true_iff]
      unfold Room.set
      by_cases c' : x ∈ r.keys <;> simp [c']
    · rw [Maps.has_put_other (key_ne c), h.has]
      unfold Room.set
      by_cases c' : k ∈ r.keys <;> simp [c', c]
/-- block b is the room r; at most n entries -/
def RoomAt (w : World) (b : Nat) (r : Room) (n : Nat) : Prop := ∃ D, w.ownsMap Try.prog 9 uelem b n D ∧ Says D r
theorem law_s : Keyed Try.prog 9 := string_keyed Try.underlying9
theorem zero_user (w : World) : (zeroValue 51).run Try.prog w = .ok (uval Qu.zero) w := by kernel_rfl
theorem zero_bool (w : World) : (zeroValue 4).run Try.prog w = .ok (.bool false) w := by kernel_rfl
theorem RoomAt.made (w : World) : RoomAt (w.alloc (.map #[] 0)) w.heap.size Room.none 0 := ⟨_, World.ownsMap_made _ _ _ _, .none⟩
theorem RoomAt.lt {w : World} {b : Nat} {r : Room} {n : Nat} (h : RoomAt w b r n) : b < w.heap.size := by obtain ⟨D, h, _⟩ := h; exact h.lt
theorem RoomAt.mono {w : World} {b : Nat} {r : Room} {n n' : Nat} (h : RoomAt w b r n) (hn : n ≤ n') : RoomAt w b r n' := by
  obtain ⟨D, h, s⟩ := h; exact ⟨D, h.mono hn, s⟩
theorem RoomAt.kept {w w' : World} {b : Nat} {r : Room} {n : Nat} {row : Option Nat} (h : RoomAt w b r n) (hg : w.grownBy w' row) (hne : some b ≠ row) : RoomAt w' b r n := by
  obtain ⟨D, h, s⟩ := h; exact ⟨D, h.kept hg hne, s⟩
theorem RoomAt.alloc {w : World} {b : Nat} {r : Room} {n : Nat} (h : RoomAt w b r n) (o : Obj) : RoomAt (w.alloc o) b r n := h.kept (World.grownBy_alloc w o none) (by simp)
theorem RoomAt.setCell {w : World} {b : Nat} {r : Room} {n : Nat} (h : RoomAt w b r n) {a : Addr} (ha : b ≠ a.block) (u : Value) : RoomAt (w.setCell a u) b r n := by
  obtain ⟨D, h, s⟩ := h; exact ⟨D, h.setCell ha u, s⟩
theorem RoomAt.block {w w' : World} {b : Nat} {r : Room} {n : Nat} (h : RoomAt w b r n) (hk : w'.heap[b]? = w.heap[b]?) : RoomAt w' b r n := by
  obtain ⟨D, ⟨es, clock, hb, F⟩, s⟩ := h; exact ⟨D, ⟨es, clock, hk.trans hb, F⟩, s⟩
section
variable {P : Program} (w : World) {ops : Array Oper} {rest : List Oper} {o : Oper} {a : Act} {Q : Exit → Act → World → Prop}
theorem wpList_lookup_own {H : Type} (hg : o.guard = none) (m x : Operand) (t : TypeId) (hop : o.op = Op.lookup t m x false)
    (k e : TypeId) (K : Keyed P k) (ht : P.underlying t = some (.map k e)) (R : Value → Option (DataW H × List MemPlace)) {z : Value} (hz : (zeroValue e).run P w = .ok z w) (zd : DataW H) (zp : List MemPlace) (hzd : R z = some (zd, zp)) (b n : Nat) (D : DataW H)
    (hm : a.eval m = .map (some b)) (hown : w.ownsMap P k R b n D) (key : Value) (kl : Lit) (hx : a.eval x = key) (hkey : keyOf P k key = some kl)
    (hK : ∀ v ps, R v = some (D.atKey kl zd, ps) → wpList P ops Q rest (a.put o.dst v) w) :
    wpList P ops Q (o :: rest) a w := by
  refine wpList_plain hg fun K' hK' => ?_
  obtain ⟨v, ps, hrun, hv⟩ := hown.lookup K ht hz hzd hkey
  unfold Oper.wp
  simp [execOp, hop, hm, hx, hrun, Result.andThen]
  exact hK' _ _ (hK v ps hv)
end
section
variable (w : World) {ops : Array Oper} {rest : List Oper} {o : Oper} {a : Act} {Q : Exit → Act → World → Prop}
theorem run_lookup_room {w : World} {b : Nat} {r : Room} {n : Nat} (h : RoomAt w b r n) (k : ByteArray) (hs : k.size ≤ maxLen) :
    (Instr.lookup 45 (.map (some b)) (.string k) false).run Try.prog w = .ok (uval (r.of k)) w := by
  obtain ⟨D, hown, hs'⟩ := h
  obtain ⟨v, ps, hrun, hv⟩ := hown.lookup (t := 45) law_s Try.underlying45 (zero_user w) (uelem_mk Qu.zero) (WideMaps.keyOf_string_mk Try.underlying9 hs)
  obtain ⟨u, rfl, e⟩ := uelem_inv hv
  simp only [Prod.mk.injEq] at e
  rw [hs'.at_] at e
  rw [hrun, udat_inj e.1]
/-- 'r[k]' -/
theorem wpList_lookup_room (hg : o.guard = none) (m x : Operand) (hop : o.op = Op.lookup 45 m x false)
    (b n : Nat) (r : Room) (hm : a.eval m = .map (some b)) (h : RoomAt w b r n) (k : ByteArray) (hx : a.eval x = .string k) (hs : k.size ≤ maxLen) (mm : Bool) (d : Int) (tt : ByteArray) (hu : Hid (r.of k = ⟨mm, d, tt⟩))
    (hK : wpList Try.prog ops Q rest (a.put o.dst (.agg #[.bool mm, .int .i64 d, .string tt])) w) :
    wpList Try.prog ops Q (o :: rest) a w := by
  refine wpList_plain hg fun K' hK' => ?_
  have hrun := run_lookup_room h k hs
  rw [hu.out] at hrun
  unfold Oper.wp
  simp [execOp, hop, hm, hx, hrun, Result.andThen]
  exact hK' _ _ hK
/-- 'r[k] = u' -/
theorem wpList_mapUpdate_room (hg : o.guard = none) (m x v : Operand) (hop : o.op = Op.mapUpdate 45 m x v)
    (b n : Nat) (r : Room) (hm : a.eval m = .map (some b)) (h : RoomAt w b r n) (hn : n < maxLen) (k : ByteArray) (hx : a.eval x = .string k) (hs : k.size ≤ maxLen) (mm : Bool) (d : Int) (tt : ByteArray) (hv : a.eval v = .agg #[.bool mm, .int .i64 d, .string tt])
    (hK : ∀ w', RoomAt w' b (r.set k ⟨mm, d, tt⟩) (n + 1) → w.grownBy w' (some b) → wpList Try.prog ops Q rest (a.put o.dst undef) w') :
    wpList Try.prog ops Q (o :: rest) a w := by
  obtain ⟨D, hown, hs'⟩ := h
  exact wpList_mapUpdate_own w hg m x v _ hop 9 51 law_s Try.underlying45 uelem b n D hm hown hn _ _ _ hx hv (WideMaps.keyOf_string_mk Try.underlying9 hs) (udat ⟨mm, d, tt⟩) [] (uelem_mk ⟨mm, d, tt⟩)
    (fun w' h1 h2 => hK w' ⟨_, h1, hs'.put hown.isMap k ⟨mm, d, tt⟩⟩ h2)
/-- block b is the set l -/
def SeenAt (w : World) (b : Nat) (l : List ByteArray) (n : Nat) : Prop :=
  ∃ D : DataW Unit, w.ownsMap Try.prog 9 (plainElem Try.prog 4) b n D ∧ ∀ k : ByteArray, D.atKey (.string k.data.toList) (.lit (.bool false)) = .lit (.bool (decide (k ∈ l)))
theorem SeenAt.made (w : World) : SeenAt (w.alloc (.map #[] 0)) w.heap.size [] 0 := ⟨_, World.ownsMap_made _ _ _ _, fun _ => rfl⟩
theorem SeenAt.lt {w : World} {b : Nat} {l : List ByteArray} {n : Nat} (h : SeenAt w b l n) : b < w.heap.size := by obtain ⟨D, h, _⟩ := h; exact h.lt
theorem SeenAt.setCell {w : World} {b : Nat} {l : List ByteArray} {n : Nat} (h : SeenAt w b l n) {a : Addr} (ha : b ≠ a.block) (u : Value) : SeenAt (w.setCell a u) b l n := by
  obtain ⟨D, h, s⟩ := h; exact ⟨D, h.setCell ha u, s⟩
theorem SeenAt.kept {w w' : World} {b : Nat} {l : List ByteArray} {n : Nat} {row : Option Nat} (h : SeenAt w b l n) (hg : w.grownBy w' row) (hne : some b ≠ row) : SeenAt w' b l n := by
  obtain ⟨D, h, s⟩ := h; exact ⟨D, h.kept hg hne, s⟩
theorem run_lookup_seen {w : World} {b : Nat} {l : List ByteArray} {n : Nat} (h : SeenAt w b l n) (k : ByteArray) (hs : k.size ≤ maxLen) :
    (Instr.lookup 63 (.map (some b)) (.string k) false).run Try.prog w = .ok (.bool (decide (k ∈ l))) w := by
  obtain ⟨D, hown, hs'⟩ := h
  obtain ⟨v, ps, hrun, hv⟩ := hown.lookup (t := 63) law_s Try.underlying63 (zero_bool w) (plainElem_bool Try.underlying4 false) (WideMaps.keyOf_string_mk Try.underlying9 hs)
  rw [hs' k] at hv
  unfold plainElem at hv
  rw [Try.underlying4] at hv
  cases v <;> simp at hv
  rw [hrun, hv.1]
/-- 'seen[k]' -/
theorem wpList_lookup_seen (hg : o.guard = none) (m x : Operand) (hop : o.op = Op.lookup 63 m x false)
    (b n : Nat) (l : List ByteArray) (hm : a.eval m = .map (some b)) (h : SeenAt w b l n) (k : ByteArray) (hx : a.eval x = .string k) (hs : k.size ≤ maxLen)
    (hK : wpList Try.prog ops Q rest (a.put o.dst (.bool (decide (k ∈ l)))) w) :
    wpList Try.prog ops Q (o :: rest) a w := by
  obtain ⟨D, hown, hs'⟩ := h
  exact wpList_lookup_own w hg m x _ hop 9 4 law_s Try.underlying63 (plainElem Try.prog 4) (zero_bool w) (.lit (.bool false)) [] (plainElem_bool Try.underlying4 false) b n D hm hown _ _ hx (WideMaps.keyOf_string_mk Try.underlying9 hs)
    (fun v ps hv => by
      have : v = .bool (decide (k ∈ l)) := by
        rw [hs' k] at hv
        unfold plainElem at hv
        rw [Try.underlying4] at hv
        cases v <;> simp at hv
        rw [hv.1]
      rw [this]; exact hK)
theorem SeenAt.put {w : World} {b n : Nat} {l : List ByteArray} {D : DataW Unit} (hm : IsMap D) (hs' : ∀ k : ByteArray, D.atKey (.string k.data.toList) (.lit (.bool false)) = .lit (.bool (decide (k ∈ l)))) (k : ByteArray)
    (h1 : w.ownsMap Try.prog 9 (plainElem Try.prog 4) b n (D.put (.string k.data.toList) (.lit (.bool true)))) : SeenAt w b (k :: l) n := by
  refine ⟨_, h1, fun x => ?_⟩
  by_cases c : x = k
  · subst c
    rw [Maps.atKey_put_same hm (isKey _)]; simp
  · rw [Maps.atKey_put_other (key_ne c), hs' x]; simp [c]
/-- 'seen[k] = true' -/
theorem wpList_mapUpdate_seen (hg : o.guard = none) (m x v : Operand) (hop : o.op = Op.mapUpdate 63 m x v)
    (b n : Nat) (l : List ByteArray) (hm : a.eval m = .map (some b)) (h : SeenAt w b l n) (hn : n < maxLen) (k : ByteArray) (hx : a.eval x = .string k) (hs : k.size ≤ maxLen) (hv : a.eval v = .bool true)
    (hK : ∀ w', SeenAt w' b (k :: l) (n + 1) → w.grownBy w' (some b) → wpList Try.prog ops Q rest (a.put o.dst undef) w') :
    wpList Try.prog ops Q (o :: rest) a w := by
  obtain ⟨D, hown, hs'⟩ := h
  exact wpList_mapUpdate_own w hg m x v _ hop 9 4 law_s Try.underlying63 (plainElem Try.prog 4) b n D hm hown hn _ _ _ hx hv (WideMaps.keyOf_string_mk Try.underlying9 hs) (.lit (.bool true)) [] (plainElem_bool Try.underlying4 true)
    (fun w' h1 h2 => hK w' (SeenAt.put hown.isMap hs' k h1) h2)
/-- the same, in a map's literal -/
theorem wpList_insert_seen (hg : o.guard = none) (m x v : Operand) (hop : o.op = Op.insert 63 m x v)
    (b n : Nat) (l : List ByteArray) (hm : a.eval m = .map (some b)) (h : SeenAt w b l n) (hn : n < maxLen) (k : ByteArray) (hx : a.eval x = .string k) (hs : k.size ≤ maxLen) (hv : a.eval v = .bool true)
    (hK : ∀ w', SeenAt w' b (k :: l) (n + 1) → w.grownBy w' (some b) → wpList Try.prog ops Q rest (a.put o.dst undef) w') :
    wpList Try.prog ops Q (o :: rest) a w := by
  obtain ⟨D, hown, hs'⟩ := h
  refine wpList_plain hg fun K' hK' => ?_
  obtain ⟨w', hrun, r1, r2⟩ := hown.update (t := 63) law_s Try.underlying63 hn (WideMaps.keyOf_string_mk Try.underlying9 hs) (plainElem_bool Try.underlying4 true)
  have hrun' : Sem.run Try.prog (Instr.mapUpdate 63 (.map (some b)) (.string k) (.bool true)) w = .ok () w' := hrun
  unfold Oper.wp
  simp [execOp, hop, hm, hx, hv, hrun', Result.andThen]
  exact hK' _ _ (hK w' (SeenAt.put hown.isMap hs' k r1) r2)
end
end Go.Proofs.Ytbcldkbacdnpiaa
