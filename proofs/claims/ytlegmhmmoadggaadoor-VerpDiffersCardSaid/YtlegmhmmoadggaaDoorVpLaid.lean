/- What the laid variables give to the walks; a world in which they lie. -/
import Derived.Test.YtlegmhmmoadggaaDoorVpEnv
import Derived.Test.YtlegmhmmoadggaaDoorRows
import Derived.ProofKit
import Derived.LaidLaws
import Derived.Stop.LaidErr
import Derived.Lib.LaidTab
namespace Go.Proofs.YtlegmhmmoadggaaDoor
open Go.RowKit Go.ChangeShapes Go.WideShapes Go.ChangeAt
namespace Vp
open Wr
open Dg hiding bs bs_size bs_data
theorem gTabType : (Tryd.prog.globals[5]?).map (·.type) = some 98 := by kernel_rfl
theorem cellsT : Tryd.prog.cellsOf 98 = 20 := by kernel_rfl
theorem cellsU : Tryd.prog.cellsOf 81 = 1 := by kernel_rfl
theorem gES : Tryd.prog.globalNamed "strconv.ErrSyntax" = some 2 := by kernel_rfl
theorem gESType : (Tryd.prog.globals[2]?).map (·.type) = some 51 := by kernel_rfl
theorem gER : Tryd.prog.globalNamed "strconv.ErrRange" = some 3 := by kernel_rfl
theorem gERType : (Tryd.prog.globals[3]?).map (·.type) = some 51 := by kernel_rfl
theorem cellsES : Tryd.prog.cellsOf 106 = 1 := by kernel_rfl
theorem cellsS : Tryd.prog.cellsOf 9 = 1 := by kernel_rfl
theorem star : "*" ++ "errors.errorString" = "*errors.errorString" := by decide
theorem rowES (u : TypeId) (h : Tryd.prog.typeName? 3 u = some "*errors.errorString") : u = 104 :=
  typeName_ptr_named (nm := "errors.errorString") (by rw [star]; kernel_rfl) (by kernel_rfl) (by decide) u (by rw [star]; exact h)
theorem cTab : Tryd.prog.globalNamed "missive/digest.constants" = some 4 := by kernel_rfl
theorem cTabType : (Tryd.prog.globals[4]?).map (·.type) = some 94 := by kernel_rfl
theorem cellsC : Tryd.prog.cellsOf 94 = 64 := by kernel_rfl
theorem cellsCE : Tryd.prog.cellsOf 69 = 1 := by kernel_rfl
theorem wTab : Tryd.prog.globalNamed "missive/verp.words" = some 0 := by kernel_rfl
theorem wTabType : (Tryd.prog.globals[0]?).map (·.type) = some 39 := by kernel_rfl
theorem cellsW : Tryd.prog.cellsOf 39 = 4 := by kernel_rfl
def nums : List Int := K.map v32
theorem laid_eq : (Rows.laid_missive_digest_constants : DataW Unit) = Lib.tabData .u32 nums := rfl
def texts : List (List UInt8) := [[], [98, 111, 117, 110, 99, 101, 115], [118, 111, 116, 101], [99, 111, 110, 102, 105, 114, 109]]
def textData {H : Type} (l : List (List UInt8)) : DataW H := .agg (l.map fun x => .lit (.string x))
theorem cells_of_texts {H : Type} {enc : TypeId × Value → H} {P : Program} {w : World} {base : Nat} {sp : Nat → Bool} {held : Bool} {fuel : Nat} {t e : TypeId} {n : Nat} {cs : List Value} {l : List (List UInt8)} {p : List MemPlace}
    (ht : P.underlying t = some (.array n e)) (he : P.underlying e = some .string) (hce : P.cellsOf e = 1) (hct : P.cellsOf t = n)
    (h : DataW.trod enc P w base sp held fuel t cs = some (textData l, p)) : cs = l.map fun x => Value.string ⟨x.toArray⟩ := by
  cases fuel with
  | zero => simp [DataW.trod] at h
  | succ fuel =>
    simp only [DataW.trod, ht, hce, hct, Nat.mul_one] at h
    split at h
    · rename_i hl
      obtain ⟨xs, hm, hx⟩ := Option.map_eq_some_iff.1 h
      have hxs : xs.map (·.1) = l.map fun x => (DataW.lit (.string x) : DataW H) := by
        have := congrArg Prod.fst hx
        simpa [textData] using this
      have hxl : xs.length = n := by simpa using Lib.mapM_length hm
      have hzl : l.length = n := by
        have := congrArg List.length hxs
        simp at this
        omega
      apply List.ext_getElem?
      intro i
      by_cases hi : i < n
      · obtain ⟨b, hb, hf⟩ := Lib.mapM_at hm i i (by simp [hi])
        obtain ⟨z, hc, rfl, _⟩ := DataW.trod_string he hf
        have h1 : cs[i]? = some (.string z) := by
          have := congrArg (·[0]?) hc
          simpa [List.getElem?_take, List.getElem?_drop] using this
        have h2 : (xs.map (·.1))[i]? = some (DataW.lit (.string z.data.toList) : DataW H) := by simp [hb]
        rw [hxs] at h2
        simp only [List.getElem?_map, Option.map_eq_some_iff, DataW.lit.injEq, Lit.string.injEq] at h2
        obtain ⟨z', hz', rfl⟩ := h2
        simp [h1, hz']
      · rw [List.getElem?_eq_none (by omega), List.getElem?_eq_none (by simp; omega)]
    · cases h
theorem i64_wf {n : Int} (h : (Lit.int .i64 n).wf = true) : I64 n := by
  have e1 : IntKind.i64.min = -9223372036854775808 := rfl
  have e2 : IntKind.i64.max = 9223372036854775807 := rfl
  simp [Lit.wf, e1, e2] at h
  exact h
theorem u8_wf {n : Int} (h : (Lit.int .u8 n).wf = true) : 0 ≤ n ∧ n ≤ 255 := by
  have e1 : IntKind.u8.min = 0 := rfl
  have e2 : IntKind.u8.max = 255 := rfl
  simp [Lit.wf, e1, e2] at h
  exact h
theorem laid_ve {W : World} (h : laidMetH Tryd.prog Rows.verpOnlyRow.laid W) (hS : W.ShapedOpen Tryd.prog) : VE W := by
  have h0 : laidMet Tryd.prog Rows.verpOnlyRow.laid W := h
  have h2 := laidMet.tail (laidMet.tail h0)
  have h3 := laidMet.tail h2
  have h5 := laidMet.tail (laidMet.tail h3)
  have h6 := laidMet.tail h5
  obtain ⟨a3, s3, hv3, -, -, -⟩ := laid_sentinel h3 gER gERType Tryd.underlying51 rowES Tryd.underlying104 Tryd.underlying106 rfl rfl Tryd.underlying9 cellsES cellsS
  obtain ⟨a4, s4, hv4, -, -, -⟩ := laid_sentinel (laidMet.tail h3) gES gESType Tryd.underlying51 rowES Tryd.underlying104 Tryd.underlying106 rfl rfl Tryd.underlying9 cellsES cellsS
  have ht : Lib.TabIs Tryd.prog W "internal/strconv.uint64pow10" .u64 Lib.pow10Tab := Lib.tabIs_of_head (rest := _) gTab gTabType Tryd.underlying98 Tryd.underlying81 cellsU cellsT h2
  have hk : Lib.TabIs Tryd.prog W "missive/digest.constants" .u32 nums := Lib.tabIs_of_head (rest := _) cTab cTabType Tryd.underlying94 Tryd.underlying69 cellsCE cellsC h5
  have hkk : KOK W := by
    intro i hi
    rw [hk.cell cTab i (by exact hi)]
    have e : nums.getD i 0 = v32 (K.getD i 0) := by
      simp only [nums, List.getD_eq_getElem?_getD, List.getElem?_map]
      rw [List.getElem?_eq_getElem (by exact hi)]; rfl
    rw [e]
  have hw : W.var? Tryd.prog "missive/verp.words" = some (texts.map fun x => Value.string ⟨x.toArray⟩).toArray := by
    obtain ⟨ps, ⟨g', t', cs, fuel, p, q, hg', ht', hvar, hd, _, _⟩, _⟩ := h6
    obtain rfl := Option.some.inj (wTab.symm.trans hg')
    obtain rfl := Option.some.inj (wTabType.symm.trans ht')
    rw [hvar, ← cells_of_texts (l := texts) Tryd.underlying39 Tryd.underlying9 cellsS cellsW hd]
  have q3 : W.cell? ⟨3, 0, none⟩ = some (.iface 104 (.pointer (some a3))) := by
    have h0 := World.var?_cell gER hv3 0; simpa using h0
  have q4 : W.cell? ⟨2, 0, none⟩ = some (.iface 104 (.pointer (some a4))) := by
    have h0 := World.var?_cell gES hv4 0; simpa using h0
  have c0 : W.cell? ⟨0, 0, none⟩ = some (.string (Wr.bs (word 0))) := by
    have h0 := World.var?_cell wTab hw 0; exact h0
  have c1 : W.cell? ⟨0, 1, none⟩ = some (.string (Wr.bs (word 1))) := by
    have h0 := World.var?_cell wTab hw 1; exact h0
  have c2 : W.cell? ⟨0, 2, none⟩ = some (.string (Wr.bs (word 2))) := by
    have h0 := World.var?_cell wTab hw 2; exact h0
  have c3 : W.cell? ⟨0, 3, none⟩ = some (.string (Wr.bs (word 3))) := by
    have h0 := World.var?_cell wTab hw 3; exact h0
  obtain ⟨m, hm⟩ : ∃ m, W.cell? ⟨1, 0, none⟩ = some (.int .i64 m) := Tryd.laysM145.s1_3 W hS
  have q0 := ht.cell gTab 0 (by decide)
  have b0 := block_lt_of_cell q0
  have b3 := block_lt_of_cell q3
  have b4 := block_lt_of_cell q4
  have b5 := block_lt_of_cell (hkk 0 (by decide))
  have b6 := block_lt_of_cell c0
  have b7 := block_lt_of_cell hm
  simp only at b0 b3 b4 b5 b6 b7
  exact ⟨⟨ht, ⟨_, _, q4⟩, ⟨_, _, q3⟩, by unfold NG; omega⟩, hkk, c0, c1, c2, c3, ⟨m, hm⟩, by unfold NV NG; omega⟩
abbrev synS : ByteArray := { data := #[105, 110, 118, 97, 108, 105, 100, 32, 115, 121, 110, 116, 97, 120] }
abbrev rngS : ByteArray := { data := #[118, 97, 108, 117, 101, 32, 111, 117, 116, 32, 111, 102, 32, 114, 97, 110, 103, 101] }
def tab32 : List Int := [0, 1, 28, 2, 29, 14, 24, 3, 30, 22, 20, 15, 25, 17, 4, 8, 31, 27, 13, 23, 21, 19, 16, 7, 26, 12, 18, 6, 11, 5, 10, 9]
def tab64 : List Int := [0, 1, 56, 2, 57, 49, 28, 3, 61, 58, 42, 50, 38, 29, 17, 4, 62, 47, 59, 36, 45, 43, 51, 22, 53, 39, 33, 30, 24, 18, 12, 5, 63, 55, 48, 27, 60, 41, 37, 16, 46, 35, 44, 21, 52, 32, 23, 11, 54, 26, 40, 15, 34, 20, 31, 10, 25, 14, 19, 9, 13, 8, 7, 6]
def tab10 : List Int := [1, 10, 100, 1000, 10000, 100000, 1000000, 10000000, 100000000, 1000000000, 10000000000, 100000000000, 1000000000000, 10000000000000, 100000000000000, 1000000000000000, 10000000000000000, 100000000000000000, 1000000000000000000, 10000000000000000000]
noncomputable def low : Nat := (World.holding Tryd.prog default ⟨#[], #[], []⟩).heap.size
/-- a world in which the listed variables lie as the program's text lays them -/
noncomputable def laidWorld (os : Os) : World :=
  let w0 := World.holding Tryd.prog os ⟨#[.cells #[.string synS] 106, .cells #[.string rngS] 106], #[], []⟩
  { w0 with heap := ((((((w0.heap.modify 5 fun
      | .cells _ t frozen => .cells (tab10.map fun z => Value.int .u64 z).toArray t frozen
      | o => o).modify 6 fun
      | .cells _ t frozen => .cells (tab32.map fun z => Value.int .u8 z).toArray t frozen
      | o => o).modify 7 fun
      | .cells _ t frozen => .cells (tab64.map fun z => Value.int .u8 z).toArray t frozen
      | o => o).modify 4 fun
      | .cells _ t frozen => .cells (cw K) t frozen
      | o => o).modify 0 fun
      | .cells _ t frozen => .cells (texts.map fun x => Value.string ⟨x.toArray⟩).toArray t frozen
      | o => o).modify 2 fun
      | .cells _ t frozen => .cells #[.iface 104 (.pointer (some ⟨low, 0, none⟩))] t frozen
      | o => o).modify 3 fun
      | .cells _ t frozen => .cells #[.iface 104 (.pointer (some ⟨low + 1, 0, none⟩))] t frozen
      | o => o }
theorem laid_met (os : Os) (args : Array Value) : laidMet Tryd.prog Rows.verpOnlyRow.laid ((laidWorld os).forCall (fun _ _ => 0) ⟨#[], args, []⟩).memory :=
  laidMet_of_run' 8 (by kernel_rfl) (by kernel_rfl)
end Vp
end Go.Proofs.YtlegmhmmoadggaaDoor
