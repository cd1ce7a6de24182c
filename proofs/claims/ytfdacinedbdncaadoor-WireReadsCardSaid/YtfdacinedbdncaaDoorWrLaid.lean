/- What the laid variables give to the walks; a world in which they lie. -/
import Derived.Test.YtfdacinedbdncaaDoorWrMem
import Derived.Test.YtfdacinedbdncaaDoorRows
import Derived.ProofKit
import Derived.LaidLaws
import Derived.Stop.LaidErr
import Derived.Lib.LaidTab
namespace Go.Proofs.YtfdacinedbdncaaDoor
open Go.RowKit Go.ChangeShapes Go.WideShapes Go.ChangeAt
namespace Wr
theorem gTabType : (Tryd.prog.globals[0]?).map (·.type) = some 96 := by kernel_rfl
theorem cellsT : Tryd.prog.cellsOf 96 = 20 := by kernel_rfl
theorem cellsU : Tryd.prog.cellsOf 81 = 1 := by kernel_rfl
theorem gES : Tryd.prog.globalNamed "strconv.ErrSyntax" = some 2 := by kernel_rfl
theorem gESType : (Tryd.prog.globals[2]?).map (·.type) = some 69 := by kernel_rfl
theorem gER : Tryd.prog.globalNamed "strconv.ErrRange" = some 3 := by kernel_rfl
theorem gERType : (Tryd.prog.globals[3]?).map (·.type) = some 69 := by kernel_rfl
theorem cellsES : Tryd.prog.cellsOf 112 = 1 := by kernel_rfl
theorem cellsS : Tryd.prog.cellsOf 9 = 1 := by kernel_rfl
theorem star : "*" ++ "errors.errorString" = "*errors.errorString" := by decide
theorem rowES (u : TypeId) (h : Tryd.prog.typeName? 3 u = some "*errors.errorString") : u = 110 :=
  typeName_ptr_named (nm := "errors.errorString") (by rw [star]; kernel_rfl) (by kernel_rfl) (by decide) u (by rw [star]; exact h)
theorem laid_env {W : World} (h : laidMetH Tryd.prog Rows.wireBackRow.laid W) : Env W := by
  have h0 : laidMet Tryd.prog Rows.wireBackRow.laid W := h
  have h2 := laidMet.tail (laidMet.tail h0)
  have h3 := laidMet.tail h2
  obtain ⟨a3, s3, hv3, -, -, -⟩ := laid_sentinel h3 gER gERType Tryd.underlying69 rowES Tryd.underlying110 Tryd.underlying112 rfl rfl Tryd.underlying9 cellsES cellsS
  obtain ⟨a4, s4, hv4, -, -, -⟩ := laid_sentinel (laidMet.tail h3) gES gESType Tryd.underlying69 rowES Tryd.underlying110 Tryd.underlying112 rfl rfl Tryd.underlying9 cellsES cellsS
  have ht : Lib.TabIs Tryd.prog W "internal/strconv.uint64pow10" .u64 Lib.pow10Tab := Lib.tabIs_of_head (rest := _) gTab gTabType Tryd.underlying96 Tryd.underlying81 cellsU cellsT h2
  have q3 : W.cell? ⟨3, 0, none⟩ = some (.iface 110 (.pointer (some a3))) := by
    have h0 := World.var?_cell gER hv3 0; simpa using h0
  have q4 : W.cell? ⟨2, 0, none⟩ = some (.iface 110 (.pointer (some a4))) := by
    have h0 := World.var?_cell gES hv4 0; simpa using h0
  have q0 := ht.cell gTab 0 (by decide)
  have s0 := block_lt_of_cell q0
  have s3 := block_lt_of_cell q3
  have s4 := block_lt_of_cell q4
  simp only at s0 s3 s4
  exact ⟨ht, ⟨_, _, q4⟩, ⟨_, _, q3⟩, by unfold NG; omega⟩
abbrev synS : ByteArray := { data := #[105, 110, 118, 97, 108, 105, 100, 32, 115, 121, 110, 116, 97, 120] }
abbrev rngS : ByteArray := { data := #[118, 97, 108, 117, 101, 32, 111, 117, 116, 32, 111, 102, 32, 114, 97, 110, 103, 101] }
def tab32 : List Int := [0, 1, 28, 2, 29, 14, 24, 3, 30, 22, 20, 15, 25, 17, 4, 8, 31, 27, 13, 23, 21, 19, 16, 7, 26, 12, 18, 6, 11, 5, 10, 9]
def tab64 : List Int := [0, 1, 56, 2, 57, 49, 28, 3, 61, 58, 42, 50, 38, 29, 17, 4, 62, 47, 59, 36, 45, 43, 51, 22, 53, 39, 33, 30, 24, 18, 12, 5, 63, 55, 48, 27, 60, 41, 37, 16, 46, 35, 44, 21, 52, 32, 23, 11, 54, 26, 40, 15, 34, 20, 31, 10, 25, 14, 19, 9, 13, 8, 7, 6]
def tab10 : List Int := [1, 10, 100, 1000, 10000, 100000, 1000000, 10000000, 100000000, 1000000000, 10000000000, 100000000000, 1000000000000, 10000000000000, 100000000000000, 1000000000000000, 10000000000000000, 100000000000000000, 1000000000000000000, 10000000000000000000]
noncomputable def low : Nat := (World.holding Tryd.prog default ⟨#[], #[], []⟩).heap.size
/-- a world in which the listed variables lie as the program's text lays them -/
noncomputable def laidWorld (os : Os) : World :=
  let w0 := World.holding Tryd.prog os ⟨#[.cells #[.string synS] 112, .cells #[.string rngS] 112], #[], []⟩
  { w0 with heap := ((((w0.heap.modify 0 fun
      | .cells _ t frozen => .cells (tab10.map fun z => Value.int .u64 z).toArray t frozen
      | o => o).modify 4 fun
      | .cells _ t frozen => .cells (tab32.map fun z => Value.int .u8 z).toArray t frozen
      | o => o).modify 5 fun
      | .cells _ t frozen => .cells (tab64.map fun z => Value.int .u8 z).toArray t frozen
      | o => o).modify 2 fun
      | .cells _ t frozen => .cells #[.iface 110 (.pointer (some ⟨low, 0, none⟩))] t frozen
      | o => o).modify 3 fun
      | .cells _ t frozen => .cells #[.iface 110 (.pointer (some ⟨low + 1, 0, none⟩))] t frozen
      | o => o }
theorem laid_met (os : Os) (args : Array Value) : laidMet Tryd.prog Rows.wireBackRow.laid ((laidWorld os).forCall (fun _ _ => 0) ⟨#[], args, []⟩).memory :=
  laidMet_of_run' 8 (by kernel_rfl) (by kernel_rfl)
end Wr
end Go.Proofs.YtfdacinedbdncaaDoor
