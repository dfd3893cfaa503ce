/- What a row's cell 'laid' gives the walks, and one start that fits. Conditions: stated with each theorem. -/
import Derived.Test.YtklgjhhlcpfkoaaDoorRows
import Derived.Test.YtklgjhhlcpfkoaaDoorFmt
import Derived.Stop.LaidErr
import Derived.Lib.LaidTab
import Derived.LaidLaws
namespace Go.Proofs.YtklgjhhlcpfkoaaDoor
open Go.RowKit
set_option maxRecDepth 100000

theorem Tryd.gES : Tryd.prog.globalNamed "strconv.ErrSyntax" = some 0 := by kernel_rfl
theorem Tryd.gER : Tryd.prog.globalNamed "strconv.ErrRange" = some 1 := by kernel_rfl
theorem Tryd.gESType : (Tryd.prog.globals[0]?).map (·.type) = some 36 := by kernel_rfl
theorem Tryd.gERType : (Tryd.prog.globals[1]?).map (·.type) = some 36 := by kernel_rfl
theorem Tryd.gPowType : (Tryd.prog.globals[2]?).map (·.type) = some 78 := by kernel_rfl
theorem Tryd.cellsES : Tryd.prog.cellsOf 75 = 1 := by kernel_rfl
theorem Tryd.cellsS : Tryd.prog.cellsOf 9 = 1 := by kernel_rfl
theorem Tryd.star : "*" ++ "errors.errorString" = "*errors.errorString" := by decide
theorem Tryd.rowES (u : TypeId) (h : Tryd.prog.typeName? 3 u = some "*errors.errorString") : u = 73 :=
  typeName_ptr_named (nm := "errors.errorString") (by rw [Tryd.star]; kernel_rfl) (by kernel_rfl) (by decide) u (by rw [Tryd.star]; exact h)

theorem pow_data : (Rows.laid_internal_strconv_uint64pow10 : DataW Unit) = Lib.tabData .u64 Lib.pow10Tab := by kernel_rfl
theorem tab_of_laid {r : List (String × DataW Unit)} {w : World} (h : laidMet Tryd.prog (("internal/strconv.uint64pow10", Rows.laid_internal_strconv_uint64pow10) :: r) w) : Tab w := by
  rw [pow_data] at h
  exact Lib.tabIs_of_head Tryd.gPow Tryd.gPowType Tryd.underlying78 Tryd.underlying58 (by kernel_rfl) (by kernel_rfl) h

/-- The two error variables hold errors. -/
def Errs (w : World) : Prop := (∃ t p, w.cell? ⟨0, 0, none⟩ = some (.iface t p)) ∧ ∃ t p, w.cell? ⟨1, 0, none⟩ = some (.iface t p)
theorem Errs.below {w w' : World} {B : Nat} (h : Errs w) (hb : Below B w w') (hB : w.heap.size ≤ B) : Errs w' := by
  obtain ⟨⟨t, p, h0⟩, ⟨t', p', h1⟩⟩ := h
  have q0 := World.block_lt_of_cell? _ _ h0
  have q1 := World.block_lt_of_cell? _ _ h1
  exact ⟨⟨t, p, (hb.cell (by omega)).trans h0⟩, ⟨t', p', (hb.cell (by omega)).trans h1⟩⟩
theorem errs_of_laid {r : List (String × DataW Unit)} {w : World} (h : laidMet Tryd.prog (("strconv.ErrRange", Rows.laid_strconv_ErrRange) :: ("strconv.ErrSyntax", Rows.laid_strconv_ErrSyntax) :: r) w) : Errs w := by
  obtain ⟨a1, s1, hv1, -, -, -⟩ := laid_sentinel h Tryd.gER Tryd.gERType Tryd.underlying36 Tryd.rowES Tryd.underlying73 Tryd.underlying75 rfl rfl Tryd.underlying9 Tryd.cellsES Tryd.cellsS
  obtain ⟨a0, s0, hv0, -, -, -⟩ := laid_sentinel h.tail Tryd.gES Tryd.gESType Tryd.underlying36 Tryd.rowES Tryd.underlying73 Tryd.underlying75 rfl rfl Tryd.underlying9 Tryd.cellsES Tryd.cellsS
  refine ⟨⟨73, .pointer (some a0), ?_⟩, ⟨73, .pointer (some a1), ?_⟩⟩
  · have h0 := World.var?_cell Tryd.gES hv0 0; simpa using h0
  · have h0 := World.var?_cell Tryd.gER hv1 0; simpa using h0

/-- The cells of a listed table. -/
def cellsOfLaid (d : DataW Unit) : Array Value := match d with
  | .agg l => (l.map fun | .lit (.int k z) => Value.int k z | _ => Value.nilIface).toArray
  | _ => #[]
abbrev synS : ByteArray := { data := #[105, 110, 118, 97, 108, 105, 100, 32, 115, 121, 110, 116, 97, 120] }
abbrev rngS : ByteArray := { data := #[118, 97, 108, 117, 101, 32, 111, 117, 116, 32, 111, 102, 32, 114, 97, 110, 103, 101] }
/-- So many blocks has the settled world. -/
noncomputable def low : Nat := (World.holding Tryd.prog default ⟨#[], #[], []⟩).heap.size
/-- The settled world with two blocks more, each an errors.errorString; the five variables hold what the rows list. -/
noncomputable def laidWorld (os : Os) : World :=
  let w0 := World.holding Tryd.prog os ⟨#[.cells #[.string synS] 75, .cells #[.string rngS] 75], #[], []⟩
  { w0 with heap := ((((w0.heap.modify 0 fun
      | .cells _ t frozen => .cells #[.iface 73 (.pointer (some ⟨low, 0, none⟩))] t frozen
      | o => o).modify 1 fun
      | .cells _ t frozen => .cells #[.iface 73 (.pointer (some ⟨low + 1, 0, none⟩))] t frozen
      | o => o).modify 2 fun
      | .cells _ t frozen => .cells (cellsOfLaid Rows.laid_internal_strconv_uint64pow10) t frozen
      | o => o).modify 3 fun
      | .cells _ t frozen => .cells (cellsOfLaid Rows.laid_math_bits_deBruijn32tab) t frozen
      | o => o).modify 4 fun
      | .cells _ t frozen => .cells (cellsOfLaid Rows.laid_math_bits_deBruijn64tab) t frozen
      | o => o }
abbrev laid3 : List (String × DataW Unit) := [("math/bits.deBruijn32tab", Rows.laid_math_bits_deBruijn32tab), ("math/bits.deBruijn64tab", Rows.laid_math_bits_deBruijn64tab), ("internal/strconv.uint64pow10", Rows.laid_internal_strconv_uint64pow10)]
abbrev laid5 : List (String × DataW Unit) := [("math/bits.deBruijn32tab", Rows.laid_math_bits_deBruijn32tab), ("math/bits.deBruijn64tab", Rows.laid_math_bits_deBruijn64tab), ("internal/strconv.uint64pow10", Rows.laid_internal_strconv_uint64pow10), ("strconv.ErrRange", Rows.laid_strconv_ErrRange), ("strconv.ErrSyntax", Rows.laid_strconv_ErrSyntax)]
theorem met3 (os : Os) (args : Array Value) : laidMet Tryd.prog laid3 ((laidWorld os).forCall (fun _ _ => 0) ⟨#[], args, []⟩).memory :=
  laidMet_of_run' 8 (by kernel_rfl) (by kernel_rfl)
theorem met5 (os : Os) (args : Array Value) : laidMet Tryd.prog laid5 ((laidWorld os).forCall (fun _ _ => 0) ⟨#[], args, []⟩).memory :=
  laidMet_of_run' 8 (by kernel_rfl) (by kernel_rfl)
end Go.Proofs.YtklgjhhlcpfkoaaDoor
