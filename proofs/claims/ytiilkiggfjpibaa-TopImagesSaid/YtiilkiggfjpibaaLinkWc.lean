/- How a list of patches reads. Conditions: none. -/
import Derived.Test.YtiilkiggfjpibaaLinkVs
namespace Go.Proofs.Ytiilkiggfjpibaa
open Go.RowKit LK
set_option linter.unusedVariables false
set_option linter.unusedSimpArgs false
theorem rdPatches : Rdr Try.prog 23 1 (encV (α := SlV OV × Int × OV)) (SlOk 5 encPa okPa) :=
  Rdr.slice' rdPatch (by decide) Try.underlying23 (by kernel_rfl) (show Try.prog.bytesOf 40 = 104 by kernel_rfl) (by decide)
theorem u8_wf {a : Int} (h : (Lit.int .u8 a).wf = true) : 0 ≤ a ∧ a < 256 := by
  have h2 : IntKind.u8.min ≤ a ∧ a ≤ IntKind.u8.max := by simpa [Lit.wf] using h
  have e1 : IntKind.u8.min = 0 := by decide
  have e2 : IntKind.u8.max = 255 := by decide
  omega
end Go.Proofs.Ytiilkiggfjpibaa
