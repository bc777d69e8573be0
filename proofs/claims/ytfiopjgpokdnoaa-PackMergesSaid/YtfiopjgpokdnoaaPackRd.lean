/- The readers of the laws' slices. Conditions: none. -/
import Derived.Test.YtfiopjgpokdnoaaRdr
import Derived.Test.YtfiopjgpokdnoaaChecked
namespace Go.Proofs.Ytfiopjgpokdnoaa
set_option linter.unusedVariables false
theorem rdInts : Rdr Try.prog 42 1 (encV (α := Int)) (SlOk 1 (encI .i64) (fun _ a => (Lit.int .i64 a).wf = true)) :=
  Rdr.slice' (Rdr.int Try.underlying3 (by kernel_rfl)) (by decide) Try.underlying42 (by kernel_rfl) (show Try.prog.bytesOf 3 = 8 by kernel_rfl) (by decide)
theorem rdStrs : Rdr Try.prog 43 1 (encV (α := ByteArray)) (SlOk 1 encS (fun _ s => s.size ≤ 140737488351232)) :=
  Rdr.slice' (Rdr.str Try.underlying9 (by kernel_rfl)) (by decide) Try.underlying43 (by kernel_rfl) (show Try.prog.bytesOf 9 = 16 by kernel_rfl) (by decide)
end Go.Proofs.Ytfiopjgpokdnoaa
