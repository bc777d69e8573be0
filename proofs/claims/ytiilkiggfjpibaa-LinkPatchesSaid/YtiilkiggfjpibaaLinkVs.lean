/- How a patch's input reads. Conditions: none. -/
import Derived.Test.YtiilkiggfjpibaaLinkU2
import Derived.Test.YtiilkiggfjpibaaLinkU7
namespace Go.Proofs.Ytiilkiggfjpibaa
open Go.RowKit LK
set_option linter.unusedVariables false
set_option linter.unusedSimpArgs false
def encPa (p : SlV OV × Int × OV) : List Value := encV p.1 ++ (encI .i64 p.2.1 ++ encO p.2.2)
def okPa (w : World) (p : SlV OV × Int × OV) : Prop := SlOk 3 encO okO w p.1 ∧ (Lit.int .i64 p.2.1).wf = true ∧ okO w p.2.2
theorem rdPatch : Rdr Try.prog 40 5 encPa okPa :=
  Rdr.struct Try.underlying40 (by kernel_rfl) (by
    refine RdrF.cons (i := 0) (off := 0) (k := 1) (k' := 4) (enc := encV) (enc' := fun p : Int × OV => encI .i64 p.1 ++ encO p.2) (ok := SlOk 3 encO okO) (ok' := fun (w : World) (p : Int × OV) => (Lit.int .i64 p.1).wf = true ∧ okO w p.2) (f := _) (hf := rfl) ?_ ?_ ?_
    · rfl
    · exact rdObs
    refine RdrF.cons (i := 1) (off := 1) (k := 1) (k' := 3) (enc := encI .i64) (enc' := encO) (ok := fun (_ : World) (a : Int) => (Lit.int .i64 a).wf = true) (ok' := okO) (f := _) (hf := rfl) ?_ ?_ ?_
    · rfl
    · exact rdI64
    refine RdrF.one (f := _) (hf := rfl) ?_ ?_
    · rfl
    exact rdObj)
instance : Inhabited (SlV OV × Int × OV) := ⟨(⟨none, 0, 0, []⟩, 0, (⟨none, 0, 0, []⟩, ⟨none, 0, 0, []⟩, ⟨none, 0, 0, []⟩))⟩
theorem in8_of {w : World} {s : SlV Int} (hS : SlOk 1 (encI .u8) okB8 w s) : In8 s.xs := fun x hx => by
  have := hS.all x hx
  unfold okB8 at this
  have h2 : IntKind.u8.min ≤ x ∧ x ≤ IntKind.u8.max := by simpa [Lit.wf] using this
  have e1 : IntKind.u8.min = 0 := by decide
  have e2 : IntKind.u8.max = 255 := by decide
  omega
end Go.Proofs.Ytiilkiggfjpibaa
