/- The readers of the objects that come in. Conditions: none. -/
import Derived.Test.YtjdioilkhbpmoaaLinkG
import Derived.Test.YtjdioilkhbpmoaaChecked
namespace Go.Proofs.Ytjdioilkhbpmoaa
open Go.RowKit LK
set_option linter.unusedVariables false
def okSym (_ : World) (p : Sym) : Prop := p.1.size ≤ 140737488351232 ∧ (Lit.int .i64 p.2).wf = true
def okWnt (_ : World) (p : Wnt) : Prop := (Lit.int .i64 p.1).wf = true ∧ (Lit.int .i64 p.2.1).wf = true ∧ p.2.2.size ≤ 140737488351232
def okB8 (_ : World) (a : Int) : Prop := (Lit.int .u8 a).wf = true
def okO (w : World) (o : OV) : Prop := SlOk 1 (encI .u8) okB8 w o.1 ∧ SlOk 2 encSym okSym w o.2.1 ∧ SlOk 3 encWnt okWnt w o.2.2
theorem rdI64 : Rdr Try.prog 3 1 (encI .i64) (fun _ a => (Lit.int .i64 a).wf = true) := Rdr.int Try.underlying3 (by kernel_rfl)
theorem rdStr1 : Rdr Try.prog 9 1 encS (fun _ s => s.size ≤ 140737488351232) := Rdr.str Try.underlying9 (by kernel_rfl)
theorem rdSym : Rdr Try.prog 72 2 encSym okSym :=
  Rdr.struct Try.underlying72 (by kernel_rfl) (by
    refine RdrF.cons (i := 0) (off := 0) (k := 1) (k' := 1) (enc := encS) (enc' := encI .i64) (ok := (fun (_ : World) (s : ByteArray) => s.size ≤ 140737488351232)) (ok' := (fun (_ : World) (a : Int) => (Lit.int .i64 a).wf = true)) (f := _) (hf := rfl) ?_ ?_ ?_
    · rfl
    · exact rdStr1
    refine RdrF.one (f := _) (hf := rfl) ?_ ?_
    · rfl
    exact rdI64)
theorem rdWnt : Rdr Try.prog 74 3 encWnt okWnt :=
  Rdr.struct Try.underlying74 (by kernel_rfl) (by
    refine RdrF.cons (i := 0) (off := 0) (k := 1) (k' := 2) (enc := encI .i64) (enc' := fun p : Int × ByteArray => encI .i64 p.1 ++ encS p.2) (ok := (fun (_ : World) (a : Int) => (Lit.int .i64 a).wf = true)) (ok' := fun (_ : World) (p : Int × ByteArray) => (Lit.int .i64 p.1).wf = true ∧ p.2.size ≤ 140737488351232) (f := _) (hf := rfl) ?_ ?_ ?_
    · rfl
    · exact rdI64
    refine RdrF.cons (i := 1) (off := 1) (k := 1) (k' := 1) (enc := encI .i64) (enc' := encS) (ok := (fun (_ : World) (a : Int) => (Lit.int .i64 a).wf = true)) (ok' := (fun (_ : World) (s : ByteArray) => s.size ≤ 140737488351232)) (f := _) (hf := rfl) ?_ ?_ ?_
    · rfl
    · exact rdI64
    refine RdrF.one (f := _) (hf := rfl) ?_ ?_
    · rfl
    exact rdStr1)
theorem rdBytes8 : Rdr Try.prog 37 1 (encV (α := Int)) (SlOk 1 (encI .u8) okB8) :=
  Rdr.slice' (Rdr.int Try.underlying5 (by kernel_rfl)) (by decide) Try.underlying37 (by kernel_rfl) (show Try.prog.bytesOf 5 = 1 by kernel_rfl) (by decide)
theorem rdSyms : Rdr Try.prog 38 1 (encV (α := Sym)) (SlOk 2 encSym okSym) :=
  Rdr.slice' rdSym (by decide) Try.underlying38 (by kernel_rfl) (show Try.prog.bytesOf 72 = 24 by kernel_rfl) (by decide)
theorem rdWnts : Rdr Try.prog 39 1 (encV (α := Wnt)) (SlOk 3 encWnt okWnt) :=
  Rdr.slice' rdWnt (by decide) Try.underlying39 (by kernel_rfl) (show Try.prog.bytesOf 74 = 32 by kernel_rfl) (by decide)
theorem rdObj : Rdr Try.prog 41 3 encO okO :=
  Rdr.struct Try.underlying41 (by kernel_rfl) (by
    refine RdrF.cons (i := 0) (off := 0) (k := 1) (k' := 2) (enc := encV) (enc' := fun p : SlV Sym × SlV Wnt => encV p.1 ++ encV p.2) (ok := SlOk 1 (encI .u8) okB8) (ok' := fun (w : World) (p : SlV Sym × SlV Wnt) => SlOk 2 encSym okSym w p.1 ∧ SlOk 3 encWnt okWnt w p.2) (f := _) (hf := rfl) ?_ ?_ ?_
    · rfl
    · exact rdBytes8
    refine RdrF.cons (i := 1) (off := 1) (k := 1) (k' := 1) (enc := encV) (enc' := encV) (ok := SlOk 2 encSym okSym) (ok' := SlOk 3 encWnt okWnt) (f := _) (hf := rfl) ?_ ?_ ?_
    · rfl
    · exact rdSyms
    refine RdrF.one (f := _) (hf := rfl) ?_ ?_
    · rfl
    exact rdWnts)
instance : Inhabited OV := ⟨(⟨none, 0, 0, []⟩, ⟨none, 0, 0, []⟩, ⟨none, 0, 0, []⟩)⟩
theorem rdObs : Rdr Try.prog 22 1 (encV (α := OV)) (SlOk 3 encO okO) :=
  Rdr.slice' rdObj (by decide) Try.underlying22 (by kernel_rfl) (show Try.prog.bytesOf 41 = 72 by kernel_rfl) (by decide)
theorem ObR.of {w : World} {o : OV} (h : okO w o) : ObR w o := by
  obtain ⟨h1, h2, h3⟩ := h
  exact ⟨h1.sl, h2.sl, h3.sl, h1.nil_, h2.nil_, h3.nil_, fun x hx => by
    have := h1.all x hx
    unfold okB8 at this
    have h2 : IntKind.u8.min ≤ x ∧ x ≤ IntKind.u8.max := by simpa [Lit.wf] using this
    have e1 : IntKind.u8.min = 0 := by decide
    have e2 : IntKind.u8.max = 255 := by decide
    omega, fun x hx => (h2.all x hx).1, fun x hx => (h3.all x hx).2.2⟩
theorem ObsR.of {w : World} {v : SlV OV} (h : SlOk 3 encO okO w v) : ObsR w v.A v.n v.c v.xs := ⟨h.sl, h.nil_, fun o ho => ObR.of (h.all o ho)⟩
end Go.Proofs.Ytjdioilkhbpmoaa
