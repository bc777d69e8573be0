/-
  NARROWER THAN 'FOR EVERY INPUT', by the rows' own cells (each row's printed sentence says how): TopBytes: loops · CellSames: loops · CellFinds: loops · CellZeros: loops.
  DERIVED. THE GIVEN ROWS OF THIS SEAT. 4 by the template 'for every input the law returns true; each argument reads behind the call as it read before'; 0 by the template 'total and deterministic' (their statements: YtbgbalfhbficaaaTotals.lean).
  GIVEN WITH THE SEED: the statements are not yours to turn. If you find one false, say at which input.
  Laid BY PROGRAM, IN A SANDBOX (cutbox-rows.mjs): the forced cells as the released guide's own fill.sh prints them over the translation 41ea3c88d83385e1… (all of the seat's roots in one cut). By AI agents, Wed Nov 11 2026. No macro, syntax, notation, axiom, sorry.
-/
import Derived.Test.YtbgbalfhbficaaaChecked
import GoSem.Claim
import GoSem.ClaimJoined
import GoSem.ClaimMapViews
import Derived.JoinedTies
import Derived.KernelRfl
namespace Go.Proofs.Ytbgbalfhbficaaa
/- THE CELL 'sum', in the pinned program and in every row, IS THE sha256 OF THE DUMP (.gsa) THAT YtbgbalfhbficaaaProg.lean LOADS. Nothing in Lean hashes anything: it is a label: what it is worth is what the hold of that sum in a sandbox is worth. -/
noncomputable def Try.pinned : Pinned := { name := "ytbgbalfhbficaaa", sum := "41ea3c88d83385e10366ddc3c0a9b884348b9fff5f17a0d59246f327997d2a86", checked := Try.checked }
namespace Rows
def none {H : Type} : Left H := { results := [], args := [] }

/-- 'mandreltop.TopBytes': WHATEVER THE INPUT: true; the input reads as it did. -/
def topBytesSpec : ChangeSpec := { name := "topBytes", fn := fun _ => fun
  | [d1, d2, d3] => { results := [.lit (.bool true)], args := [d1, d2, d3] }
  | _ => none }
def topBytesRow : OpenClaim := { program := "ytbgbalfhbficaaa", sum := "41ea3c88d83385e10366ddc3c0a9b884348b9fff5f17a0d59246f327997d2a86", func := "mandrel/mandreltop.TopBytes", spec := "topBytes", unfollowed := true, recurses := true, loops := true, apart := false }
def TopBytesSaid : Prop := topBytesRow.holds Try.pinned (OpenSpec.ofChange topBytesSpec)

/-- ITS FALSE NEIGHBOUR: 'it returns false'. Refute it at one input. -/
def topBytesWrong : ChangeSpec := { name := "topBytes", fn := fun _ => fun
  | [d1, d2, d3] => { results := [.lit (.bool false)], args := [d1, d2, d3] }
  | _ => none }
def TopBytesWrongFalsely : Prop := topBytesRow.holds Try.pinned (OpenSpec.ofChange topBytesWrong)

/-- 'mandrellaw06.CellSames': WHATEVER THE INPUT: true; the input reads as it did. -/
def cellSamesSpec : ChangeSpec := { name := "cellSames", fn := fun _ => fun
  | [d1, d2] => { results := [.lit (.bool true)], args := [d1, d2] }
  | _ => none }
def cellSamesRow : OpenClaim := { program := "ytbgbalfhbficaaa", sum := "41ea3c88d83385e10366ddc3c0a9b884348b9fff5f17a0d59246f327997d2a86", func := "mandrel/mandrellaw06.CellSames", spec := "cellSames", unfollowed := true, recurses := true, loops := true, apart := false }
def CellSamesSaid : Prop := cellSamesRow.holds Try.pinned (OpenSpec.ofChange cellSamesSpec)

/-- ITS FALSE NEIGHBOUR: 'it returns false'. Refute it at one input. -/
def cellSamesWrong : ChangeSpec := { name := "cellSames", fn := fun _ => fun
  | [d1, d2] => { results := [.lit (.bool false)], args := [d1, d2] }
  | _ => none }
def CellSamesWrongFalsely : Prop := cellSamesRow.holds Try.pinned (OpenSpec.ofChange cellSamesWrong)

/-- 'mandrellaw06.CellFinds': WHATEVER THE INPUT: true; the input reads as it did. -/
def cellFindsSpec : ChangeSpec := { name := "cellFinds", fn := fun _ => fun
  | [d1, d2] => { results := [.lit (.bool true)], args := [d1, d2] }
  | _ => none }
def cellFindsRow : OpenClaim := { program := "ytbgbalfhbficaaa", sum := "41ea3c88d83385e10366ddc3c0a9b884348b9fff5f17a0d59246f327997d2a86", func := "mandrel/mandrellaw06.CellFinds", spec := "cellFinds", unfollowed := true, recurses := true, loops := true, apart := false }
def CellFindsSaid : Prop := cellFindsRow.holds Try.pinned (OpenSpec.ofChange cellFindsSpec)

/-- ITS FALSE NEIGHBOUR: 'it returns false'. Refute it at one input. -/
def cellFindsWrong : ChangeSpec := { name := "cellFinds", fn := fun _ => fun
  | [d1, d2] => { results := [.lit (.bool false)], args := [d1, d2] }
  | _ => none }
def CellFindsWrongFalsely : Prop := cellFindsRow.holds Try.pinned (OpenSpec.ofChange cellFindsWrong)

/-- 'mandrellaw06.CellZeros': WHATEVER THE INPUT: true; the input reads as it did. -/
def cellZerosSpec : ChangeSpec := { name := "cellZeros", fn := fun _ => fun
  | [d1, d2] => { results := [.lit (.bool true)], args := [d1, d2] }
  | _ => none }
def cellZerosRow : OpenClaim := { program := "ytbgbalfhbficaaa", sum := "41ea3c88d83385e10366ddc3c0a9b884348b9fff5f17a0d59246f327997d2a86", func := "mandrel/mandrellaw06.CellZeros", spec := "cellZeros", unfollowed := true, recurses := true, loops := true, apart := false }
def CellZerosSaid : Prop := cellZerosRow.holds Try.pinned (OpenSpec.ofChange cellZerosSpec)

/-- ITS FALSE NEIGHBOUR: 'it returns false'. Refute it at one input. -/
def cellZerosWrong : ChangeSpec := { name := "cellZeros", fn := fun _ => fun
  | [d1, d2] => { results := [.lit (.bool false)], args := [d1, d2] }
  | _ => none }
def CellZerosWrongFalsely : Prop := cellZerosRow.holds Try.pinned (OpenSpec.ofChange cellZerosWrong)

/- THE SECOND FORM. 'bulk': how many values and letters a reading holds, each counted each time it is reached (what is shared counts as often as it is met; a slice's spare places count too). A statement '..UptoSaid' is the law's where the arguments, and the package variables that the reading takes, are together of bulk at most 1048576: NARROWER than '..Said'. Prove '..Said' where nothing that the law and all that it calls make is longer than what came in: it says more and counts as full. Else prove '..UptoSaid'. A law counts once. -/
mutual
def uptoBulk {H : Type} : DataW H → Nat
  | .lit (.string bytes) => bytes.length + 1
  | .lit _ => 1
  | .nil => 1
  | .ptr d => uptoBulk d + 1
  | .slice elems spare => uptoBulkAll elems + uptoBulkAll spare + 1
  | .agg parts => uptoBulkAll parts + 1
  | .iface _ d => uptoBulk d + 1
  | .map entries => uptoBulkEntries entries + 1
  | .held _ => 1
def uptoBulkAll {H : Type} : List (DataW H) → Nat
  | [] => 0
  | d :: r => uptoBulk d + uptoBulkAll r
def uptoBulkEntries {H : Type} : List (Lit × DataW H) → Nat
  | [] => 0
  | x :: r => uptoBulkEntry x + uptoBulkEntries r
def uptoBulkEntry {H : Type} : Lit × DataW H → Nat
  | (.string bytes, d) => bytes.length + uptoBulk d + 1
  | (_, d) => uptoBulk d + 1
 end
def uptoSmall : (H : Type) → List (DataW H) → Bool := fun _ ds => decide (uptoBulkAll ds ≤ 1048576)
def OpenSpec.upto (s : _root_.Go.ChangeSpec) : _root_.Go.OpenSpec := { _root_.Go.OpenSpec.ofChange s with cond := some uptoSmall }

/-- 'mandreltop.TopBytes', WHERE WHAT IT READS IS OF BULK AT MOST 1048576: true; the input reads as it did. -/
def topBytesUptoRow : OpenClaim := { program := "ytbgbalfhbficaaa", sum := "41ea3c88d83385e10366ddc3c0a9b884348b9fff5f17a0d59246f327997d2a86", func := "mandrel/mandreltop.TopBytes", spec := "topBytes", unfollowed := true, recurses := true, loops := true, apart := false, narrowed := true }
def TopBytesUptoSaid : Prop := topBytesUptoRow.holds Try.pinned (OpenSpec.upto topBytesSpec)

/-- 'mandrellaw06.CellSames', WHERE WHAT IT READS IS OF BULK AT MOST 1048576: true; the input reads as it did. -/
def cellSamesUptoRow : OpenClaim := { program := "ytbgbalfhbficaaa", sum := "41ea3c88d83385e10366ddc3c0a9b884348b9fff5f17a0d59246f327997d2a86", func := "mandrel/mandrellaw06.CellSames", spec := "cellSames", unfollowed := true, recurses := true, loops := true, apart := false, narrowed := true }
def CellSamesUptoSaid : Prop := cellSamesUptoRow.holds Try.pinned (OpenSpec.upto cellSamesSpec)

/-- 'mandrellaw06.CellFinds', WHERE WHAT IT READS IS OF BULK AT MOST 1048576: true; the input reads as it did. -/
def cellFindsUptoRow : OpenClaim := { program := "ytbgbalfhbficaaa", sum := "41ea3c88d83385e10366ddc3c0a9b884348b9fff5f17a0d59246f327997d2a86", func := "mandrel/mandrellaw06.CellFinds", spec := "cellFinds", unfollowed := true, recurses := true, loops := true, apart := false, narrowed := true }
def CellFindsUptoSaid : Prop := cellFindsUptoRow.holds Try.pinned (OpenSpec.upto cellFindsSpec)

/-- 'mandrellaw06.CellZeros', WHERE WHAT IT READS IS OF BULK AT MOST 1048576: true; the input reads as it did. -/
def cellZerosUptoRow : OpenClaim := { program := "ytbgbalfhbficaaa", sum := "41ea3c88d83385e10366ddc3c0a9b884348b9fff5f17a0d59246f327997d2a86", func := "mandrel/mandrellaw06.CellZeros", spec := "cellZeros", unfollowed := true, recurses := true, loops := true, apart := false, narrowed := true }
def CellZerosUptoSaid : Prop := cellZerosUptoRow.holds Try.pinned (OpenSpec.upto cellZerosSpec)

end Rows
end Go.Proofs.Ytbgbalfhbficaaa
