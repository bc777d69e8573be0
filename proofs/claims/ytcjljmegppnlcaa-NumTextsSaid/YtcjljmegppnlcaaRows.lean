/-
  No cell of these rows narrows 'for every input' (looked for: loops, veiled, ifaces, maps, wideKeys, modest, calm, conditions, laid).
  DERIVED. THE GIVEN ROWS OF THIS SEAT. 8 by the template 'for every input the law returns true; each argument reads behind the call as it read before'; 0 by the template 'total and deterministic' (their statements: YtcjljmegppnlcaaTotals.lean).
  GIVEN WITH THE SEED: the statements are not yours to turn. If you find one false, say at which input.
  Laid BY PROGRAM, IN A SANDBOX (cutbox-rows.mjs): the forced cells as the released guide's own fill.sh prints them over the translation 64534478d66e2813… (all of the seat's roots in one cut). By AI agents, Wed Nov 11 2026. No macro, syntax, notation, axiom, sorry.
-/
import Derived.Test.YtcjljmegppnlcaaChecked
import GoSem.Claim
import GoSem.ClaimJoined
import GoSem.ClaimMapViews
import Derived.JoinedTies
import Derived.KernelRfl
namespace Go.Proofs.Ytcjljmegppnlcaa
/- THE CELL 'sum', in the pinned program and in every row, IS THE sha256 OF THE DUMP (.gsa) THAT YtcjljmegppnlcaaProg.lean LOADS. Nothing in Lean hashes anything: it is a label: what it is worth is what the hold of that sum in a sandbox is worth. -/
noncomputable def Try.pinned : Pinned := { name := "ytcjljmegppnlcaa", sum := "64534478d66e28134ad9f80552791ea42d313985502a942ca4bfd7412dddf903", checked := Try.checked }
namespace Rows
def none {H : Type} : Left H := { results := [], args := [] }

/-- 'mandrellaw01.NumDoes': WHATEVER THE INPUT: true; the input reads as it did. -/
def numDoesSpec : ChangeSpec := { name := "numDoes", fn := fun _ => fun
  | [d1, d2, d3] => { results := [.lit (.bool true)], args := [d1, d2, d3] }
  | _ => none }
def numDoesRow : OpenClaim := { program := "ytcjljmegppnlcaa", sum := "64534478d66e28134ad9f80552791ea42d313985502a942ca4bfd7412dddf903", func := "mandrel/mandrellaw01.NumDoes", spec := "numDoes", unfollowed := true, recurses := true, apart := false }
def NumDoesSaid : Prop := numDoesRow.holds Try.pinned (OpenSpec.ofChange numDoesSpec)

/-- ITS FALSE NEIGHBOUR: 'it returns false'. Refute it at one input. -/
def numDoesWrong : ChangeSpec := { name := "numDoes", fn := fun _ => fun
  | [d1, d2, d3] => { results := [.lit (.bool false)], args := [d1, d2, d3] }
  | _ => none }
def NumDoesWrongFalsely : Prop := numDoesRow.holds Try.pinned (OpenSpec.ofChange numDoesWrong)

/-- 'mandrellaw01.NumDivides': WHATEVER THE INPUT: true; the input reads as it did. -/
def numDividesSpec : ChangeSpec := { name := "numDivides", fn := fun _ => fun
  | [d1, d2, d3] => { results := [.lit (.bool true)], args := [d1, d2, d3] }
  | _ => none }
def numDividesRow : OpenClaim := { program := "ytcjljmegppnlcaa", sum := "64534478d66e28134ad9f80552791ea42d313985502a942ca4bfd7412dddf903", func := "mandrel/mandrellaw01.NumDivides", spec := "numDivides", unfollowed := true, recurses := true, apart := false }
def NumDividesSaid : Prop := numDividesRow.holds Try.pinned (OpenSpec.ofChange numDividesSpec)

/-- ITS FALSE NEIGHBOUR: 'it returns false'. Refute it at one input. -/
def numDividesWrong : ChangeSpec := { name := "numDivides", fn := fun _ => fun
  | [d1, d2, d3] => { results := [.lit (.bool false)], args := [d1, d2, d3] }
  | _ => none }
def NumDividesWrongFalsely : Prop := numDividesRow.holds Try.pinned (OpenSpec.ofChange numDividesWrong)

/-- 'mandrellaw01.NumRings': WHATEVER THE INPUT: true; the input reads as it did. -/
def numRingsSpec : ChangeSpec := { name := "numRings", fn := fun _ => fun
  | [d1, d2, d3] => { results := [.lit (.bool true)], args := [d1, d2, d3] }
  | _ => none }
def numRingsRow : OpenClaim := { program := "ytcjljmegppnlcaa", sum := "64534478d66e28134ad9f80552791ea42d313985502a942ca4bfd7412dddf903", func := "mandrel/mandrellaw01.NumRings", spec := "numRings", unfollowed := true, recurses := true, apart := false }
def NumRingsSaid : Prop := numRingsRow.holds Try.pinned (OpenSpec.ofChange numRingsSpec)

/-- ITS FALSE NEIGHBOUR: 'it returns false'. Refute it at one input. -/
def numRingsWrong : ChangeSpec := { name := "numRings", fn := fun _ => fun
  | [d1, d2, d3] => { results := [.lit (.bool false)], args := [d1, d2, d3] }
  | _ => none }
def NumRingsWrongFalsely : Prop := numRingsRow.holds Try.pinned (OpenSpec.ofChange numRingsWrong)

/-- 'mandrellaw01.NumLoose': WHATEVER THE INPUT: true; the input reads as it did. -/
def numLooseSpec : ChangeSpec := { name := "numLoose", fn := fun _ => fun
  | [d1, d2, d3] => { results := [.lit (.bool true)], args := [d1, d2, d3] }
  | _ => none }
def numLooseRow : OpenClaim := { program := "ytcjljmegppnlcaa", sum := "64534478d66e28134ad9f80552791ea42d313985502a942ca4bfd7412dddf903", func := "mandrel/mandrellaw01.NumLoose", spec := "numLoose", unfollowed := true, recurses := true, apart := false }
def NumLooseSaid : Prop := numLooseRow.holds Try.pinned (OpenSpec.ofChange numLooseSpec)

/-- ITS FALSE NEIGHBOUR: 'it returns false'. Refute it at one input. -/
def numLooseWrong : ChangeSpec := { name := "numLoose", fn := fun _ => fun
  | [d1, d2, d3] => { results := [.lit (.bool false)], args := [d1, d2, d3] }
  | _ => none }
def NumLooseWrongFalsely : Prop := numLooseRow.holds Try.pinned (OpenSpec.ofChange numLooseWrong)

/-- 'mandrellaw01.NumNegates': WHATEVER THE INPUT: true; the input reads as it did. -/
def numNegatesSpec : ChangeSpec := { name := "numNegates", fn := fun _ => fun
  | [d1, d2] => { results := [.lit (.bool true)], args := [d1, d2] }
  | _ => none }
def numNegatesRow : OpenClaim := { program := "ytcjljmegppnlcaa", sum := "64534478d66e28134ad9f80552791ea42d313985502a942ca4bfd7412dddf903", func := "mandrel/mandrellaw01.NumNegates", spec := "numNegates", unfollowed := true, recurses := true, apart := false }
def NumNegatesSaid : Prop := numNegatesRow.holds Try.pinned (OpenSpec.ofChange numNegatesSpec)

/-- ITS FALSE NEIGHBOUR: 'it returns false'. Refute it at one input. -/
def numNegatesWrong : ChangeSpec := { name := "numNegates", fn := fun _ => fun
  | [d1, d2] => { results := [.lit (.bool false)], args := [d1, d2] }
  | _ => none }
def NumNegatesWrongFalsely : Prop := numNegatesRow.holds Try.pinned (OpenSpec.ofChange numNegatesWrong)

/-- 'mandrellaw01.NumTypes': WHATEVER THE INPUT: true; the input reads as it did. -/
def numTypesSpec : ChangeSpec := { name := "numTypes", fn := fun _ => fun
  | [d1, d2] => { results := [.lit (.bool true)], args := [d1, d2] }
  | _ => none }
def numTypesRow : OpenClaim := { program := "ytcjljmegppnlcaa", sum := "64534478d66e28134ad9f80552791ea42d313985502a942ca4bfd7412dddf903", func := "mandrel/mandrellaw01.NumTypes", spec := "numTypes", unfollowed := true, recurses := true, apart := false }
def NumTypesSaid : Prop := numTypesRow.holds Try.pinned (OpenSpec.ofChange numTypesSpec)

/-- ITS FALSE NEIGHBOUR: 'it returns false'. Refute it at one input. -/
def numTypesWrong : ChangeSpec := { name := "numTypes", fn := fun _ => fun
  | [d1, d2] => { results := [.lit (.bool false)], args := [d1, d2] }
  | _ => none }
def NumTypesWrongFalsely : Prop := numTypesRow.holds Try.pinned (OpenSpec.ofChange numTypesWrong)

/-- 'mandrellaw01.NumTexts': WHATEVER THE INPUT: true; the input reads as it did. -/
def numTextsSpec : ChangeSpec := { name := "numTexts", fn := fun _ => fun
  | [d1, d2, d3] => { results := [.lit (.bool true)], args := [d1, d2, d3] }
  | _ => none }
def numTextsRow : OpenClaim := { program := "ytcjljmegppnlcaa", sum := "64534478d66e28134ad9f80552791ea42d313985502a942ca4bfd7412dddf903", func := "mandrel/mandrellaw01.NumTexts", spec := "numTexts", inPlace := ["internal/bytealg.IndexByteString"], unfollowed := true, recurses := true, apart := false }
def NumTextsSaid : Prop := numTextsRow.holds Try.pinned (OpenSpec.ofChange numTextsSpec)

/-- ITS FALSE NEIGHBOUR: 'it returns false'. Refute it at one input. -/
def numTextsWrong : ChangeSpec := { name := "numTexts", fn := fun _ => fun
  | [d1, d2, d3] => { results := [.lit (.bool false)], args := [d1, d2, d3] }
  | _ => none }
def NumTextsWrongFalsely : Prop := numTextsRow.holds Try.pinned (OpenSpec.ofChange numTextsWrong)

/-- 'mandrellaw01.NumCompares': WHATEVER THE INPUT: true; the input reads as it did. -/
def numComparesSpec : ChangeSpec := { name := "numCompares", fn := fun _ => fun
  | [d1, d2, d3] => { results := [.lit (.bool true)], args := [d1, d2, d3] }
  | _ => none }
def numComparesRow : OpenClaim := { program := "ytcjljmegppnlcaa", sum := "64534478d66e28134ad9f80552791ea42d313985502a942ca4bfd7412dddf903", func := "mandrel/mandrellaw01.NumCompares", spec := "numCompares", unfollowed := true, recurses := true, apart := false }
def NumComparesSaid : Prop := numComparesRow.holds Try.pinned (OpenSpec.ofChange numComparesSpec)

/-- ITS FALSE NEIGHBOUR: 'it returns false'. Refute it at one input. -/
def numComparesWrong : ChangeSpec := { name := "numCompares", fn := fun _ => fun
  | [d1, d2, d3] => { results := [.lit (.bool false)], args := [d1, d2, d3] }
  | _ => none }
def NumComparesWrongFalsely : Prop := numComparesRow.holds Try.pinned (OpenSpec.ofChange numComparesWrong)

/- THE SECOND FORM. 'bulk': how many values and letters a reading holds, each counted each time it is reached (what is shared counts as often as it is met; a slice's spare places count too). A statement '..UptoSaid' is the law's where the arguments, and the package variables that the reading takes, are together of bulk at most 1048576: NARROWER than '..Said'. Prove '..Said' where nothing that the law and all that it calls make is longer than what came in: it says more and counts as full. Else prove '..UptoSaid'. A law counts once. -/
mutual
def uptoBulk {H : Type} : DataW H → Nat
  | .lit (.string bytes) => bytes.length + 1
  | .lit _ => 1
  | .nil => 1
  | .ptr d => uptoBulk d + 1
  | .slice elems spare => uptoBulkAll elems + uptoBulkAll spare + 1
  | .agg parts => uptoBulkAll parts + 1
  | .iface _ d => uptoBulk d + 1
  | .map entries => uptoBulkEntries entries + 1
  | .held _ => 1
def uptoBulkAll {H : Type} : List (DataW H) → Nat
  | [] => 0
  | d :: r => uptoBulk d + uptoBulkAll r
def uptoBulkEntries {H : Type} : List (Lit × DataW H) → Nat
  | [] => 0
  | x :: r => uptoBulkEntry x + uptoBulkEntries r
def uptoBulkEntry {H : Type} : Lit × DataW H → Nat
  | (.string bytes, d) => bytes.length + uptoBulk d + 1
  | (_, d) => uptoBulk d + 1
 end
def uptoSmall : (H : Type) → List (DataW H) → Bool := fun _ ds => decide (uptoBulkAll ds ≤ 1048576)
def OpenSpec.upto (s : _root_.Go.ChangeSpec) : _root_.Go.OpenSpec := { _root_.Go.OpenSpec.ofChange s with cond := some uptoSmall }

/-- 'mandrellaw01.NumDoes', WHERE WHAT IT READS IS OF BULK AT MOST 1048576: true; the input reads as it did. -/
def numDoesUptoRow : OpenClaim := { program := "ytcjljmegppnlcaa", sum := "64534478d66e28134ad9f80552791ea42d313985502a942ca4bfd7412dddf903", func := "mandrel/mandrellaw01.NumDoes", spec := "numDoes", unfollowed := true, recurses := true, apart := false, narrowed := true }
def NumDoesUptoSaid : Prop := numDoesUptoRow.holds Try.pinned (OpenSpec.upto numDoesSpec)

/-- 'mandrellaw01.NumDivides', WHERE WHAT IT READS IS OF BULK AT MOST 1048576: true; the input reads as it did. -/
def numDividesUptoRow : OpenClaim := { program := "ytcjljmegppnlcaa", sum := "64534478d66e28134ad9f80552791ea42d313985502a942ca4bfd7412dddf903", func := "mandrel/mandrellaw01.NumDivides", spec := "numDivides", unfollowed := true, recurses := true, apart := false, narrowed := true }
def NumDividesUptoSaid : Prop := numDividesUptoRow.holds Try.pinned (OpenSpec.upto numDividesSpec)

/-- 'mandrellaw01.NumRings', WHERE WHAT IT READS IS OF BULK AT MOST 1048576: true; the input reads as it did. -/
def numRingsUptoRow : OpenClaim := { program := "ytcjljmegppnlcaa", sum := "64534478d66e28134ad9f80552791ea42d313985502a942ca4bfd7412dddf903", func := "mandrel/mandrellaw01.NumRings", spec := "numRings", unfollowed := true, recurses := true, apart := false, narrowed := true }
def NumRingsUptoSaid : Prop := numRingsUptoRow.holds Try.pinned (OpenSpec.upto numRingsSpec)

/-- 'mandrellaw01.NumLoose', WHERE WHAT IT READS IS OF BULK AT MOST 1048576: true; the input reads as it did. -/
def numLooseUptoRow : OpenClaim := { program := "ytcjljmegppnlcaa", sum := "64534478d66e28134ad9f80552791ea42d313985502a942ca4bfd7412dddf903", func := "mandrel/mandrellaw01.NumLoose", spec := "numLoose", unfollowed := true, recurses := true, apart := false, narrowed := true }
def NumLooseUptoSaid : Prop := numLooseUptoRow.holds Try.pinned (OpenSpec.upto numLooseSpec)

/-- 'mandrellaw01.NumNegates', WHERE WHAT IT READS IS OF BULK AT MOST 1048576: true; the input reads as it did. -/
def numNegatesUptoRow : OpenClaim := { program := "ytcjljmegppnlcaa", sum := "64534478d66e28134ad9f80552791ea42d313985502a942ca4bfd7412dddf903", func := "mandrel/mandrellaw01.NumNegates", spec := "numNegates", unfollowed := true, recurses := true, apart := false, narrowed := true }
def NumNegatesUptoSaid : Prop := numNegatesUptoRow.holds Try.pinned (OpenSpec.upto numNegatesSpec)

/-- 'mandrellaw01.NumTypes', WHERE WHAT IT READS IS OF BULK AT MOST 1048576: true; the input reads as it did. -/
def numTypesUptoRow : OpenClaim := { program := "ytcjljmegppnlcaa", sum := "64534478d66e28134ad9f80552791ea42d313985502a942ca4bfd7412dddf903", func := "mandrel/mandrellaw01.NumTypes", spec := "numTypes", unfollowed := true, recurses := true, apart := false, narrowed := true }
def NumTypesUptoSaid : Prop := numTypesUptoRow.holds Try.pinned (OpenSpec.upto numTypesSpec)

/-- 'mandrellaw01.NumTexts', WHERE WHAT IT READS IS OF BULK AT MOST 1048576: true; the input reads as it did. -/
def numTextsUptoRow : OpenClaim := { program := "ytcjljmegppnlcaa", sum := "64534478d66e28134ad9f80552791ea42d313985502a942ca4bfd7412dddf903", func := "mandrel/mandrellaw01.NumTexts", spec := "numTexts", inPlace := ["internal/bytealg.IndexByteString"], unfollowed := true, recurses := true, apart := false, narrowed := true }
def NumTextsUptoSaid : Prop := numTextsUptoRow.holds Try.pinned (OpenSpec.upto numTextsSpec)

/-- 'mandrellaw01.NumCompares', WHERE WHAT IT READS IS OF BULK AT MOST 1048576: true; the input reads as it did. -/
def numComparesUptoRow : OpenClaim := { program := "ytcjljmegppnlcaa", sum := "64534478d66e28134ad9f80552791ea42d313985502a942ca4bfd7412dddf903", func := "mandrel/mandrellaw01.NumCompares", spec := "numCompares", unfollowed := true, recurses := true, apart := false, narrowed := true }
def NumComparesUptoSaid : Prop := numComparesUptoRow.holds Try.pinned (OpenSpec.upto numComparesSpec)

end Rows
end Go.Proofs.Ytcjljmegppnlcaa
