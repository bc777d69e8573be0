/-
  No cell of these rows narrows 'for every input' (looked for: loops, veiled, ifaces, maps, wideKeys, modest, calm, conditions, laid).
  DERIVED. THE GIVEN ROWS OF THIS SEAT. 8 by the template 'for every input the law returns true; each argument reads behind the call as it read before'; 0 by the template 'total and deterministic' (their statements: YtfiopjgpokdnoaaTotals.lean).
  GIVEN WITH THE SEED: the statements are not yours to turn. If you find one false, say at which input.
  Laid BY PROGRAM, IN A SANDBOX (cutbox-rows.mjs): the forced cells as the released guide's own fill.sh prints them over the translation da35863e81b2337f… (all of the seat's roots in one cut). By AI agents, Wed Nov 11 2026. No macro, syntax, notation, axiom, sorry.
-/
import Derived.Test.YtfiopjgpokdnoaaChecked
import GoSem.Claim
import GoSem.ClaimJoined
import GoSem.ClaimMapViews
import Derived.JoinedTies
import Derived.KernelRfl
namespace Go.Proofs.Ytfiopjgpokdnoaa
/- THE CELL 'sum', in the pinned program and in every row, IS THE sha256 OF THE DUMP (.gsa) THAT YtfiopjgpokdnoaaProg.lean LOADS. Nothing in Lean hashes anything: it is a label: what it is worth is what the hold of that sum in a sandbox is worth. -/
noncomputable def Try.pinned : Pinned := { name := "ytfiopjgpokdnoaa", sum := "da35863e81b2337fd2f312fd256bf66c7c5e5644d7c5bba1ede5a9874ac5ab45", checked := Try.checked }
namespace Rows
def none {H : Type} : Left H := { results := [], args := [] }

/-- 'mandrellaw21.PackSums': WHATEVER THE INPUT: true; the input reads as it did. -/
def packSumsSpec : ChangeSpec := { name := "packSums", fn := fun _ => fun
  | [d] => { results := [.lit (.bool true)], args := [d] }
  | _ => none }
def packSumsRow : OpenClaim := { program := "ytfiopjgpokdnoaa", sum := "da35863e81b2337fd2f312fd256bf66c7c5e5644d7c5bba1ede5a9874ac5ab45", func := "mandrel/mandrellaw21.PackSums", spec := "packSums", plainKeys := false, apart := false }
def PackSumsSaid : Prop := packSumsRow.holds Try.pinned (OpenSpec.ofChange packSumsSpec)

/-- ITS FALSE NEIGHBOUR: 'it returns false'. Refute it at one input. -/
def packSumsWrong : ChangeSpec := { name := "packSums", fn := fun _ => fun
  | [d] => { results := [.lit (.bool false)], args := [d] }
  | _ => none }
def PackSumsWrongFalsely : Prop := packSumsRow.holds Try.pinned (OpenSpec.ofChange packSumsWrong)

/-- 'mandrellaw21.PackDiffers': WHATEVER THE INPUT: true; the input reads as it did. -/
def packDiffersSpec : ChangeSpec := { name := "packDiffers", fn := fun _ => fun
  | [d1, d2, d3] => { results := [.lit (.bool true)], args := [d1, d2, d3] }
  | _ => none }
def packDiffersRow : OpenClaim := { program := "ytfiopjgpokdnoaa", sum := "da35863e81b2337fd2f312fd256bf66c7c5e5644d7c5bba1ede5a9874ac5ab45", func := "mandrel/mandrellaw21.PackDiffers", spec := "packDiffers", plainKeys := false, apart := false }
def PackDiffersSaid : Prop := packDiffersRow.holds Try.pinned (OpenSpec.ofChange packDiffersSpec)

/-- ITS FALSE NEIGHBOUR: 'it returns false'. Refute it at one input. -/
def packDiffersWrong : ChangeSpec := { name := "packDiffers", fn := fun _ => fun
  | [d1, d2, d3] => { results := [.lit (.bool false)], args := [d1, d2, d3] }
  | _ => none }
def PackDiffersWrongFalsely : Prop := packDiffersRow.holds Try.pinned (OpenSpec.ofChange packDiffersWrong)

/-- 'mandrellaw21.PackUnpacks': WHATEVER THE INPUT: true; the input reads as it did. -/
def packUnpacksSpec : ChangeSpec := { name := "packUnpacks", fn := fun _ => fun
  | [d] => { results := [.lit (.bool true)], args := [d] }
  | _ => none }
def packUnpacksRow : OpenClaim := { program := "ytfiopjgpokdnoaa", sum := "da35863e81b2337fd2f312fd256bf66c7c5e5644d7c5bba1ede5a9874ac5ab45", func := "mandrel/mandrellaw21.PackUnpacks", spec := "packUnpacks", plainKeys := false, apart := false }
def PackUnpacksSaid : Prop := packUnpacksRow.holds Try.pinned (OpenSpec.ofChange packUnpacksSpec)

/-- ITS FALSE NEIGHBOUR: 'it returns false'. Refute it at one input. -/
def packUnpacksWrong : ChangeSpec := { name := "packUnpacks", fn := fun _ => fun
  | [d] => { results := [.lit (.bool false)], args := [d] }
  | _ => none }
def PackUnpacksWrongFalsely : Prop := packUnpacksRow.holds Try.pinned (OpenSpec.ofChange packUnpacksWrong)

/-- 'mandrellaw21.PackRuns': WHATEVER THE INPUT: true; the input reads as it did. -/
def packRunsSpec : ChangeSpec := { name := "packRuns", fn := fun _ => fun
  | [d] => { results := [.lit (.bool true)], args := [d] }
  | _ => none }
def packRunsRow : OpenClaim := { program := "ytfiopjgpokdnoaa", sum := "da35863e81b2337fd2f312fd256bf66c7c5e5644d7c5bba1ede5a9874ac5ab45", func := "mandrel/mandrellaw21.PackRuns", spec := "packRuns", plainKeys := false, apart := false }
def PackRunsSaid : Prop := packRunsRow.holds Try.pinned (OpenSpec.ofChange packRunsSpec)

/-- ITS FALSE NEIGHBOUR: 'it returns false'. Refute it at one input. -/
def packRunsWrong : ChangeSpec := { name := "packRuns", fn := fun _ => fun
  | [d] => { results := [.lit (.bool false)], args := [d] }
  | _ => none }
def PackRunsWrongFalsely : Prop := packRunsRow.holds Try.pinned (OpenSpec.ofChange packRunsWrong)

/-- 'mandrellaw21.PackJoins': WHATEVER THE INPUT: true; the input reads as it did. -/
def packJoinsSpec : ChangeSpec := { name := "packJoins", fn := fun _ => fun
  | [d1, d2, d3] => { results := [.lit (.bool true)], args := [d1, d2, d3] }
  | _ => none }
def packJoinsRow : OpenClaim := { program := "ytfiopjgpokdnoaa", sum := "da35863e81b2337fd2f312fd256bf66c7c5e5644d7c5bba1ede5a9874ac5ab45", func := "mandrel/mandrellaw21.PackJoins", spec := "packJoins", plainKeys := false, apart := false }
def PackJoinsSaid : Prop := packJoinsRow.holds Try.pinned (OpenSpec.ofChange packJoinsSpec)

/-- ITS FALSE NEIGHBOUR: 'it returns false'. Refute it at one input. -/
def packJoinsWrong : ChangeSpec := { name := "packJoins", fn := fun _ => fun
  | [d1, d2, d3] => { results := [.lit (.bool false)], args := [d1, d2, d3] }
  | _ => none }
def PackJoinsWrongFalsely : Prop := packJoinsRow.holds Try.pinned (OpenSpec.ofChange packJoinsWrong)

/-- 'mandrellaw21.PackOrders': WHATEVER THE INPUT: true; the input reads as it did. -/
def packOrdersSpec : ChangeSpec := { name := "packOrders", fn := fun _ => fun
  | [d1, d2] => { results := [.lit (.bool true)], args := [d1, d2] }
  | _ => none }
def packOrdersRow : OpenClaim := { program := "ytfiopjgpokdnoaa", sum := "da35863e81b2337fd2f312fd256bf66c7c5e5644d7c5bba1ede5a9874ac5ab45", func := "mandrel/mandrellaw21.PackOrders", spec := "packOrders", unfollowed := true, recurses := true, plainKeys := false, apart := false }
def PackOrdersSaid : Prop := packOrdersRow.holds Try.pinned (OpenSpec.ofChange packOrdersSpec)

/-- ITS FALSE NEIGHBOUR: 'it returns false'. Refute it at one input. -/
def packOrdersWrong : ChangeSpec := { name := "packOrders", fn := fun _ => fun
  | [d1, d2] => { results := [.lit (.bool false)], args := [d1, d2] }
  | _ => none }
def PackOrdersWrongFalsely : Prop := packOrdersRow.holds Try.pinned (OpenSpec.ofChange packOrdersWrong)

/-- 'mandrellaw21.PackPacks': WHATEVER THE INPUT: true; the input reads as it did. -/
def packPacksSpec : ChangeSpec := { name := "packPacks", fn := fun _ => fun
  | [d] => { results := [.lit (.bool true)], args := [d] }
  | _ => none }
def packPacksRow : OpenClaim := { program := "ytfiopjgpokdnoaa", sum := "da35863e81b2337fd2f312fd256bf66c7c5e5644d7c5bba1ede5a9874ac5ab45", func := "mandrel/mandrellaw21.PackPacks", spec := "packPacks", plainKeys := false, apart := false }
def PackPacksSaid : Prop := packPacksRow.holds Try.pinned (OpenSpec.ofChange packPacksSpec)

/-- ITS FALSE NEIGHBOUR: 'it returns false'. Refute it at one input. -/
def packPacksWrong : ChangeSpec := { name := "packPacks", fn := fun _ => fun
  | [d] => { results := [.lit (.bool false)], args := [d] }
  | _ => none }
def PackPacksWrongFalsely : Prop := packPacksRow.holds Try.pinned (OpenSpec.ofChange packPacksWrong)

/-- 'mandrellaw21.PackMerges': WHATEVER THE INPUT: true; the input reads as it did. -/
def packMergesSpec : ChangeSpec := { name := "packMerges", fn := fun _ => fun
  | [d1, d2, d3] => { results := [.lit (.bool true)], args := [d1, d2, d3] }
  | _ => none }
def packMergesRow : OpenClaim := { program := "ytfiopjgpokdnoaa", sum := "da35863e81b2337fd2f312fd256bf66c7c5e5644d7c5bba1ede5a9874ac5ab45", func := "mandrel/mandrellaw21.PackMerges", spec := "packMerges", unfollowed := true, recurses := true, plainKeys := false, apart := false }
def PackMergesSaid : Prop := packMergesRow.holds Try.pinned (OpenSpec.ofChange packMergesSpec)

/-- ITS FALSE NEIGHBOUR: 'it returns false'. Refute it at one input. -/
def packMergesWrong : ChangeSpec := { name := "packMerges", fn := fun _ => fun
  | [d1, d2, d3] => { results := [.lit (.bool false)], args := [d1, d2, d3] }
  | _ => none }
def PackMergesWrongFalsely : Prop := packMergesRow.holds Try.pinned (OpenSpec.ofChange packMergesWrong)

/- THE SECOND FORM. 'bulk': how many values and letters a reading holds, each counted each time it is reached (what is shared counts as often as it is met; a slice's spare places count too). A statement '..UptoSaid' is the law's where the arguments, and the package variables that the reading takes, are together of bulk at most 1048576: NARROWER than '..Said'. Prove '..Said' where nothing that the law and all that it calls make is longer than what came in: it says more and counts as full. Else prove '..UptoSaid'. A law counts once. -/
mutual
def uptoBulk {H : Type} : DataW H → Nat
  | .lit (.string bytes) => bytes.length + 1
  | .lit _ => 1
  | .nil => 1
  | .ptr d => uptoBulk d + 1
  | .slice elems spare => uptoBulkAll elems + uptoBulkAll spare + 1
  | .agg parts => uptoBulkAll parts + 1
  | .iface _ d => uptoBulk d + 1
  | .map entries => uptoBulkEntries entries + 1
  | .held _ => 1
def uptoBulkAll {H : Type} : List (DataW H) → Nat
  | [] => 0
  | d :: r => uptoBulk d + uptoBulkAll r
def uptoBulkEntries {H : Type} : List (Lit × DataW H) → Nat
  | [] => 0
  | x :: r => uptoBulkEntry x + uptoBulkEntries r
def uptoBulkEntry {H : Type} : Lit × DataW H → Nat
  | (.string bytes, d) => bytes.length + uptoBulk d + 1
  | (_, d) => uptoBulk d + 1
 end
def uptoSmall : (H : Type) → List (DataW H) → Bool := fun _ ds => decide (uptoBulkAll ds ≤ 1048576)
def OpenSpec.upto (s : _root_.Go.ChangeSpec) : _root_.Go.OpenSpec := { _root_.Go.OpenSpec.ofChange s with cond := some uptoSmall }

/-- 'mandrellaw21.PackSums', WHERE WHAT IT READS IS OF BULK AT MOST 1048576: true; the input reads as it did. -/
def packSumsUptoRow : OpenClaim := { program := "ytfiopjgpokdnoaa", sum := "da35863e81b2337fd2f312fd256bf66c7c5e5644d7c5bba1ede5a9874ac5ab45", func := "mandrel/mandrellaw21.PackSums", spec := "packSums", plainKeys := false, apart := false, narrowed := true }
def PackSumsUptoSaid : Prop := packSumsUptoRow.holds Try.pinned (OpenSpec.upto packSumsSpec)

/-- 'mandrellaw21.PackDiffers', WHERE WHAT IT READS IS OF BULK AT MOST 1048576: true; the input reads as it did. -/
def packDiffersUptoRow : OpenClaim := { program := "ytfiopjgpokdnoaa", sum := "da35863e81b2337fd2f312fd256bf66c7c5e5644d7c5bba1ede5a9874ac5ab45", func := "mandrel/mandrellaw21.PackDiffers", spec := "packDiffers", plainKeys := false, apart := false, narrowed := true }
def PackDiffersUptoSaid : Prop := packDiffersUptoRow.holds Try.pinned (OpenSpec.upto packDiffersSpec)

/-- 'mandrellaw21.PackUnpacks', WHERE WHAT IT READS IS OF BULK AT MOST 1048576: true; the input reads as it did. -/
def packUnpacksUptoRow : OpenClaim := { program := "ytfiopjgpokdnoaa", sum := "da35863e81b2337fd2f312fd256bf66c7c5e5644d7c5bba1ede5a9874ac5ab45", func := "mandrel/mandrellaw21.PackUnpacks", spec := "packUnpacks", plainKeys := false, apart := false, narrowed := true }
def PackUnpacksUptoSaid : Prop := packUnpacksUptoRow.holds Try.pinned (OpenSpec.upto packUnpacksSpec)

/-- 'mandrellaw21.PackRuns', WHERE WHAT IT READS IS OF BULK AT MOST 1048576: true; the input reads as it did. -/
def packRunsUptoRow : OpenClaim := { program := "ytfiopjgpokdnoaa", sum := "da35863e81b2337fd2f312fd256bf66c7c5e5644d7c5bba1ede5a9874ac5ab45", func := "mandrel/mandrellaw21.PackRuns", spec := "packRuns", plainKeys := false, apart := false, narrowed := true }
def PackRunsUptoSaid : Prop := packRunsUptoRow.holds Try.pinned (OpenSpec.upto packRunsSpec)

/-- 'mandrellaw21.PackJoins', WHERE WHAT IT READS IS OF BULK AT MOST 1048576: true; the input reads as it did. -/
def packJoinsUptoRow : OpenClaim := { program := "ytfiopjgpokdnoaa", sum := "da35863e81b2337fd2f312fd256bf66c7c5e5644d7c5bba1ede5a9874ac5ab45", func := "mandrel/mandrellaw21.PackJoins", spec := "packJoins", plainKeys := false, apart := false, narrowed := true }
def PackJoinsUptoSaid : Prop := packJoinsUptoRow.holds Try.pinned (OpenSpec.upto packJoinsSpec)

/-- 'mandrellaw21.PackOrders', WHERE WHAT IT READS IS OF BULK AT MOST 1048576: true; the input reads as it did. -/
def packOrdersUptoRow : OpenClaim := { program := "ytfiopjgpokdnoaa", sum := "da35863e81b2337fd2f312fd256bf66c7c5e5644d7c5bba1ede5a9874ac5ab45", func := "mandrel/mandrellaw21.PackOrders", spec := "packOrders", unfollowed := true, recurses := true, plainKeys := false, apart := false, narrowed := true }
def PackOrdersUptoSaid : Prop := packOrdersUptoRow.holds Try.pinned (OpenSpec.upto packOrdersSpec)

/-- 'mandrellaw21.PackPacks', WHERE WHAT IT READS IS OF BULK AT MOST 1048576: true; the input reads as it did. -/
def packPacksUptoRow : OpenClaim := { program := "ytfiopjgpokdnoaa", sum := "da35863e81b2337fd2f312fd256bf66c7c5e5644d7c5bba1ede5a9874ac5ab45", func := "mandrel/mandrellaw21.PackPacks", spec := "packPacks", plainKeys := false, apart := false, narrowed := true }
def PackPacksUptoSaid : Prop := packPacksUptoRow.holds Try.pinned (OpenSpec.upto packPacksSpec)

/-- 'mandrellaw21.PackMerges', WHERE WHAT IT READS IS OF BULK AT MOST 1048576: true; the input reads as it did. -/
def packMergesUptoRow : OpenClaim := { program := "ytfiopjgpokdnoaa", sum := "da35863e81b2337fd2f312fd256bf66c7c5e5644d7c5bba1ede5a9874ac5ab45", func := "mandrel/mandrellaw21.PackMerges", spec := "packMerges", unfollowed := true, recurses := true, plainKeys := false, apart := false, narrowed := true }
def PackMergesUptoSaid : Prop := packMergesUptoRow.holds Try.pinned (OpenSpec.upto packMergesSpec)

end Rows
end Go.Proofs.Ytfiopjgpokdnoaa
