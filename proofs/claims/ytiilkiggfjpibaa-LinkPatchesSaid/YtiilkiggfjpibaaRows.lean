/-
  No cell of these rows narrows 'for every input' (looked for: loops, veiled, ifaces, maps, wideKeys, modest, calm, conditions, laid).
  DERIVED. THE GIVEN ROWS OF THIS SEAT. 8 by the template 'for every input the law returns true; each argument reads behind the call as it read before'; 0 by the template 'total and deterministic' (their statements: YtiilkiggfjpibaaTotals.lean).
  GIVEN WITH THE SEED: the statements are not yours to turn. If you find one false, say at which input.
  Laid BY PROGRAM, IN A SANDBOX (cutbox-rows.mjs): the forced cells as the released guide's own fill.sh prints them over the translation 74c54590d41bf759… (all of the seat's roots in one cut). By AI agents, Wed Nov 11 2026. No macro, syntax, notation, axiom, sorry.
-/
import Derived.Test.YtiilkiggfjpibaaChecked
import GoSem.Claim
import GoSem.ClaimJoined
import GoSem.ClaimMapViews
import Derived.JoinedTies
import Derived.KernelRfl
namespace Go.Proofs.Ytiilkiggfjpibaa
/- THE CELL 'sum', in the pinned program and in every row, IS THE sha256 OF THE DUMP (.gsa) THAT YtiilkiggfjpibaaProg.lean LOADS. Nothing in Lean hashes anything: it is a label: what it is worth is what the hold of that sum in a sandbox is worth. -/
noncomputable def Try.pinned : Pinned := { name := "ytiilkiggfjpibaa", sum := "74c54590d41bf759b67d3bdaabe01bac409d0246092768da8b628a6cac2e7a98", checked := Try.checked }
namespace Rows
def none {H : Type} : Left H := { results := [], args := [] }

/-- 'mandreltop.TopImages': WHATEVER THE INPUT: true; the input reads as it did. -/
def topImagesSpec : ChangeSpec := { name := "topImages", fn := fun _ => fun
  | [d1, d2, d3] => { results := [.lit (.bool true)], args := [d1, d2, d3] }
  | _ => none }
def topImagesRow : OpenClaim := { program := "ytiilkiggfjpibaa", sum := "74c54590d41bf759b67d3bdaabe01bac409d0246092768da8b628a6cac2e7a98", func := "mandrel/mandreltop.TopImages", spec := "topImages", unfollowed := true, recurses := true, apart := false }
def TopImagesSaid : Prop := topImagesRow.holds Try.pinned (OpenSpec.ofChange topImagesSpec)

/-- ITS FALSE NEIGHBOUR: 'it returns false'. Refute it at one input. -/
def topImagesWrong : ChangeSpec := { name := "topImages", fn := fun _ => fun
  | [d1, d2, d3] => { results := [.lit (.bool false)], args := [d1, d2, d3] }
  | _ => none }
def TopImagesWrongFalsely : Prop := topImagesRow.holds Try.pinned (OpenSpec.ofChange topImagesWrong)

/-- 'mandrellaw16.LinkFinds': WHATEVER THE INPUT: true; the input reads as it did. -/
def linkFindsSpec : ChangeSpec := { name := "linkFinds", fn := fun _ => fun
  | [d1, d2] => { results := [.lit (.bool true)], args := [d1, d2] }
  | _ => none }
def linkFindsRow : OpenClaim := { program := "ytiilkiggfjpibaa", sum := "74c54590d41bf759b67d3bdaabe01bac409d0246092768da8b628a6cac2e7a98", func := "mandrel/mandrellaw16.LinkFinds", spec := "linkFinds", unfollowed := true, recurses := true, apart := false }
def LinkFindsSaid : Prop := linkFindsRow.holds Try.pinned (OpenSpec.ofChange linkFindsSpec)

/-- ITS FALSE NEIGHBOUR: 'it returns false'. Refute it at one input. -/
def linkFindsWrong : ChangeSpec := { name := "linkFinds", fn := fun _ => fun
  | [d1, d2] => { results := [.lit (.bool false)], args := [d1, d2] }
  | _ => none }
def LinkFindsWrongFalsely : Prop := linkFindsRow.holds Try.pinned (OpenSpec.ofChange linkFindsWrong)

/-- 'mandrellaw16.LinkDrops': WHATEVER THE INPUT: true; the input reads as it did. -/
def linkDropsSpec : ChangeSpec := { name := "linkDrops", fn := fun _ => fun
  | [d1, d2] => { results := [.lit (.bool true)], args := [d1, d2] }
  | _ => none }
def linkDropsRow : OpenClaim := { program := "ytiilkiggfjpibaa", sum := "74c54590d41bf759b67d3bdaabe01bac409d0246092768da8b628a6cac2e7a98", func := "mandrel/mandrellaw16.LinkDrops", spec := "linkDrops", unfollowed := true, recurses := true, apart := false }
def LinkDropsSaid : Prop := linkDropsRow.holds Try.pinned (OpenSpec.ofChange linkDropsSpec)

/-- ITS FALSE NEIGHBOUR: 'it returns false'. Refute it at one input. -/
def linkDropsWrong : ChangeSpec := { name := "linkDrops", fn := fun _ => fun
  | [d1, d2] => { results := [.lit (.bool false)], args := [d1, d2] }
  | _ => none }
def LinkDropsWrongFalsely : Prop := linkDropsRow.holds Try.pinned (OpenSpec.ofChange linkDropsWrong)

/-- 'mandrellaw16.LinkObjects': WHATEVER THE INPUT: true; the input reads as it did. -/
def linkObjectsSpec : ChangeSpec := { name := "linkObjects", fn := fun _ => fun
  | [d] => { results := [.lit (.bool true)], args := [d] }
  | _ => none }
def linkObjectsRow : OpenClaim := { program := "ytiilkiggfjpibaa", sum := "74c54590d41bf759b67d3bdaabe01bac409d0246092768da8b628a6cac2e7a98", func := "mandrel/mandrellaw16.LinkObjects", spec := "linkObjects", unfollowed := true, recurses := true, apart := false }
def LinkObjectsSaid : Prop := linkObjectsRow.holds Try.pinned (OpenSpec.ofChange linkObjectsSpec)

/-- ITS FALSE NEIGHBOUR: 'it returns false'. Refute it at one input. -/
def linkObjectsWrong : ChangeSpec := { name := "linkObjects", fn := fun _ => fun
  | [d] => { results := [.lit (.bool false)], args := [d] }
  | _ => none }
def LinkObjectsWrongFalsely : Prop := linkObjectsRow.holds Try.pinned (OpenSpec.ofChange linkObjectsWrong)

/-- 'mandrellaw16.LinkDecodes': WHATEVER THE INPUT: true; the input reads as it did. -/
def linkDecodesSpec : ChangeSpec := { name := "linkDecodes", fn := fun _ => fun
  | [d] => { results := [.lit (.bool true)], args := [d] }
  | _ => none }
def linkDecodesRow : OpenClaim := { program := "ytiilkiggfjpibaa", sum := "74c54590d41bf759b67d3bdaabe01bac409d0246092768da8b628a6cac2e7a98", func := "mandrel/mandrellaw16.LinkDecodes", spec := "linkDecodes", unfollowed := true, recurses := true, apart := false }
def LinkDecodesSaid : Prop := linkDecodesRow.holds Try.pinned (OpenSpec.ofChange linkDecodesSpec)

/-- ITS FALSE NEIGHBOUR: 'it returns false'. Refute it at one input. -/
def linkDecodesWrong : ChangeSpec := { name := "linkDecodes", fn := fun _ => fun
  | [d] => { results := [.lit (.bool false)], args := [d] }
  | _ => none }
def LinkDecodesWrongFalsely : Prop := linkDecodesRow.holds Try.pinned (OpenSpec.ofChange linkDecodesWrong)

/-- 'mandrellaw16.LinkImages': WHATEVER THE INPUT: true; the input reads as it did. -/
def linkImagesSpec : ChangeSpec := { name := "linkImages", fn := fun _ => fun
  | [d] => { results := [.lit (.bool true)], args := [d] }
  | _ => none }
def linkImagesRow : OpenClaim := { program := "ytiilkiggfjpibaa", sum := "74c54590d41bf759b67d3bdaabe01bac409d0246092768da8b628a6cac2e7a98", func := "mandrel/mandrellaw16.LinkImages", spec := "linkImages", unfollowed := true, recurses := true, apart := false }
def LinkImagesSaid : Prop := linkImagesRow.holds Try.pinned (OpenSpec.ofChange linkImagesSpec)

/-- ITS FALSE NEIGHBOUR: 'it returns false'. Refute it at one input. -/
def linkImagesWrong : ChangeSpec := { name := "linkImages", fn := fun _ => fun
  | [d] => { results := [.lit (.bool false)], args := [d] }
  | _ => none }
def LinkImagesWrongFalsely : Prop := linkImagesRow.holds Try.pinned (OpenSpec.ofChange linkImagesWrong)

/-- 'mandrellaw16.LinkImposes': WHATEVER THE INPUT: true; the input reads as it did. -/
def linkImposesSpec : ChangeSpec := { name := "linkImposes", fn := fun _ => fun
  | [d1, d2] => { results := [.lit (.bool true)], args := [d1, d2] }
  | _ => none }
def linkImposesRow : OpenClaim := { program := "ytiilkiggfjpibaa", sum := "74c54590d41bf759b67d3bdaabe01bac409d0246092768da8b628a6cac2e7a98", func := "mandrel/mandrellaw16.LinkImposes", spec := "linkImposes", unfollowed := true, recurses := true, apart := false }
def LinkImposesSaid : Prop := linkImposesRow.holds Try.pinned (OpenSpec.ofChange linkImposesSpec)

/-- ITS FALSE NEIGHBOUR: 'it returns false'. Refute it at one input. -/
def linkImposesWrong : ChangeSpec := { name := "linkImposes", fn := fun _ => fun
  | [d1, d2] => { results := [.lit (.bool false)], args := [d1, d2] }
  | _ => none }
def LinkImposesWrongFalsely : Prop := linkImposesRow.holds Try.pinned (OpenSpec.ofChange linkImposesWrong)

/-- 'mandrellaw16.LinkPatches': WHATEVER THE INPUT: true; the input reads as it did. -/
def linkPatchesSpec : ChangeSpec := { name := "linkPatches", fn := fun _ => fun
  | [d] => { results := [.lit (.bool true)], args := [d] }
  | _ => none }
def linkPatchesRow : OpenClaim := { program := "ytiilkiggfjpibaa", sum := "74c54590d41bf759b67d3bdaabe01bac409d0246092768da8b628a6cac2e7a98", func := "mandrel/mandrellaw16.LinkPatches", spec := "linkPatches", unfollowed := true, recurses := true, apart := false }
def LinkPatchesSaid : Prop := linkPatchesRow.holds Try.pinned (OpenSpec.ofChange linkPatchesSpec)

/-- ITS FALSE NEIGHBOUR: 'it returns false'. Refute it at one input. -/
def linkPatchesWrong : ChangeSpec := { name := "linkPatches", fn := fun _ => fun
  | [d] => { results := [.lit (.bool false)], args := [d] }
  | _ => none }
def LinkPatchesWrongFalsely : Prop := linkPatchesRow.holds Try.pinned (OpenSpec.ofChange linkPatchesWrong)

/- THE SECOND FORM. 'bulk': how many values and letters a reading holds, each counted each time it is reached (what is shared counts as often as it is met; a slice's spare places count too). A statement '..UptoSaid' is the law's where the arguments, and the package variables that the reading takes, are together of bulk at most 1048576: NARROWER than '..Said'. Prove '..Said' where nothing that the law and all that it calls make is longer than what came in: it says more and counts as full. Else prove '..UptoSaid'. A law counts once. -/
mutual
def uptoBulk {H : Type} : DataW H → Nat
  | .lit (.string bytes) => bytes.length + 1
  | .lit _ => 1
  | .nil => 1
  | .ptr d => uptoBulk d + 1
  | .slice elems spare => uptoBulkAll elems + uptoBulkAll spare + 1
  | .agg parts => uptoBulkAll parts + 1
  | .iface _ d => uptoBulk d + 1
  | .map entries => uptoBulkEntries entries + 1
  | .held _ => 1
def uptoBulkAll {H : Type} : List (DataW H) → Nat
  | [] => 0
  | d :: r => uptoBulk d + uptoBulkAll r
def uptoBulkEntries {H : Type} : List (Lit × DataW H) → Nat
  | [] => 0
  | x :: r => uptoBulkEntry x + uptoBulkEntries r
def uptoBulkEntry {H : Type} : Lit × DataW H → Nat
  | (.string bytes, d) => bytes.length + uptoBulk d + 1
  | (_, d) => uptoBulk d + 1
 end
def uptoSmall : (H : Type) → List (DataW H) → Bool := fun _ ds => decide (uptoBulkAll ds ≤ 1048576)
def OpenSpec.upto (s : _root_.Go.ChangeSpec) : _root_.Go.OpenSpec := { _root_.Go.OpenSpec.ofChange s with cond := some uptoSmall }

/-- 'mandreltop.TopImages', WHERE WHAT IT READS IS OF BULK AT MOST 1048576: true; the input reads as it did. -/
def topImagesUptoRow : OpenClaim := { program := "ytiilkiggfjpibaa", sum := "74c54590d41bf759b67d3bdaabe01bac409d0246092768da8b628a6cac2e7a98", func := "mandrel/mandreltop.TopImages", spec := "topImages", unfollowed := true, recurses := true, apart := false, narrowed := true }
def TopImagesUptoSaid : Prop := topImagesUptoRow.holds Try.pinned (OpenSpec.upto topImagesSpec)

/-- 'mandrellaw16.LinkFinds', WHERE WHAT IT READS IS OF BULK AT MOST 1048576: true; the input reads as it did. -/
def linkFindsUptoRow : OpenClaim := { program := "ytiilkiggfjpibaa", sum := "74c54590d41bf759b67d3bdaabe01bac409d0246092768da8b628a6cac2e7a98", func := "mandrel/mandrellaw16.LinkFinds", spec := "linkFinds", unfollowed := true, recurses := true, apart := false, narrowed := true }
def LinkFindsUptoSaid : Prop := linkFindsUptoRow.holds Try.pinned (OpenSpec.upto linkFindsSpec)

/-- 'mandrellaw16.LinkDrops', WHERE WHAT IT READS IS OF BULK AT MOST 1048576: true; the input reads as it did. -/
def linkDropsUptoRow : OpenClaim := { program := "ytiilkiggfjpibaa", sum := "74c54590d41bf759b67d3bdaabe01bac409d0246092768da8b628a6cac2e7a98", func := "mandrel/mandrellaw16.LinkDrops", spec := "linkDrops", unfollowed := true, recurses := true, apart := false, narrowed := true }
def LinkDropsUptoSaid : Prop := linkDropsUptoRow.holds Try.pinned (OpenSpec.upto linkDropsSpec)

/-- 'mandrellaw16.LinkObjects', WHERE WHAT IT READS IS OF BULK AT MOST 1048576: true; the input reads as it did. -/
def linkObjectsUptoRow : OpenClaim := { program := "ytiilkiggfjpibaa", sum := "74c54590d41bf759b67d3bdaabe01bac409d0246092768da8b628a6cac2e7a98", func := "mandrel/mandrellaw16.LinkObjects", spec := "linkObjects", unfollowed := true, recurses := true, apart := false, narrowed := true }
def LinkObjectsUptoSaid : Prop := linkObjectsUptoRow.holds Try.pinned (OpenSpec.upto linkObjectsSpec)

/-- 'mandrellaw16.LinkDecodes', WHERE WHAT IT READS IS OF BULK AT MOST 1048576: true; the input reads as it did. -/
def linkDecodesUptoRow : OpenClaim := { program := "ytiilkiggfjpibaa", sum := "74c54590d41bf759b67d3bdaabe01bac409d0246092768da8b628a6cac2e7a98", func := "mandrel/mandrellaw16.LinkDecodes", spec := "linkDecodes", unfollowed := true, recurses := true, apart := false, narrowed := true }
def LinkDecodesUptoSaid : Prop := linkDecodesUptoRow.holds Try.pinned (OpenSpec.upto linkDecodesSpec)

/-- 'mandrellaw16.LinkImages', WHERE WHAT IT READS IS OF BULK AT MOST 1048576: true; the input reads as it did. -/
def linkImagesUptoRow : OpenClaim := { program := "ytiilkiggfjpibaa", sum := "74c54590d41bf759b67d3bdaabe01bac409d0246092768da8b628a6cac2e7a98", func := "mandrel/mandrellaw16.LinkImages", spec := "linkImages", unfollowed := true, recurses := true, apart := false, narrowed := true }
def LinkImagesUptoSaid : Prop := linkImagesUptoRow.holds Try.pinned (OpenSpec.upto linkImagesSpec)

/-- 'mandrellaw16.LinkImposes', WHERE WHAT IT READS IS OF BULK AT MOST 1048576: true; the input reads as it did. -/
def linkImposesUptoRow : OpenClaim := { program := "ytiilkiggfjpibaa", sum := "74c54590d41bf759b67d3bdaabe01bac409d0246092768da8b628a6cac2e7a98", func := "mandrel/mandrellaw16.LinkImposes", spec := "linkImposes", unfollowed := true, recurses := true, apart := false, narrowed := true }
def LinkImposesUptoSaid : Prop := linkImposesUptoRow.holds Try.pinned (OpenSpec.upto linkImposesSpec)

/-- 'mandrellaw16.LinkPatches', WHERE WHAT IT READS IS OF BULK AT MOST 1048576: true; the input reads as it did. -/
def linkPatchesUptoRow : OpenClaim := { program := "ytiilkiggfjpibaa", sum := "74c54590d41bf759b67d3bdaabe01bac409d0246092768da8b628a6cac2e7a98", func := "mandrel/mandrellaw16.LinkPatches", spec := "linkPatches", unfollowed := true, recurses := true, apart := false, narrowed := true }
def LinkPatchesUptoSaid : Prop := linkPatchesUptoRow.holds Try.pinned (OpenSpec.upto linkPatchesSpec)

end Rows
end Go.Proofs.Ytiilkiggfjpibaa
