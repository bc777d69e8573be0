/-
  No cell of these rows narrows 'for every input' (looked for: loops, veiled, ifaces, maps, wideKeys, modest, calm, conditions, laid).
  DERIVED. THE GIVEN ROWS OF THIS SEAT. 6 by the template 'for every input the law returns true; each argument reads behind the call as it read before'; 0 by the template 'total and deterministic' (their statements: YtofigpjabamnhaaTotals.lean).
  GIVEN WITH THE SEED: the statements are not yours to turn. If you find one false, say at which input.
  Laid BY PROGRAM, IN A SANDBOX (cutbox-rows.mjs): the forced cells as the released guide's own fill.sh prints them over the translation ed987c8edefa8eec… (all of the seat's roots in one cut). By AI agents, Wed Nov 11 2026. No macro, syntax, notation, axiom, sorry.
-/
import Derived.Test.YtofigpjabamnhaaChecked
import GoSem.Claim
import GoSem.ClaimJoined
import GoSem.ClaimMapViews
import Derived.JoinedTies
import Derived.KernelRfl
namespace Go.Proofs.Ytofigpjabamnhaa
/- THE CELL 'sum', in the pinned program and in every row, IS THE sha256 OF THE DUMP (.gsa) THAT YtofigpjabamnhaaProg.lean LOADS. Nothing in Lean hashes anything: it is a label: what it is worth is what the hold of that sum in a sandbox is worth. -/
noncomputable def Try.pinned : Pinned := { name := "ytofigpjabamnhaa", sum := "ed987c8edefa8eecdea381a91718a39e4db06730b2c18ffd4a87235f42d02df9", checked := Try.checked }
namespace Rows
def none {H : Type} : Left H := { results := [], args := [] }

/-- 'mandrellaw02.LexTokens': WHATEVER THE INPUT: true; the input reads as it did. -/
def lexTokensSpec : ChangeSpec := { name := "lexTokens", fn := fun _ => fun
  | [d] => { results := [.lit (.bool true)], args := [d] }
  | _ => none }
def lexTokensRow : OpenClaim := { program := "ytofigpjabamnhaa", sum := "ed987c8edefa8eecdea381a91718a39e4db06730b2c18ffd4a87235f42d02df9", func := "mandrel/mandrellaw02.LexTokens", spec := "lexTokens", unfollowed := true, recurses := true, apart := false }
def LexTokensSaid : Prop := lexTokensRow.holds Try.pinned (OpenSpec.ofChange lexTokensSpec)

/-- ITS FALSE NEIGHBOUR: 'it returns false'. Refute it at one input. -/
def lexTokensWrong : ChangeSpec := { name := "lexTokens", fn := fun _ => fun
  | [d] => { results := [.lit (.bool false)], args := [d] }
  | _ => none }
def LexTokensWrongFalsely : Prop := lexTokensRow.holds Try.pinned (OpenSpec.ofChange lexTokensWrong)

/-- 'mandrellaw02.LexSames': WHATEVER THE INPUT: true; the input reads as it did. -/
def lexSamesSpec : ChangeSpec := { name := "lexSames", fn := fun _ => fun
  | [d1, d2] => { results := [.lit (.bool true)], args := [d1, d2] }
  | _ => none }
def lexSamesRow : OpenClaim := { program := "ytofigpjabamnhaa", sum := "ed987c8edefa8eecdea381a91718a39e4db06730b2c18ffd4a87235f42d02df9", func := "mandrel/mandrellaw02.LexSames", spec := "lexSames", unfollowed := true, recurses := true, apart := false }
def LexSamesSaid : Prop := lexSamesRow.holds Try.pinned (OpenSpec.ofChange lexSamesSpec)

/-- ITS FALSE NEIGHBOUR: 'it returns false'. Refute it at one input. -/
def lexSamesWrong : ChangeSpec := { name := "lexSames", fn := fun _ => fun
  | [d1, d2] => { results := [.lit (.bool false)], args := [d1, d2] }
  | _ => none }
def LexSamesWrongFalsely : Prop := lexSamesRow.holds Try.pinned (OpenSpec.ofChange lexSamesWrong)

/-- 'mandrellaw02.LexApplies': WHATEVER THE INPUT: true; the input reads as it did. -/
def lexAppliesSpec : ChangeSpec := { name := "lexApplies", fn := fun _ => fun
  | [d1, d2] => { results := [.lit (.bool true)], args := [d1, d2] }
  | _ => none }
def lexAppliesRow : OpenClaim := { program := "ytofigpjabamnhaa", sum := "ed987c8edefa8eecdea381a91718a39e4db06730b2c18ffd4a87235f42d02df9", func := "mandrel/mandrellaw02.LexApplies", spec := "lexApplies", unfollowed := true, recurses := true, apart := false }
def LexAppliesSaid : Prop := lexAppliesRow.holds Try.pinned (OpenSpec.ofChange lexAppliesSpec)

/-- ITS FALSE NEIGHBOUR: 'it returns false'. Refute it at one input. -/
def lexAppliesWrong : ChangeSpec := { name := "lexApplies", fn := fun _ => fun
  | [d1, d2] => { results := [.lit (.bool false)], args := [d1, d2] }
  | _ => none }
def LexAppliesWrongFalsely : Prop := lexAppliesRow.holds Try.pinned (OpenSpec.ofChange lexAppliesWrong)

/-- 'mandrellaw02.LexKeeps': WHATEVER THE INPUT: true; the input reads as it did. -/
def lexKeepsSpec : ChangeSpec := { name := "lexKeeps", fn := fun _ => fun
  | [d1, d2] => { results := [.lit (.bool true)], args := [d1, d2] }
  | _ => none }
def lexKeepsRow : OpenClaim := { program := "ytofigpjabamnhaa", sum := "ed987c8edefa8eecdea381a91718a39e4db06730b2c18ffd4a87235f42d02df9", func := "mandrel/mandrellaw02.LexKeeps", spec := "lexKeeps", unfollowed := true, recurses := true, apart := false }
def LexKeepsSaid : Prop := lexKeepsRow.holds Try.pinned (OpenSpec.ofChange lexKeepsSpec)

/-- ITS FALSE NEIGHBOUR: 'it returns false'. Refute it at one input. -/
def lexKeepsWrong : ChangeSpec := { name := "lexKeeps", fn := fun _ => fun
  | [d1, d2] => { results := [.lit (.bool false)], args := [d1, d2] }
  | _ => none }
def LexKeepsWrongFalsely : Prop := lexKeepsRow.holds Try.pinned (OpenSpec.ofChange lexKeepsWrong)

/-- 'mandrellaw02.LexJoins': WHATEVER THE INPUT: true; the input reads as it did. -/
def lexJoinsSpec : ChangeSpec := { name := "lexJoins", fn := fun _ => fun
  | [d] => { results := [.lit (.bool true)], args := [d] }
  | _ => none }
def lexJoinsRow : OpenClaim := { program := "ytofigpjabamnhaa", sum := "ed987c8edefa8eecdea381a91718a39e4db06730b2c18ffd4a87235f42d02df9", func := "mandrel/mandrellaw02.LexJoins", spec := "lexJoins", inPlace := ["internal/abi.NoEscape", "internal/bytealg.MakeNoZero"], unfollowed := true, recurses := true, apart := false }
def LexJoinsSaid : Prop := lexJoinsRow.holds Try.pinned (OpenSpec.ofChange lexJoinsSpec)

/-- ITS FALSE NEIGHBOUR: 'it returns false'. Refute it at one input. -/
def lexJoinsWrong : ChangeSpec := { name := "lexJoins", fn := fun _ => fun
  | [d] => { results := [.lit (.bool false)], args := [d] }
  | _ => none }
def LexJoinsWrongFalsely : Prop := lexJoinsRow.holds Try.pinned (OpenSpec.ofChange lexJoinsWrong)

/-- 'mandrellaw02.LexPlaces': WHATEVER THE INPUT: true; the input reads as it did. -/
def lexPlacesSpec : ChangeSpec := { name := "lexPlaces", fn := fun _ => fun
  | [d1, d2] => { results := [.lit (.bool true)], args := [d1, d2] }
  | _ => none }
def lexPlacesRow : OpenClaim := { program := "ytofigpjabamnhaa", sum := "ed987c8edefa8eecdea381a91718a39e4db06730b2c18ffd4a87235f42d02df9", func := "mandrel/mandrellaw02.LexPlaces", spec := "lexPlaces", inPlace := ["internal/bytealg.CountString", "internal/bytealg.IndexByteString", "internal/bytealg.IndexString"], unfollowed := true, recurses := true, named := ["internal/bytealg.MaxLen"], apart := false }
def LexPlacesSaid : Prop := lexPlacesRow.holds Try.pinned (OpenSpec.ofChange lexPlacesSpec)

/-- ITS FALSE NEIGHBOUR: 'it returns false'. Refute it at one input. -/
def lexPlacesWrong : ChangeSpec := { name := "lexPlaces", fn := fun _ => fun
  | [d1, d2] => { results := [.lit (.bool false)], args := [d1, d2] }
  | _ => none }
def LexPlacesWrongFalsely : Prop := lexPlacesRow.holds Try.pinned (OpenSpec.ofChange lexPlacesWrong)

/- THE SECOND FORM. 'bulk': how many values and letters a reading holds, each counted each time it is reached (what is shared counts as often as it is met; a slice's spare places count too). A statement '..UptoSaid' is the law's where the arguments, and the package variables that the reading takes, are together of bulk at most 1048576: NARROWER than '..Said'. Prove '..Said' where nothing that the law and all that it calls make is longer than what came in: it says more and counts as full. Else prove '..UptoSaid'. A law counts once. -/
mutual
def uptoBulk {H : Type} : DataW H → Nat
  | .lit (.string bytes) => bytes.length + 1
  | .lit _ => 1
  | .nil => 1
  | .ptr d => uptoBulk d + 1
  | .slice elems spare => uptoBulkAll elems + uptoBulkAll spare + 1
  | .agg parts => uptoBulkAll parts + 1
  | .iface _ d => uptoBulk d + 1
  | .map entries => uptoBulkEntries entries + 1
  | .held _ => 1
def uptoBulkAll {H : Type} : List (DataW H) → Nat
  | [] => 0
  | d :: r => uptoBulk d + uptoBulkAll r
def uptoBulkEntries {H : Type} : List (Lit × DataW H) → Nat
  | [] => 0
  | x :: r => uptoBulkEntry x + uptoBulkEntries r
def uptoBulkEntry {H : Type} : Lit × DataW H → Nat
  | (.string bytes, d) => bytes.length + uptoBulk d + 1
  | (_, d) => uptoBulk d + 1
 end
def uptoSmall : (H : Type) → List (DataW H) → Bool := fun _ ds => decide (uptoBulkAll ds ≤ 1048576)
def OpenSpec.upto (s : _root_.Go.ChangeSpec) : _root_.Go.OpenSpec := { _root_.Go.OpenSpec.ofChange s with cond := some uptoSmall }

/-- 'mandrellaw02.LexTokens', WHERE WHAT IT READS IS OF BULK AT MOST 1048576: true; the input reads as it did. -/
def lexTokensUptoRow : OpenClaim := { program := "ytofigpjabamnhaa", sum := "ed987c8edefa8eecdea381a91718a39e4db06730b2c18ffd4a87235f42d02df9", func := "mandrel/mandrellaw02.LexTokens", spec := "lexTokens", unfollowed := true, recurses := true, apart := false, narrowed := true }
def LexTokensUptoSaid : Prop := lexTokensUptoRow.holds Try.pinned (OpenSpec.upto lexTokensSpec)

/-- 'mandrellaw02.LexSames', WHERE WHAT IT READS IS OF BULK AT MOST 1048576: true; the input reads as it did. -/
def lexSamesUptoRow : OpenClaim := { program := "ytofigpjabamnhaa", sum := "ed987c8edefa8eecdea381a91718a39e4db06730b2c18ffd4a87235f42d02df9", func := "mandrel/mandrellaw02.LexSames", spec := "lexSames", unfollowed := true, recurses := true, apart := false, narrowed := true }
def LexSamesUptoSaid : Prop := lexSamesUptoRow.holds Try.pinned (OpenSpec.upto lexSamesSpec)

/-- 'mandrellaw02.LexApplies', WHERE WHAT IT READS IS OF BULK AT MOST 1048576: true; the input reads as it did. -/
def lexAppliesUptoRow : OpenClaim := { program := "ytofigpjabamnhaa", sum := "ed987c8edefa8eecdea381a91718a39e4db06730b2c18ffd4a87235f42d02df9", func := "mandrel/mandrellaw02.LexApplies", spec := "lexApplies", unfollowed := true, recurses := true, apart := false, narrowed := true }
def LexAppliesUptoSaid : Prop := lexAppliesUptoRow.holds Try.pinned (OpenSpec.upto lexAppliesSpec)

/-- 'mandrellaw02.LexKeeps', WHERE WHAT IT READS IS OF BULK AT MOST 1048576: true; the input reads as it did. -/
def lexKeepsUptoRow : OpenClaim := { program := "ytofigpjabamnhaa", sum := "ed987c8edefa8eecdea381a91718a39e4db06730b2c18ffd4a87235f42d02df9", func := "mandrel/mandrellaw02.LexKeeps", spec := "lexKeeps", unfollowed := true, recurses := true, apart := false, narrowed := true }
def LexKeepsUptoSaid : Prop := lexKeepsUptoRow.holds Try.pinned (OpenSpec.upto lexKeepsSpec)

/-- 'mandrellaw02.LexJoins', WHERE WHAT IT READS IS OF BULK AT MOST 1048576: true; the input reads as it did. -/
def lexJoinsUptoRow : OpenClaim := { program := "ytofigpjabamnhaa", sum := "ed987c8edefa8eecdea381a91718a39e4db06730b2c18ffd4a87235f42d02df9", func := "mandrel/mandrellaw02.LexJoins", spec := "lexJoins", inPlace := ["internal/abi.NoEscape", "internal/bytealg.MakeNoZero"], unfollowed := true, recurses := true, apart := false, narrowed := true }
def LexJoinsUptoSaid : Prop := lexJoinsUptoRow.holds Try.pinned (OpenSpec.upto lexJoinsSpec)

/-- 'mandrellaw02.LexPlaces', WHERE WHAT IT READS IS OF BULK AT MOST 1048576: true; the input reads as it did. -/
def lexPlacesUptoRow : OpenClaim := { program := "ytofigpjabamnhaa", sum := "ed987c8edefa8eecdea381a91718a39e4db06730b2c18ffd4a87235f42d02df9", func := "mandrel/mandrellaw02.LexPlaces", spec := "lexPlaces", inPlace := ["internal/bytealg.CountString", "internal/bytealg.IndexByteString", "internal/bytealg.IndexString"], unfollowed := true, recurses := true, named := ["internal/bytealg.MaxLen"], apart := false, narrowed := true }
def LexPlacesUptoSaid : Prop := lexPlacesUptoRow.holds Try.pinned (OpenSpec.upto lexPlacesSpec)

end Rows
end Go.Proofs.Ytofigpjabamnhaa
