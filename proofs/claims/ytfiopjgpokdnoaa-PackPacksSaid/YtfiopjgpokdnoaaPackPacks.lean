/- The law PackPacks holds: for every input the Go function returns true, and each argument reads afterwards as it read before. Conditions: none. -/
import Derived.Test.YtfiopjgpokdnoaaPackPk
import Derived.Test.YtfiopjgpokdnoaaChecked
import Derived.Test.YtfiopjgpokdnoaaRows
import Derived.Test.YtfiopjgpokdnoaaLift
import Derived.Test.YtfiopjgpokdnoaaOpen
import Derived.Lib.SmallJoins
import Derived.ShutString
namespace Go.Proofs.Ytfiopjgpokdnoaa.lawPackPacks
open Go.ChangeShapes Go.WideShapes Go.ChangeAt Go.RowKit Go.Joins
open Go.ChangeMaps (open_string shut_string)
set_option linter.unusedVariables false
theorem own : ownKnob Try.prog.godebug = none := by kernel_rfl
theorem laidOut : laidOutB Try.prog = true := by kernel_rfl
set_option maxRecDepth 100000 in
theorem lifted (os : Os) (started : os.Started) (H : Type) (enc : TypeId × Value → H) :
    ReturnsInHanded {} Try.checked os 9 .any (Rows.packPacksSpec.pre6 enc Try.prog Try.f9 Rows.packPacksRow.domain false) (Rows.packPacksSpec.post enc Try.prog Try.f9 false true false false) := by
  refine returnsInHanded_of_change_sized (C := Try.checked) own started (by kernel_rfl) Try.func9
    (ChangeSpec.witness6 (enc := enc) (C := Try.checked) false ⟨#[], #[.slice none 0 0], []⟩ 8 (by kernel_rfl) (by kernel_rfl) (by kernel_rfl) (by kernel_rfl)) ?_
  intro W base args ds gs before hval0 hW hcnd hsize _
  have hval : ∀ (j : Nat) t v, Try.f9.params[j]? = some t → args[j]? = some v → Value.okWide Try.prog W .any base t v := hval0
  refine Lift.contract_of (n := 9) laidOut (by kernel_rfl) rfl Try.underlying4 rfl ?_ hW ?_
  · intro ds h
    match ds, h with
    | [x0], _ => rfl
  have hltb : ∀ p ∈ before, p.block < W.heap.size := fun p hp => hW.lt p hp
  obtain ⟨p, q, hA0, hV, hpq, hfz, hnd⟩ := hW
  have hA : DataW.TrodAll enc Try.prog W 0 (fun _ => true) true Try.f9.params.toList args.toList ds p := hA0
  clear hA0 hval0
  rw [Try.params9] at hA hval
  obtain ⟨v0, vs0, d0, ds0, p0, q0, hargs, rfl, rfl, h0, r0⟩ := trodAll_cons hA
  obtain ⟨rfl, rfl, rfl⟩ := trodAll_nil r0
  obtain rfl : args = #[v0] := by cases args; simp_all
  obtain ⟨A0, n0, c0, b0, rfl, hB0, hN0⟩ := Open.bytes Try.underlying22 Try.underlying5 (by kernel_rfl) (by kernel_rfl) (hval 0 22 v0 rfl rfl) h0 hsize (j := 0) rfl rfl
  exact PackPacks_true A0 n0 c0 b0 W hB0 hN0

theorem over : Rows.packPacksRow.holds Try.pinned (OpenSpec.ofChange Rows.packPacksSpec) :=
  OpenClaim.holds_of_wide 9 Try.f9 rfl rfl rfl rfl rfl rfl rfl ⟨rfl, rfl, rfl, rfl, rfl⟩ rfl rfl rfl rfl rfl (by kernel_rfl) Try.func9 (by kernel_rfl)
    (of_decide_eq_true (by kernel_rfl)) (by unfold Func.isWrapper; first | (rw [if_pos (by decide +kernel)]; kernel_rfl) | (rw [if_neg (by decide +kernel)]; exact ⟨rfl, rfl⟩))
    (fun os started H enc _ => lifted os started H enc)

/-- THE STATEMENT -/
theorem proved : Rows.PackPacksSaid :=
  over
#print axioms proved
end Go.Proofs.Ytfiopjgpokdnoaa.lawPackPacks
