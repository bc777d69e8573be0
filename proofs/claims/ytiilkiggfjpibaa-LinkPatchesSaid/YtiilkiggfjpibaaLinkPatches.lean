/- The law LinkPatches holds: for every input the Go function returns true, and each argument reads afterwards as it read before. Conditions: none. -/
import Derived.Test.YtiilkiggfjpibaaLinkXe
import Derived.Test.YtiilkiggfjpibaaLinkVs
import Derived.Test.YtiilkiggfjpibaaLinkU2
import Derived.Test.YtiilkiggfjpibaaChecked
import Derived.Test.YtiilkiggfjpibaaRows
import Derived.Test.YtiilkiggfjpibaaBase
import Derived.Lib.SmallJoins
import Derived.ShutString
namespace Go.Proofs.Ytiilkiggfjpibaa.lawLinkPatches
open Go.ChangeShapes Go.WideShapes Go.ChangeAt Go.RowKit Go.Joins
open Go.ChangeMaps (open_string shut_string)
set_option linter.unusedVariables false
theorem own : ownKnob Try.prog.godebug = none := by kernel_rfl
theorem laidOut : laidOutB Try.prog = true := by kernel_rfl
set_option maxRecDepth 100000 in
theorem lifted (os : Os) (started : os.Started) (H : Type) (enc : TypeId × Value → H) :
    ReturnsInHanded {} Try.checked os 10 .any (Rows.linkPatchesSpec.pre6 enc Try.prog Try.f10 Rows.linkPatchesRow.domain false) (Rows.linkPatchesSpec.post enc Try.prog Try.f10 false true false false) := by
  refine returnsInHanded_of_change_sized (C := Try.checked) own started (by kernel_rfl) Try.func10
    (ChangeSpec.witness6 (enc := enc) (C := Try.checked) false ⟨#[], #[.agg #[.slice none 0 0, .int .i64 0, .slice none 0 0, .slice none 0 0, .slice none 0 0]], []⟩ 8 (by kernel_rfl) (by kernel_rfl) (by kernel_rfl) (by kernel_rfl)) ?_
  intro W base args ds gs before hval0 hW hcnd hsize _
  have hval : ∀ (j : Nat) t v, Try.f10.params[j]? = some t → args[j]? = some v → Value.okWide Try.prog W .any base t v := hval0
  refine Lift.contract_of (n := 10) laidOut (by kernel_rfl) rfl Try.underlying4 rfl ?_ hW ?_
  · intro ds h
    match ds, h with
    | [x0], _ => rfl
  have hltb : ∀ p ∈ before, p.block < W.heap.size := fun p hp => hW.lt p hp
  obtain ⟨p, q, hA0, hV, hpq, hfz, hnd⟩ := hW
  have hA : DataW.TrodAll enc Try.prog W 0 (fun _ => true) true Try.f10.params.toList args.toList ds p := hA0
  clear hA0 hval0
  rw [Try.params10] at hA hval
  obtain ⟨v0, vs0, d0, ds0, p0, q0, hargs, rfl, rfl, h0, r0⟩ := trodAll_cons hA
  obtain ⟨rfl, rfl, rfl⟩ := trodAll_nil r0
  obtain rfl : args = #[v0] := by cases args; simp_all
  obtain ⟨cs0, rfl, -⟩ := okWide_struct Try.underlying40 (hval 0 40 v0 rfl rfl)
  obtain ⟨o0, e0, hO0⟩ := Rdr.arg rdPatch h0 hsize (j := 0) rfl rfl
  have q0x : cs0 = _ := (Array.toArray_toList (xs := cs0)).symm.trans (congrArg List.toArray e0)
  subst q0x
  exact LinkPatches_true o0.1 o0.2.1 o0.2.2 W (ObsR.of hO0.1) hO0.1.big (ObR.of hO0.2.2)

theorem over : Rows.linkPatchesRow.holds Try.pinned (OpenSpec.ofChange Rows.linkPatchesSpec) :=
  OpenClaim.holds_of_wide 10 Try.f10 rfl rfl rfl rfl rfl rfl rfl ⟨rfl, rfl, rfl, rfl, rfl⟩ rfl rfl rfl rfl rfl (by kernel_rfl) Try.func10 (by kernel_rfl)
    (of_decide_eq_true (by kernel_rfl)) (by unfold Func.isWrapper; first | (rw [if_pos (by decide +kernel)]; kernel_rfl) | (rw [if_neg (by decide +kernel)]; exact ⟨rfl, rfl⟩))
    (fun os started H enc _ => lifted os started H enc)

/-- THE STATEMENT -/
theorem proved : Rows.LinkPatchesSaid :=
  over
#print axioms proved
end Go.Proofs.Ytiilkiggfjpibaa.lawLinkPatches
