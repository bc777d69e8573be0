/- The law LinkImposes holds: for every input the Go function returns true, and each argument reads afterwards as it read before. Conditions: none. -/
import Derived.Test.YtiilkiggfjpibaaLinkVr
import Derived.Test.YtiilkiggfjpibaaLinkVs
import Derived.Test.YtiilkiggfjpibaaLinkU2
import Derived.Test.YtiilkiggfjpibaaChecked
import Derived.Test.YtiilkiggfjpibaaRows
import Derived.Test.YtiilkiggfjpibaaBase
import Derived.Lib.SmallJoins
import Derived.ShutString
namespace Go.Proofs.Ytiilkiggfjpibaa.lawLinkImposes
open Go.ChangeShapes Go.WideShapes Go.ChangeAt Go.RowKit Go.Joins
open Go.ChangeMaps (open_string shut_string)
set_option linter.unusedVariables false
set_option linter.unusedSimpArgs false
theorem own : ownKnob Try.prog.godebug = none := by kernel_rfl
theorem laidOut : laidOutB Try.prog = true := by kernel_rfl
set_option maxRecDepth 100000 in
theorem lifted (os : Os) (started : os.Started) (H : Type) (enc : TypeId × Value → H) :
    ReturnsInHanded {} Try.checked os 9 .any (Rows.linkImposesSpec.pre6 enc Try.prog Try.f9 Rows.linkImposesRow.domain false) (Rows.linkImposesSpec.post enc Try.prog Try.f9 false true false false) := by
  refine returnsInHanded_of_change_sized (C := Try.checked) own started (by kernel_rfl) Try.func9
    (ChangeSpec.witness6 (enc := enc) (C := Try.checked) false ⟨#[], #[.slice none 0 0, .agg #[.slice none 0 0, .int .i64 0, .slice none 0 0, .slice none 0 0, .slice none 0 0]], []⟩ 8 (by kernel_rfl) (by kernel_rfl) (by kernel_rfl) (by kernel_rfl)) ?_
  intro W base args ds gs before hval0 hW hcnd hsize _
  have hval : ∀ (j : Nat) t v, Try.f9.params[j]? = some t → args[j]? = some v → Value.okWide Try.prog W .any base t v := hval0
  refine Lift.contract_of (n := 9) laidOut (by kernel_rfl) rfl Try.underlying4 rfl ?_ hW ?_
  · intro ds h
    match ds, h with
    | [x0, x1], _ => rfl
  have hltb : ∀ p ∈ before, p.block < W.heap.size := fun p hp => hW.lt p hp
  obtain ⟨p, q, hA0, hV, hpq, hfz, hnd⟩ := hW
  have hA : DataW.TrodAll enc Try.prog W 0 (fun _ => true) true Try.f9.params.toList args.toList ds p := hA0
  clear hA0 hval0
  rw [Try.params9] at hA hval
  obtain ⟨v0, vs0, d0, ds0, p0, q0, hargs, rfl, rfl, h0, r0⟩ := trodAll_cons hA
  obtain ⟨v1, vs1, d1, ds1, p1, q1, rfl, rfl, rfl, h1, r1⟩ := trodAll_cons r0
  obtain ⟨rfl, rfl, rfl⟩ := trodAll_nil r1
  obtain rfl : args = #[v0, v1] := by cases args; simp_all
  obtain ⟨s0, rfl, hS0⟩ := Rdr.argV rdBytes8 Try.underlying30 (hval 0 30 v0 rfl rfl) h0 hsize (j := 0) rfl rfl
  obtain ⟨cs1, rfl, -⟩ := okWide_struct Try.underlying40 (hval 1 40 v1 rfl rfl)
  obtain ⟨o1, e1, hO1⟩ := Rdr.arg rdPatch h1 hsize (j := 1) rfl rfl
  have q1x : cs1 = _ := (Array.toArray_toList (xs := cs1)).symm.trans (congrArg List.toArray e1)
  subst q1x
  exact LinkImposes_true s0 o1.1 o1.2.1 o1.2.2 W ⟨hS0.sl, hS0.nil_⟩ (in8_of hS0) (ObsR.of hO1.1) hO1.1.big (ObR.of hO1.2.2)

theorem over : Rows.linkImposesRow.holds Try.pinned (OpenSpec.ofChange Rows.linkImposesSpec) :=
  OpenClaim.holds_of_wide 9 Try.f9 rfl rfl rfl rfl rfl rfl rfl ⟨rfl, rfl, rfl, rfl, rfl⟩ rfl rfl rfl rfl rfl (by kernel_rfl) Try.func9 (by kernel_rfl)
    (of_decide_eq_true (by kernel_rfl)) (by unfold Func.isWrapper; first | (rw [if_pos (by decide +kernel)]; kernel_rfl) | (rw [if_neg (by decide +kernel)]; exact ⟨rfl, rfl⟩))
    (fun os started H enc _ => lifted os started H enc)

/-- THE STATEMENT -/
theorem proved : Rows.LinkImposesSaid :=
  over
#print axioms proved
end Go.Proofs.Ytiilkiggfjpibaa.lawLinkImposes
