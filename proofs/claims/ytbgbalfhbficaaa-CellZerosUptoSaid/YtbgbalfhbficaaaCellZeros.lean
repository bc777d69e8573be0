/- The law CellZeros holds: for every input the Go function returns true, and each argument reads afterwards as it read before. Conditions: the bulk of what is read is at most the one that the form names. -/
import Derived.Test.YtbgbalfhbficaaaCz20
import Derived.Test.YtbgbalfhbficaaaCz10
import Derived.Test.YtbgbalfhbficaaaChecked
import Derived.Test.YtbgbalfhbficaaaRows
import Derived.Test.YtbgbalfhbficaaaCz1
import Derived.Lib.SmallJoins
import Derived.ShutString
import Derived.Deep.CondSized
namespace Go.Proofs.Ytbgbalfhbficaaa.lawCellZeros
open Go.ChangeShapes Go.WideShapes Go.ChangeAt Go.RowKit Go.Joins
open Go.ChangeMaps (open_string shut_string)
set_option linter.unusedVariables false
theorem own : ownKnob Try.prog.godebug = none := by kernel_rfl
theorem laidOut : laidOutB Try.prog = true := by kernel_rfl
set_option maxRecDepth 100000 in
theorem lifted (os : Os) (started : os.Started) (H : Type) (enc : TypeId × Value → H) (F : Stop.Interp) :
    ReturnsInHanded {} Try.checked os 6 .any ((Rows.OpenSpec.upto Rows.cellZerosSpec).pre6 enc Try.prog Try.f6 Rows.cellZerosUptoRow.domain false) (((Rows.OpenSpec.upto Rows.cellZerosSpec).at F).post enc Try.prog Try.f6 false true false false) := by
  refine returnsInHanded_of_cond_sized (C := Try.checked) (s := Rows.OpenSpec.upto Rows.cellZerosSpec) (k := Rows.uptoSmall) rfl own started (by kernel_rfl) Try.func6
    (OpenSpec.witness (enc := enc) (C := Try.checked) (s := Rows.OpenSpec.upto Rows.cellZerosSpec) (k := Rows.uptoSmall) rfl false ⟨#[], #[.agg #[.int .i64 0, .int .i64 0, .bool false, .slice none 0 0, .int .i64 0, .bool false], .agg #[.int .i64 0, .bool false, .bool false, .slice none 0 0]], []⟩ 8 (by kernel_rfl) (by kernel_rfl) (by kernel_rfl) (x := ([.agg [.agg [.lit (.int .i64 0), .lit (.int .i64 0), .lit (.bool false), .nil], .agg [.lit (.int .i64 0), .lit (.bool false)]], .agg [.lit (.int .i64 0), .lit (.bool false), .lit (.bool false), .nil]], [], [])) (by kernel_rfl) rfl (by kernel_rfl)) ?_
  intro W base args ds gs before hval0 hW hcnd hkk hsize _
  have hval : ∀ (j : Nat) t v, Try.f6.params[j]? = some t → args[j]? = some v → Value.okWide Try.prog W .any base t v := hval0
  refine Lift.contract_of (n := 6) laidOut (by kernel_rfl) rfl Try.underlying4 rfl ?_ hW ?_
  · intro ds h
    match ds, h with
    | [x0, x1], _ => rfl
  have hltb : ∀ p ∈ before, p.block < W.heap.size := fun p hp => hW.lt p hp
  obtain ⟨p, q, hA0, hV, hpq, hfz, hnd⟩ := hW
  obtain ⟨rfl, _⟩ := trodVars_none hV
  have hA : DataW.TrodAll enc Try.prog W 0 (fun _ => true) true Try.f6.params.toList args.toList ds p := hA0
  clear hA0 hval0
  rw [Try.params6] at hA hval
  obtain ⟨v0, vs0, d0, ds0, p0, q0, hargs, rfl, rfl, h0, r0⟩ := trodAll_cons hA
  obtain ⟨v1, vs1, d1, ds1, p1, q1, rfl, rfl, rfl, h1, r1⟩ := trodAll_cons r0
  obtain ⟨rfl, rfl, rfl⟩ := trodAll_nil r1
  obtain rfl : args = #[v0, v1] := by cases args; simp_all
  obtain ⟨cs0, rfl, -⟩ := okWide_struct Try.underlying28 (hval 0 28 v0 rfl rfl)
  obtain ⟨⟨l0, wd0, b0⟩, e0, hO0, hK0⟩ := RdrC.arg rdTwo h0 hsize (j := 0) rfl rfl
  have q0x : cs0 = _ := (Array.toArray_toList (xs := cs0)).symm.trans (congrArg List.toArray e0)
  subst q0x
  obtain ⟨cs1, rfl, -⟩ := okWide_struct Try.underlying31 (hval 1 31 v1 rfl rfl)
  obtain ⟨o1, e1, hO1⟩ := Rdr.arg rdCell h1 hsize (j := 1) rfl rfl
  have q1x : cs1 = _ := (Array.toArray_toList (xs := cs1)).symm.trans (congrArg List.toArray e1)
  subst q1x
  have hsm := of_decide_eq_true hkk
  simp only [List.append_nil, Rows.uptoBulkAll] at hsm
  have hv1 : (Value.agg (encC o1).toArray) = o1.v := by cases o1; rfl
  rw [hv1]
  exact CellZeros_true W hO0.1 (show l0.count ≤ 1048576 by dsimp only at hK0; omega) hO1 hO0.2.1

theorem over : Rows.cellZerosUptoRow.holds Try.pinned (Rows.OpenSpec.upto Rows.cellZerosSpec) :=
  OpenClaim.holds_of_cond 6 Try.f6 rfl rfl rfl rfl rfl rfl rfl ⟨rfl, rfl, rfl, rfl, rfl⟩ rfl rfl rfl rfl rfl (by kernel_rfl) Try.func6 (by kernel_rfl)
    (of_decide_eq_true (by kernel_rfl)) (by unfold Func.isWrapper; first | (rw [if_pos (by decide +kernel)]; kernel_rfl) | (rw [if_neg (by decide +kernel)]; exact ⟨rfl, rfl⟩))
    (fun os started H enc _ F => lifted os started H enc F)

/-- THE STATEMENT -/
theorem proved : Rows.CellZerosUptoSaid :=
  over
#print axioms proved
end Go.Proofs.Ytbgbalfhbficaaa.lawCellZeros
