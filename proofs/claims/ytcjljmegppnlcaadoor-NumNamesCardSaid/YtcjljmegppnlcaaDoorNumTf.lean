/- The walk of the reference's Parse. Conditions: the base is one. (written by gen_rparse.py) -/
import Derived.Test.YtcjljmegppnlcaaDoorNumTe
namespace Go.Proofs.YtcjljmegppnlcaaDoor
open Go.RowKit NP
set_option linter.unusedVariables false
theorem signed_abs (neg : Bool) (m : Nat) : (signed neg m).natAbs = m := by
  cases neg <;> simp [signed]
theorem txtI_len {b : Nat} (hb : 2 ≤ b) {n : Int} (h : n.natAbs ≤ 1099511627776) : (txtI b n).length ≤ 42 := by
  unfold txtI
  split
  · have := txtN_len hb 40 n.natAbs (Nat.lt_of_le_of_lt h (by decide))
    simp
    omega
  · have := txtN_len hb 40 n.toNat (Nat.lt_of_le_of_lt (by omega : n.toNat ≤ 1099511627776) (by decide))
    omega
theorem parseG_long {b : Nat} {l R : List UInt8} {neg : Bool} (hb : 2 ≤ b) (h : 45 < l.length) : parseG b l neg R = (0, 2) := by
  cases hm : numDg b 0 R with
  | none => exact parseG_none hm
  | some m =>
    by_cases hbig : 1099511627776 < m
    · exact parseG_big hm hbig
    · refine parseG_ne hm (fun e => ?_)
      have := txtI_len (b := b) hb (n := signed neg m) (by rw [signed_abs]; omega)
      rw [e] at this
      omega
theorem parseG_nil {b : Nat} {l : List UInt8} {neg : Bool} (hb : 2 ≤ b) (h : l ≠ [48]) : parseG b l neg [] = (0, 2) := by
  refine parseG_ne (m := 0) rfl (fun e => h ?_)
  have h0 : signed neg 0 = ((0 : Nat) : Int) := by cases neg <;> rfl
  rw [← e, h0, txtI_nat, txtN_lo (by omega)]
  rfl
end Go.Proofs.YtcjljmegppnlcaaDoor
