/- The walks of Text, of the program and of the reference. Conditions: none. -/
import Derived.Test.YtcjljmegppnlcaaDoorNumTc
import Derived.Test.YtcjljmegppnlcaaDoorNumR
namespace Go.Proofs.YtcjljmegppnlcaaDoor
open Go.RowKit NP
set_option linter.unusedVariables false
theorem isBase_ok (b : Int) (h1 : 2 ≤ b) (h2 : b ≤ 16) (w : World) : Calls Tryd.prog 19 #[.int .i64 b] w fun e w' => e = .returned (.bool true) ∧ Q w w' := by
  have d1 : decide ((2 : Int) ≤ b) = true := by simp; omega
  have d2 : decide (b ≤ 16) = true := by simp; omega
  go_enter Tryd.func19, Tryd.ntmps19
  go_wp2_with fail
  go_ret
  exact ⟨rfl, Q.refl _⟩
theorem isBase_bad (b : Int) (h : ¬ (2 ≤ b ∧ b ≤ 16)) (w : World) : Calls Tryd.prog 19 #[.int .i64 b] w fun e w' => e = .returned (.bool false) ∧ Q w w' := by
  by_cases h1 : 2 ≤ b
  · have d1 : decide ((2 : Int) ≤ b) = true := by simp; omega
    have d2 : decide (b ≤ 16) = false := by simp; omega
    clear h
    go_enter Tryd.func19, Tryd.ntmps19
    go_wp2_with fail
    go_ret
    exact ⟨rfl, Q.refl _⟩
  · have d1 : decide ((2 : Int) ≤ b) = false := by simp; omega
    clear h
    go_enter Tryd.func19, Tryd.ntmps19
    go_wp2_with fail
    go_ret
    exact ⟨rfl, Q.refl _⟩
def okT (n b : Int) : Prop := 2 ≤ b ∧ b ≤ 16 ∧ -1099511627776 ≤ n ∧ n ≤ 1099511627776
instance (n b : Int) : Decidable (okT n b) := by unfold okT; infer_instance
end Go.Proofs.YtcjljmegppnlcaaDoor
