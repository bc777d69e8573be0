/- What a missing heap returns, method by method. Conditions: none. -/
import Derived.Test.YtdaklffbfadghaaGreatHqE
namespace Go.Proofs.YtdaklffbfadghaaGreat
open Go.RowKit HP
set_option linter.unusedVariables false
set_option maxRecDepth 100000 in
theorem nil_alloc (a0 a1 : Int) (w : World) : Calls Tryz.prog 9 #[.pointer none, .int .i64 a0, .int .i64 a1] w fun e w' => e = .returned (.tuple #[.int .i64 0, .int .i64 9]) ∧ Q w w' := by
  go_enter_defers Tryz.func9, Tryz.ntmps9
  go_wp2_with fail
  exact ⟨_, results_tmp2 rfl _ _ _, rfl, Q.refl _⟩
set_option maxRecDepth 100000 in
theorem nil_free (a0 : Int) (w : World) : Calls Tryz.prog 108 #[.pointer none, .int .i64 a0] w fun e w' => e = .returned (.int .i64 9) ∧ Q w w' := by
  go_enter_defers Tryz.func108, Tryz.ntmps108
  go_wp2_with fail
  exact ⟨_, results_tmp rfl _ _ _, rfl, Q.refl _⟩
set_option maxRecDepth 100000 in
theorem nil_failat (a0 : Int) (w : World) : Calls Tryz.prog 29 #[.pointer none, .int .i64 a0] w fun e w' => e = .returned (.int .i64 9) ∧ Q w w' := by
  go_enter_defers Tryz.func29, Tryz.ntmps29
  go_wp2_with fail
  exact ⟨_, results_tmp rfl _ _ _, rfl, Q.refl _⟩
set_option maxRecDepth 100000 in
theorem nil_store (a0 a1 : Int) (w : World) : Calls Tryz.prog 11 #[.pointer none, .int .i64 a0, .int .i64 a1] w fun e w' => e = .returned (.int .i64 9) ∧ Q w w' := by
  go_enter_defers Tryz.func11, Tryz.ntmps11
  go_wp2_with fail
  exact ⟨_, results_tmp rfl _ _ _, rfl, Q.refl _⟩
set_option maxRecDepth 100000 in
theorem nil_load (a0 : Int) (w : World) : Calls Tryz.prog 36 #[.pointer none, .int .i64 a0] w fun e w' => e = .returned (.tuple #[.int .i64 0, .int .i64 9]) ∧ Q w w' := by
  go_enter_defers Tryz.func36, Tryz.ntmps36
  go_wp2_with fail
  exact ⟨_, results_tmp2 rfl _ _ _, rfl, Q.refl _⟩
set_option maxRecDepth 100000 in
theorem nil_live (w : World) : Calls Tryz.prog 12 #[.pointer none] w fun e w' => e = .returned (.slice none 0 0) ∧ Q w w' := by
  go_enter_defers Tryz.func12, Tryz.ntmps12
  go_wp2_with fail
  exact ⟨_, results_tmp rfl _ _ _, rfl, Q.refl _⟩
set_option maxRecDepth 100000 in
theorem nil_used (w : World) : Calls Tryz.prog 10 #[.pointer none] w fun e w' => e = .returned (.int .i64 0) ∧ Q w w' := by
  go_enter_defers Tryz.func10, Tryz.ntmps10
  go_wp2_with fail
  exact ⟨_, results_tmp rfl _ _ _, rfl, Q.refl _⟩
set_option maxRecDepth 100000 in
theorem nil_calls (w : World) : Calls Tryz.prog 88 #[.pointer none] w fun e w' => e = .returned (.int .i64 0) ∧ Q w w' := by
  go_enter_defers Tryz.func88, Tryz.ntmps88
  go_wp2_with fail
  exact ⟨_, results_tmp rfl _ _ _, rfl, Q.refl _⟩
theorem eql_nil_left {P : Program} (w : World) {t te : TypeId} (a : Addr) (h : P.underlying t = some (.pointer te)) : (binOp .eql t (.pointer none) (.pointer (some a))).run P w = .ok (.bool false) w := by
  have h1 : ∀ d : Nat, (Op.equalIn (d + 1) t (.pointer none) (.pointer (some a))).run P w = .ok false w := fun d => by
    simp [Op.equalIn, run_underlying h]
  simp only [binOp]
  simp [Op.equal, Op.maxDepth, h1 9999]
end Go.Proofs.YtdaklffbfadghaaGreat
