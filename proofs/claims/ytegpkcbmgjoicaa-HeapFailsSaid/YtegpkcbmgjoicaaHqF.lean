/- What a missing heap returns, method by method. Conditions: none. -/
import Derived.Test.YtegpkcbmgjoicaaHqE
namespace Go.Proofs.Ytegpkcbmgjoicaa
open Go.RowKit HP
set_option linter.unusedVariables false
set_option maxRecDepth 100000 in
theorem nil_alloc (a0 a1 : Int) (w : World) : Calls Try.prog 10 #[.pointer none, .int .i64 a0, .int .i64 a1] w fun e w' => e = .returned (.tuple #[.int .i64 0, .int .i64 9]) ∧ Q w w' := by
  go_enter_defers Try.func10, Try.ntmps10
  go_wp2_with fail
  exact ⟨_, results_tmp2 rfl _ _ _, rfl, Q.refl _⟩
set_option maxRecDepth 100000 in
theorem nil_free (a0 : Int) (w : World) : Calls Try.prog 11 #[.pointer none, .int .i64 a0] w fun e w' => e = .returned (.int .i64 9) ∧ Q w w' := by
  go_enter_defers Try.func11, Try.ntmps11
  go_wp2_with fail
  exact ⟨_, results_tmp rfl _ _ _, rfl, Q.refl _⟩
set_option maxRecDepth 100000 in
theorem nil_resize (a0 a1 : Int) (w : World) : Calls Try.prog 33 #[.pointer none, .int .i64 a0, .int .i64 a1] w fun e w' => e = .returned (.tuple #[.int .i64 0, .int .i64 9]) ∧ Q w w' := by
  go_enter_defers Try.func33, Try.ntmps33
  go_wp2_with fail
  exact ⟨_, results_tmp2 rfl _ _ _, rfl, Q.refl _⟩
set_option maxRecDepth 100000 in
theorem nil_reset (w : World) : Calls Try.prog 34 #[.pointer none] w fun e w' => e = .returned (.int .i64 9) ∧ Q w w' := by
  go_enter_defers Try.func34, Try.ntmps34
  go_wp2_with fail
  exact ⟨_, results_tmp rfl _ _ _, rfl, Q.refl _⟩
set_option maxRecDepth 100000 in
theorem nil_failat (a0 : Int) (w : World) : Calls Try.prog 22 #[.pointer none, .int .i64 a0] w fun e w' => e = .returned (.int .i64 9) ∧ Q w w' := by
  go_enter_defers Try.func22, Try.ntmps22
  go_wp2_with fail
  exact ⟨_, results_tmp rfl _ _ _, rfl, Q.refl _⟩
set_option maxRecDepth 100000 in
theorem nil_store (a0 a1 : Int) (w : World) : Calls Try.prog 14 #[.pointer none, .int .i64 a0, .int .i64 a1] w fun e w' => e = .returned (.int .i64 9) ∧ Q w w' := by
  go_enter_defers Try.func14, Try.ntmps14
  go_wp2_with fail
  exact ⟨_, results_tmp rfl _ _ _, rfl, Q.refl _⟩
set_option maxRecDepth 100000 in
theorem nil_load (a0 : Int) (w : World) : Calls Try.prog 16 #[.pointer none, .int .i64 a0] w fun e w' => e = .returned (.tuple #[.int .i64 0, .int .i64 9]) ∧ Q w w' := by
  go_enter_defers Try.func16, Try.ntmps16
  go_wp2_with fail
  exact ⟨_, results_tmp2 rfl _ _ _, rfl, Q.refl _⟩
set_option maxRecDepth 100000 in
theorem nil_live (w : World) : Calls Try.prog 15 #[.pointer none] w fun e w' => e = .returned (.slice none 0 0) ∧ Q w w' := by
  go_enter_defers Try.func15, Try.ntmps15
  go_wp2_with fail
  exact ⟨_, results_tmp rfl _ _ _, rfl, Q.refl _⟩
set_option maxRecDepth 100000 in
theorem nil_used (w : World) : Calls Try.prog 17 #[.pointer none] w fun e w' => e = .returned (.int .i64 0) ∧ Q w w' := by
  go_enter_defers Try.func17, Try.ntmps17
  go_wp2_with fail
  exact ⟨_, results_tmp rfl _ _ _, rfl, Q.refl _⟩
set_option maxRecDepth 100000 in
theorem nil_peak (w : World) : Calls Try.prog 18 #[.pointer none] w fun e w' => e = .returned (.int .i64 0) ∧ Q w w' := by
  go_enter_defers Try.func18, Try.ntmps18
  go_wp2_with fail
  exact ⟨_, results_tmp rfl _ _ _, rfl, Q.refl _⟩
set_option maxRecDepth 100000 in
theorem nil_calls (w : World) : Calls Try.prog 19 #[.pointer none] w fun e w' => e = .returned (.int .i64 0) ∧ Q w w' := by
  go_enter_defers Try.func19, Try.ntmps19
  go_wp2_with fail
  exact ⟨_, results_tmp rfl _ _ _, rfl, Q.refl _⟩
set_option maxRecDepth 100000 in
theorem nil_copy (w : World) : Calls Try.prog 20 #[.pointer none] w fun e w' => e = .returned (.pointer none) ∧ Q w w' := by
  go_enter_defers Try.func20, Try.ntmps20
  go_wp2_with fail
  exact ⟨_, results_tmp rfl _ _ _, rfl, Q.refl _⟩
set_option maxRecDepth 100000 in
theorem same_nils (w : World) : Calls Try.prog 21 #[.pointer none, .pointer none] w fun e w' => e = .returned (.bool true) ∧ Q w w' := by
  go_enter Try.func21, Try.ntmps21
  go_wp2_with fail
  go_ret
  exact ⟨rfl, Q.refl _⟩
theorem eql_nil_left {P : Program} (w : World) {t te : TypeId} (a : Addr) (h : P.underlying t = some (.pointer te)) : (binOp .eql t (.pointer none) (.pointer (some a))).run P w = .ok (.bool false) w := by
  have h1 : ∀ d : Nat, (Op.equalIn (d + 1) t (.pointer none) (.pointer (some a))).run P w = .ok false w := fun d => by
    simp [Op.equalIn, run_underlying h]
  simp only [binOp]
  simp [Op.equal, Op.maxDepth, h1 9999]
set_option maxRecDepth 100000 in
theorem same_nil (g : Nat) (w : World) : Calls Try.prog 21 #[.pointer none, .pointer (some ⟨g, 0, none⟩)] w fun e w' => e = .returned (.bool false) ∧ Q w w' := by
  have hE : ∀ W, (binOp .eql 23 (.pointer none) (.pointer (some ⟨g, 0, none⟩))).run Try.prog W = .ok (.bool false) W := fun W => eql_nil_left W _ Try.underlying23
  go_enter Try.func21, Try.ntmps21
  go_wp2_with fail
  go_ret
  exact ⟨rfl, Q.refl _⟩
end Go.Proofs.Ytegpkcbmgjoicaa
