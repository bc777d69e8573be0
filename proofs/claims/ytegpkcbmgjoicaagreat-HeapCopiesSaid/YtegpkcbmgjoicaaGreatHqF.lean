/- What a missing heap returns, method by method. Conditions: none. -/
import Derived.Test.YtegpkcbmgjoicaaGreatHqE
namespace Go.Proofs.YtegpkcbmgjoicaaGreat
open Go.RowKit HP
set_option linter.unusedVariables false
set_option maxRecDepth 100000 in
theorem nil_alloc (a0 a1 : Int) (w : World) : Calls Tryz.prog 16 #[.pointer none, .int .i64 a0, .int .i64 a1] w fun e w' => e = .returned (.tuple #[.int .i64 0, .int .i64 9]) ∧ Q w w' := by
  go_enter_defers Tryz.func16, Tryz.ntmps16
  go_wp2_with fail
  exact ⟨_, results_tmp2 rfl _ _ _, rfl, Q.refl _⟩
set_option maxRecDepth 100000 in
theorem nil_free (a0 : Int) (w : World) : Calls Tryz.prog 17 #[.pointer none, .int .i64 a0] w fun e w' => e = .returned (.int .i64 9) ∧ Q w w' := by
  go_enter_defers Tryz.func17, Tryz.ntmps17
  go_wp2_with fail
  exact ⟨_, results_tmp rfl _ _ _, rfl, Q.refl _⟩
set_option maxRecDepth 100000 in
theorem nil_resize (a0 a1 : Int) (w : World) : Calls Tryz.prog 18 #[.pointer none, .int .i64 a0, .int .i64 a1] w fun e w' => e = .returned (.tuple #[.int .i64 0, .int .i64 9]) ∧ Q w w' := by
  go_enter_defers Tryz.func18, Tryz.ntmps18
  go_wp2_with fail
  exact ⟨_, results_tmp2 rfl _ _ _, rfl, Q.refl _⟩
set_option maxRecDepth 100000 in
theorem nil_reset (w : World) : Calls Tryz.prog 19 #[.pointer none] w fun e w' => e = .returned (.int .i64 9) ∧ Q w w' := by
  go_enter_defers Tryz.func19, Tryz.ntmps19
  go_wp2_with fail
  exact ⟨_, results_tmp rfl _ _ _, rfl, Q.refl _⟩
set_option maxRecDepth 100000 in
theorem nil_failat (a0 : Int) (w : World) : Calls Tryz.prog 20 #[.pointer none, .int .i64 a0] w fun e w' => e = .returned (.int .i64 9) ∧ Q w w' := by
  go_enter_defers Tryz.func20, Tryz.ntmps20
  go_wp2_with fail
  exact ⟨_, results_tmp rfl _ _ _, rfl, Q.refl _⟩
set_option maxRecDepth 100000 in
theorem nil_store (a0 a1 : Int) (w : World) : Calls Tryz.prog 21 #[.pointer none, .int .i64 a0, .int .i64 a1] w fun e w' => e = .returned (.int .i64 9) ∧ Q w w' := by
  go_enter_defers Tryz.func21, Tryz.ntmps21
  go_wp2_with fail
  exact ⟨_, results_tmp rfl _ _ _, rfl, Q.refl _⟩
set_option maxRecDepth 100000 in
theorem nil_load (a0 : Int) (w : World) : Calls Tryz.prog 22 #[.pointer none, .int .i64 a0] w fun e w' => e = .returned (.tuple #[.int .i64 0, .int .i64 9]) ∧ Q w w' := by
  go_enter_defers Tryz.func22, Tryz.ntmps22
  go_wp2_with fail
  exact ⟨_, results_tmp2 rfl _ _ _, rfl, Q.refl _⟩
set_option maxRecDepth 100000 in
theorem nil_live (w : World) : Calls Tryz.prog 30 #[.pointer none] w fun e w' => e = .returned (.slice none 0 0) ∧ Q w w' := by
  go_enter_defers Tryz.func30, Tryz.ntmps30
  go_wp2_with fail
  exact ⟨_, results_tmp rfl _ _ _, rfl, Q.refl _⟩
set_option maxRecDepth 100000 in
theorem nil_used (w : World) : Calls Tryz.prog 31 #[.pointer none] w fun e w' => e = .returned (.int .i64 0) ∧ Q w w' := by
  go_enter_defers Tryz.func31, Tryz.ntmps31
  go_wp2_with fail
  exact ⟨_, results_tmp rfl _ _ _, rfl, Q.refl _⟩
set_option maxRecDepth 100000 in
theorem nil_peak (w : World) : Calls Tryz.prog 33 #[.pointer none] w fun e w' => e = .returned (.int .i64 0) ∧ Q w w' := by
  go_enter_defers Tryz.func33, Tryz.ntmps33
  go_wp2_with fail
  exact ⟨_, results_tmp rfl _ _ _, rfl, Q.refl _⟩
set_option maxRecDepth 100000 in
theorem nil_calls (w : World) : Calls Tryz.prog 34 #[.pointer none] w fun e w' => e = .returned (.int .i64 0) ∧ Q w w' := by
  go_enter_defers Tryz.func34, Tryz.ntmps34
  go_wp2_with fail
  exact ⟨_, results_tmp rfl _ _ _, rfl, Q.refl _⟩
set_option maxRecDepth 100000 in
theorem nil_copy (w : World) : Calls Tryz.prog 12 #[.pointer none] w fun e w' => e = .returned (.pointer none) ∧ Q w w' := by
  go_enter_defers Tryz.func12, Tryz.ntmps12
  go_wp2_with fail
  exact ⟨_, results_tmp rfl _ _ _, rfl, Q.refl _⟩
set_option maxRecDepth 100000 in
theorem same_nils (w : World) : Calls Tryz.prog 13 #[.pointer none, .pointer none] w fun e w' => e = .returned (.bool true) ∧ Q w w' := by
  go_enter Tryz.func13, Tryz.ntmps13
  go_wp2_with fail
  go_ret
  exact ⟨rfl, Q.refl _⟩
theorem eql_nil_left {P : Program} (w : World) {t te : TypeId} (a : Addr) (h : P.underlying t = some (.pointer te)) : (binOp .eql t (.pointer none) (.pointer (some a))).run P w = .ok (.bool false) w := by
  have h1 : ∀ d : Nat, (Op.equalIn (d + 1) t (.pointer none) (.pointer (some a))).run P w = .ok false w := fun d => by
    simp [Op.equalIn, run_underlying h]
  simp only [binOp]
  simp [Op.equal, Op.maxDepth, h1 9999]
set_option maxRecDepth 100000 in
theorem same_nil (g : Nat) (w : World) : Calls Tryz.prog 13 #[.pointer none, .pointer (some ⟨g, 0, none⟩)] w fun e w' => e = .returned (.bool false) ∧ Q w w' := by
  have hE : ∀ W, (binOp .eql 25 (.pointer none) (.pointer (some ⟨g, 0, none⟩))).run Tryz.prog W = .ok (.bool false) W := fun W => eql_nil_left W _ Tryz.underlying25
  go_enter Tryz.func13, Tryz.ntmps13
  go_wp2_with fail
  go_ret
  exact ⟨rfl, Q.refl _⟩
end Go.Proofs.YtegpkcbmgjoicaaGreat
