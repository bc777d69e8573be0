/- The table of operations of package num. Conditions: none. -/
import Derived.Test.YtcjljmegppnlcaaNumB
import Derived.Laws.EntriesVeiled
namespace Go.Proofs.Ytcjljmegppnlcaa
open Go.RowKit NP
set_option linter.unusedVariables false
/-- the table of operations: the function, and how its result is brought into the type -/
def opsV : Array Value := #[.nilFunc, .nilFunc, .nilFunc, .nilFunc, .nilFunc, .nilFunc, .nilFunc, .nilFunc, .nilFunc, .nilFunc,
  .func (.func 71) #[] #[], .nilFunc, .func (.func 72) #[] #[], .nilFunc, .func (.func 73) #[] #[], .nilFunc,
  .func (.func 74) #[] #[], .nilFunc, .func (.func 75) #[] #[], .nilFunc,
  .func (.func 71) #[] #[], .func (.func 50) #[] #[], .func (.func 72) #[] #[], .func (.func 50) #[] #[],
  .func (.func 73) #[] #[], .func (.func 50) #[] #[], .func (.func 71) #[] #[], .func (.func 52) #[] #[],
  .func (.func 72) #[] #[], .func (.func 52) #[] #[], .func (.func 76) #[] #[], .func (.func 50) #[] #[],
  .func (.func 77) #[] #[], .func (.func 50) #[] #[], .func (.func 78) #[] #[], .func (.func 50) #[] #[]]

theorem opsV_one : opsV.all (·.oneCell') = true := by kernel_rfl
theorem operations_any (w : World) : Calls Try.prog 63 #[] w fun e w' => e = .returned (.agg opsV) ∧ Q w w' := by
  have hi : (Try.prog.info? 68).map (·.size) = some opsV.size := by kernel_rfl
  have Hi := hide hi
  clear hi
  have h1 := opsV_one
  have H1 := hide h1
  clear h1
  go_enter Try.func63, Try.ntmps63
  go_wp2_with (refine wpList_store_row (o := ⟨none, .store 68 (.tmp 0) (.tmp 25), _, _, _, _⟩) ?_ 68 (.tmp 0) (.tmp 25) ?_ w.heap.size opsV ?_ ?_ 68 #[.nilFunc, .nilFunc, .nilFunc, .nilFunc, .nilFunc, .nilFunc, .nilFunc, .nilFunc, .nilFunc, .nilFunc, .nilFunc, .nilFunc, .nilFunc, .nilFunc, .nilFunc, .nilFunc, .nilFunc, .nilFunc, .nilFunc, .nilFunc, .nilFunc, .nilFunc, .nilFunc, .nilFunc, .nilFunc, .nilFunc, .nilFunc, .nilFunc, .nilFunc, .nilFunc, .nilFunc, .nilFunc, .nilFunc, .nilFunc, .nilFunc, .nilFunc] ?_ Hi.out ?_ H1.out ?_; rfl; rfl; rfl; rfl; exact heap_alloc_new w _; rfl)
  refine bodyPost_ret (v := .agg opsV) (results_cell1 rfl _ _ _ ⟨w.heap.size, 0, none⟩ _ rfl (run_loadVar_row _ _ 68 _ opsV (0, 0) _ (setRow_heap _ _ _ _ _ _ (heap_alloc_new w _)) Try.underlying68 rfl (by kernel_rfl))) rfl ⟨rfl, ?_⟩
  exact ((Q.refl _).alloc _).setRow (Nat.le_refl _) _
end Go.Proofs.Ytcjljmegppnlcaa
