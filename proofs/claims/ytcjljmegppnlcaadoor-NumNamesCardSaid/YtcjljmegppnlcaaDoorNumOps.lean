/- The table of operations of package num. Conditions: none. -/
import Derived.Test.YtcjljmegppnlcaaDoorNumB
import Derived.Laws.EntriesVeiled
namespace Go.Proofs.YtcjljmegppnlcaaDoor
open Go.RowKit NP
set_option linter.unusedVariables false
/-- the table of operations: the function, and how its result is brought into the type -/
def opsV : Array Value := #[.nilFunc, .nilFunc, .nilFunc, .nilFunc, .nilFunc, .nilFunc, .nilFunc, .nilFunc, .nilFunc, .nilFunc,
  .func (.func 40) #[] #[], .nilFunc, .func (.func 41) #[] #[], .nilFunc, .func (.func 42) #[] #[], .nilFunc,
  .func (.func 43) #[] #[], .nilFunc, .func (.func 44) #[] #[], .nilFunc,
  .func (.func 40) #[] #[], .func (.func 31) #[] #[], .func (.func 41) #[] #[], .func (.func 31) #[] #[],
  .func (.func 42) #[] #[], .func (.func 31) #[] #[], .func (.func 40) #[] #[], .func (.func 45) #[] #[],
  .func (.func 41) #[] #[], .func (.func 45) #[] #[], .func (.func 46) #[] #[], .func (.func 31) #[] #[],
  .func (.func 47) #[] #[], .func (.func 31) #[] #[], .func (.func 48) #[] #[], .func (.func 31) #[] #[]]

theorem opsV_one : opsV.all (·.oneCell') = true := by kernel_rfl
theorem operations_any (w : World) : Calls Tryd.prog 30 #[] w fun e w' => e = .returned (.agg opsV) ∧ Q w w' := by
  have hi : (Tryd.prog.info? 53).map (·.size) = some opsV.size := by kernel_rfl
  have Hi := hide hi
  clear hi
  have h1 := opsV_one
  have H1 := hide h1
  clear h1
  go_enter Tryd.func30, Tryd.ntmps30
  go_wp2_with (refine wpList_store_row (o := ⟨none, .store 53 (.tmp 0) (.tmp 25), _, _, _, _⟩) ?_ 53 (.tmp 0) (.tmp 25) ?_ w.heap.size opsV ?_ ?_ 53 #[.nilFunc, .nilFunc, .nilFunc, .nilFunc, .nilFunc, .nilFunc, .nilFunc, .nilFunc, .nilFunc, .nilFunc, .nilFunc, .nilFunc, .nilFunc, .nilFunc, .nilFunc, .nilFunc, .nilFunc, .nilFunc, .nilFunc, .nilFunc, .nilFunc, .nilFunc, .nilFunc, .nilFunc, .nilFunc, .nilFunc, .nilFunc, .nilFunc, .nilFunc, .nilFunc, .nilFunc, .nilFunc, .nilFunc, .nilFunc, .nilFunc, .nilFunc] ?_ Hi.out ?_ H1.out ?_; rfl; rfl; rfl; rfl; exact heap_alloc_new w _; rfl)
  refine bodyPost_ret (v := .agg opsV) (results_cell1 rfl _ _ _ ⟨w.heap.size, 0, none⟩ _ rfl (run_loadVar_row _ _ 53 _ opsV (0, 0) _ (setRow_heap _ _ _ _ _ _ (heap_alloc_new w _)) Tryd.underlying53 rfl (by kernel_rfl))) rfl ⟨rfl, ?_⟩
  exact ((Q.refl _).alloc _).setRow (Nat.le_refl _) _
end Go.Proofs.YtcjljmegppnlcaaDoor
