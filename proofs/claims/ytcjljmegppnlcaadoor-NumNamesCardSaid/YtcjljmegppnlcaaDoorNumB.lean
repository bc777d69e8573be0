import Derived.Test.YtcjljmegppnlcaaDoorNumA
import Derived.Deep.RegionHeld3
namespace Go.Proofs.YtcjljmegppnlcaaDoor
open Go.RowKit NP
theorem near_any (s : Bool) (b n : Int) (w : World) (h1 : 1 ≤ b) (h2 : b ≤ 31) :
    Calls Tryd.prog 45 #[.agg #[.bool s, .int .i64 b], .int .i64 n] w fun e w' => e = .returned (.int .i64 (nearS s b n)) ∧ Q w w' := by
  obtain ⟨l1, l2, l3, l4, l5⟩ := lo_hi s b h1 h2
  clear l5
  have hfin : (if n < lo s b then lo s b else if hi s b < n then hi s b else n) = nearS s b n := rfl
  have Hfin := hide hfin
  clear hfin
  go_enter Tryd.func45, Tryd.ntmps45
  go_wp2_with fail
  go_region_held3 (fun w' => w'.cell? ⟨w.heap.size, 0, none⟩ = some (.bool s) ∧ w'.cell? ⟨w.heap.size, 1, none⟩ = some (.int .i64 b) ∧ w.heap.size < w'.heap.size) ((refine ⟨?_, ?_, ?_⟩ <;> first | (simp [*]; done) | omega)) (first | (go_at_call 38; refine (least_any _ _ _ h1 h2).mono ?_; rintro e w1 ⟨rfl, hq1⟩; obtain ⟨hc1, hf1, hz1⟩ := hq1.facts; try simp at hz1) | (go_at_call 39; refine (greatest_any _ _ _ h1 h2).mono ?_; rintro e w1 ⟨rfl, hq1⟩; obtain ⟨hc1, hf1, hz1⟩ := hq1.facts; try simp at hz1))
  all_goals go_wp2_with fail
  all_goals go_ret
  all_goals refine ⟨ret_int ?_, by repeat (first | exact Q.refl _ | assumption | refine Q.drew ?_ | refine Q.alloc ?_ _ | refine Q.trans ?_ (by assumption))⟩
  all_goals (show _ = nearS s b n; rw [← Hfin.out])
  all_goals clear Hfin hc1 hf1
  all_goals grind
end Go.Proofs.YtcjljmegppnlcaaDoor
