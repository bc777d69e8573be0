/- The walk of 'known'. Conditions: none. -/
import Derived.Test.YtcjljmegppnlcaaDoorNumF
namespace Go.Proofs.YtcjljmegppnlcaaDoor
open Go.RowKit NP
set_option linter.unusedVariables false
theorem known_any (w : World) : Calls Tryd.prog 8 #[] w fun e w' => e = .returned (.bool true) ∧ Q w w' := by
  have h1 := Do_any 5 false 8 200 100
  have h2 := Loose_any 8 true 8 (-128) (-1)
  rw [show doF 5 false 8 200 100 = (0, 1, 0) by decide +kernel] at h1
  rw [show looseF 8 true 8 (-128) (-1) = (-128, 0) by decide +kernel] at h2
  have H1 := hide h1
  have H2 := hide h2
  clear h1 h2
  go_enter Tryd.func8, Tryd.ntmps8
  go_wp2_with fail
  refine (H1.out _).mono ?_
  rintro e w1 ⟨rfl, hqw1⟩
  obtain ⟨hcw1, hfw1, hzw1⟩ := hqw1.facts
  try simp at hzw1
  try have hs0w1 : w.heap.size < w1.heap.size := by omega
  try have hs1w1 : w.heap.size + 1 < w1.heap.size := by omega
  go_wp2_with fail
  refine (H2.out _).mono ?_
  rintro e w2 ⟨rfl, hqw2⟩
  obtain ⟨hcw2, hfw2, hzw2⟩ := hqw2.facts
  try simp at hzw2
  try have hs0w2 : w.heap.size < w2.heap.size := by omega
  try have hs1w2 : w.heap.size + 1 < w2.heap.size := by omega
  go_wp2_with fail
  go_ret
  exact ⟨rfl, (by repeat (first | exact Q.refl _ | assumption | refine Q.drew ?_ | refine Q.drewN ?_ _ | refine Q.alloc ?_ _ | refine Q.set ?_ (by first | (simp; done) | (simp; omega) | omega) _ | refine Q.trans ?_ (by assumption)))⟩
end Go.Proofs.YtcjljmegppnlcaaDoor
