/- The walk of the program's has. Conditions: the object reads as such. -/
import Derived.Test.YtiilkiggfjpibaaLinkVf
namespace Go.Proofs.Ytiilkiggfjpibaa
open Go.RowKit LK
set_option linter.unusedVariables false
set_option linter.unusedSimpArgs false
set_option maxRecDepth 100000 in
set_option maxHeartbeats 1000000 in
theorem has_any (o : OV) (nm : ByteArray) (w : World) (ho : ObR w o) (hn : o.2.1.n ≤ 1000) : Calls Try.prog 86 #[obV o, .string nm] w fun e w' => e = .returned (.bool (o.2.1.xs.any fun y => y.1.toList == nm.toList)) ∧ Q w w' := by
  obtain ⟨⟨A0, n0, c0, bs⟩, ⟨A1, n1, c1, ss⟩, ⟨A2, n2, c2, ws⟩⟩ := o
  dsimp only at hn ⊢
  obtain ⟨w2, hw2⟩ : ∃ w2, (w.alloc (.cells #[.slice A0 n0 c0, .slice A1 n1 c1, .slice A2 n2 c2] 34)).alloc (.cells #[.string nm] 9) = w2 := ⟨_, rfl⟩
  have hq2 : Q w w2 := by rw [← hw2]; exact ((Q.refl w).alloc _).alloc _
  have k1 : w2.cell? ⟨w.heap.size, 1, none⟩ = some (.slice A1 n1 c1) := by rw [← hw2]; simp
  have kn : w2.cell? ⟨w.heap.size + 1, 0, none⟩ = some (.string nm) := by rw [← hw2]; simp
  have hs2 : w.heap.size + 1 < w2.heap.size := by rw [← hw2]; simp
  have HC := hide (has_has (fun y => y.1.toList == nm.toList) (.pointer (some ⟨w.heap.size + 1, 0, none⟩)) A1 n1 c1 ss w2 (ho.up hq2).s (by omega) (fun a b _ W hW => hasC (w.heap.size + 1) (a, b) nm W (by have := hW.size; omega) ((hW.facts.1 _ 0 hs2).trans kn)))
  have HW2 := hide hw2
  have HQ2 := hide hq2
  clear hw2 hq2
  unfold obV SlV.val
  dsimp only
  clear ho
  go_enter Try.func86, Try.ntmps86
  go_wp2_with fail
  rw [HW2.out]
  refine HC.out.mono ?_
  rintro e w3 ⟨rfl, hq3⟩
  go_wp2_with fail
  go_ret
  exact ⟨rfl, HQ2.out.trans hq3⟩
end Go.Proofs.Ytiilkiggfjpibaa
