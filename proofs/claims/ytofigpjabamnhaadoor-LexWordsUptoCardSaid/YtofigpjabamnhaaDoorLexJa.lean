/- The walk of the law's Long: too many tokens, or too long ones. Conditions: no text is immense. -/
import Derived.Test.YtofigpjabamnhaaDoorLexK
namespace Go.Proofs.YtofigpjabamnhaaDoor
open Go.RowKit LX
set_option linter.unusedVariables false
/-- the texts' bytes together -/
def sumG (ks : List G) : Nat := (ks.map fun g => g.2.2.size).sum
theorem sumG_append (a b : List G) : sumG (a ++ b) = sumG a + sumG b := by simp [sumG]
theorem sumG_step (ks : List G) (i : Nat) (g : G) (h : ks[i]? = some g) : sumG (ks.take (i + 1)) = sumG (ks.take i) + g.2.2.size := by
  rw [List.take_add_one, h, sumG_append]
  simp [sumG]
theorem sumG_mem {ks : List G} {g : G} (h : g ∈ ks) : g.2.2.size ≤ sumG ks := by
  induction ks with
  | nil => cases h
  | cons a r ih =>
    have e : sumG (a :: r) = a.2.2.size + sumG r := by simp [sumG]
    rcases List.mem_cons.1 h with rfl | h
    · omega
    · have := ih h
      omega
end Go.Proofs.YtofigpjabamnhaaDoor
