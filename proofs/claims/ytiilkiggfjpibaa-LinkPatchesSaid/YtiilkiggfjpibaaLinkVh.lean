/- A list of objects with one exchanged, in new memory: it reads as such. Conditions: as each theorem says. -/
import Derived.Test.YtiilkiggfjpibaaLinkVg
namespace Go.Proofs.Ytiilkiggfjpibaa
open Go.RowKit LK
set_option linter.unusedVariables false
set_option linter.unusedSimpArgs false
theorem obs_with {w : World} {B : Nat} {A V : Option Addr} {n c cv i : Nat} {os : List OV} {o : OV} (hv : w.ownsRow B 34 3 (.slice V n cv) n ((os.set i o).flatMap encO)) (hO : ObsR w A n c os) (ho : ObR w o) : ObsR w V n cv (os.set i o) := by
  refine ⟨Sl.own hv (fun _ => rfl) (by decide), own_nl hv, fun p hp => ?_⟩
  rcases List.mem_or_eq_of_mem_set hp with h | h
  · exact hO.all p h
  · rw [h]; exact ho
theorem valid_set {os : List OV} {o : OV} {i : Nat} (h : ∀ p ∈ os, p.valid = 0) (ho : o.valid = 0) : ∀ p ∈ os.set i o, p.valid = 0 := fun p hp => by
  rcases List.mem_or_eq_of_mem_set hp with h1 | h1
  · exact h p h1
  · rw [h1]; exact ho
/-- what the reference's can says -/
def canB (os : List OV) (i : Nat) (o p : OV) : Bool := room o.1.n == room p.1.n && (!dupB [] (namesF (os.set i o)) && (putT (missL (tabF 0 0 (os.set i o)) (os.set i o))).isEmpty)
end Go.Proofs.Ytiilkiggfjpibaa
