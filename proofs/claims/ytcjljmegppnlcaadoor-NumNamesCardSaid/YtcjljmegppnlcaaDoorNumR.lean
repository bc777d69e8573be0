/- The walks of the reference's small functions on numbers. Conditions: as each theorem says. -/
import Derived.Test.YtcjljmegppnlcaaDoorNumC
import Derived.LoopTactic
namespace Go.Proofs.YtcjljmegppnlcaaDoor
open Go.RowKit NP
set_option linter.unusedVariables false

def withinB (n l h : Int) : Bool := decide (l ≤ n) && decide (n ≤ h)
theorem Within_any (n l h : Int) (w : World) :
    Calls Tryd.prog 17 #[.int .i64 n, .int .i64 l, .int .i64 h] w fun e w' => e = .returned (.bool (withinB n l h)) ∧ w = w' := by
  by_cases h1 : l ≤ n
  · go_enter Tryd.func17, Tryd.ntmps17
    go_wp2_with fail
    go_ret
    exact ⟨by simp [withinB, h1], rfl⟩
  · go_enter Tryd.func17, Tryd.ntmps17
    go_wp2_with fail
    go_ret
    exact ⟨by simp [withinB]; omega, rfl⟩

theorem rValidate_ok (s : Bool) (b : Int) (w : World) (h1 : 1 ≤ b) (h2 : b ≤ 31) :
    Calls Tryd.prog 11 #[.agg #[.bool s, .int .i64 b]] w fun e w' => e = .returned (.int .i64 0) ∧ Q w w' := by
  have hw : withinB b 1 31 = true := by simp [withinB, h1, h2]
  go_enter Tryd.func11, Tryd.ntmps11
  go_wp2_with fail
  refine (Within_any _ _ _ _).mono ?_
  rintro e w1 ⟨rfl, rfl⟩
  go_wp2_with fail
  go_ret
  exact ⟨rfl, (by repeat (first | exact Q.refl _ | assumption | refine Q.drew ?_ | refine Q.drewN ?_ _ | refine Q.alloc ?_ _ | refine Q.set ?_ (by first | (simp; done) | (simp; omega) | omega) _ | refine Q.trans ?_ (by assumption)))⟩
theorem rValidate_bad (s : Bool) (b : Int) (w : World) (h : ¬ (1 ≤ b ∧ b ≤ 31)) :
    Calls Tryd.prog 11 #[.agg #[.bool s, .int .i64 b]] w fun e w' => e = .returned (.int .i64 1) ∧ Q w w' := by
  have hw : withinB b 1 31 = false := by simp [withinB]; omega
  clear h
  go_enter Tryd.func11, Tryd.ntmps11
  go_wp2_with fail
  refine (Within_any _ _ _ _).mono ?_
  rintro e w1 ⟨rfl, rfl⟩
  go_wp2_with fail
  go_ret
  exact ⟨rfl, (by repeat (first | exact Q.refl _ | assumption | refine Q.drew ?_ | refine Q.drewN ?_ _ | refine Q.alloc ?_ _ | refine Q.set ?_ (by first | (simp; done) | (simp; omega) | omega) _ | refine Q.trans ?_ (by assumption)))⟩

theorem p2_step (k : Nat) : p2 ((k : Int) + 1) = 2 * p2 (k : Int) := by
  have := p2_succ ((k : Int) + 1) (by omega)
  rwa [show (k : Int) + 1 - 1 = (k : Int) by omega] at this

theorem fitsB_within (s : Bool) (b n : Int) : withinB n (lo s b) (hi s b) = fitsB s b n := rfl
/-- what Bent does is what wrapping is -/
theorem bent_eq (s : Bool) (b n : Int) (h1 : 1 ≤ b) (h2 : b ≤ 31) :
    (if s = true ∧ p2 b / 2 ≤ (if n.tmod (p2 b) < 0 then n.tmod (p2 b) + p2 b else n.tmod (p2 b)) then (if n.tmod (p2 b) < 0 then n.tmod (p2 b) + p2 b else n.tmod (p2 b)) - p2 b
      else (if n.tmod (p2 b) < 0 then n.tmod (p2 b) + p2 b else n.tmod (p2 b))) = wrapS s b n := by
  obtain ⟨b1, b2, b3⟩ := p2_bd b h1 h2
  have e : (if n.tmod (p2 b) < 0 then n.tmod (p2 b) + p2 b else n.tmod (p2 b)) = n % p2 b := by
    have h3 : 0 ≤ n % p2 b := Int.emod_nonneg _ (by omega)
    have h4 : n % p2 b < p2 b := Int.emod_lt_of_pos _ (by omega)
    rw [Int.tmod_eq_emod]
    have hn : (p2 b).natAbs = (p2 b).toNat := by omega
    split <;> split <;> omega
  rw [e]
  have h3 : 0 ≤ n % p2 b := Int.emod_nonneg _ (by omega)
  have h4 : n % p2 b < p2 b := Int.emod_lt_of_pos _ (by omega)
  unfold wrapS hi
  cases s
  · simp; omega
  · simp only [true_and, if_true]
    by_cases hc : p2 b / 2 ≤ n % p2 b
    · rw [if_pos hc, if_pos (by omega)]
    · rw [if_neg hc, if_neg (by omega)]
end Go.Proofs.YtcjljmegppnlcaaDoor
