/- Names of types, in plain Lean. Conditions: as each theorem says. -/
import Derived.Test.YtcjljmegppnlcaaDoorNumTh
namespace Go.Proofs.YtcjljmegppnlcaaDoor
open Go.RowKit NP
set_option linter.unusedVariables false
def nameL (s : Bool) (k : Nat) : List UInt8 := (if s then 105 else 117) :: txtN 10 k
theorem txtN_inj {j k : Nat} (hj : j ≤ 31) (hk : k ≤ 31) (h : txtN 10 j = txtN 10 k) : j = k := by
  have e1 := parse_txt (b := 10) (n := (j : Int)) (by omega) (by omega) (by omega) (by omega)
  have e2 := parse_txt (b := 10) (n := (k : Int)) (by omega) (by omega) (by omega) (by omega)
  rw [txtI_nat] at e1 e2
  rw [h, e2] at e1
  have := congrArg Prod.fst e1
  simp at this
  omega
theorem nameL_inj {s t : Bool} {j k : Nat} (hj : j ≤ 31) (hk : k ≤ 31) (h : nameL s j = nameL t k) : s = t ∧ j = k := by
  unfold nameL at h
  injection h with h1 h2
  refine ⟨?_, txtN_inj hj hk h2⟩
  cases s <;> cases t <;> simp_all
/-- the type with a name, or none -/
def ReadR (l : List UInt8) (s : Bool) (b : Int) (er : Nat) : Prop :=
  (er = 0 ∧ ∃ k : Nat, b = (k : Int) ∧ 1 ≤ k ∧ k ≤ 31 ∧ l = nameL s k) ∨ (er = 2 ∧ s = false ∧ b = 0 ∧ ∀ (t : Bool) (k : Nat), 1 ≤ k → k ≤ 31 → l ≠ nameL t k)
theorem ReadR.eq {l : List UInt8} {s t : Bool} {a b : Int} {e f : Nat} (h : ReadR l s a e) (k : ReadR l t b f) : s = t ∧ a = b ∧ e = f := by
  rcases h with ⟨rfl, j, rfl, h1, h2, h3⟩ | ⟨rfl, rfl, rfl, h3⟩ <;> rcases k with ⟨rfl, i, rfl, k1, k2, k3⟩ | ⟨rfl, rfl, rfl, k3⟩
  · obtain ⟨e1, e2⟩ := nameL_inj h2 k2 (h3.symm.trans k3)
    subst e2
    exact ⟨e1, rfl, rfl⟩
  · exact absurd h3 (k3 s j h1 h2)
  · exact absurd k3 (h3 t i k1 k2)
  · exact ⟨rfl, rfl, rfl⟩
theorem read_ok {c : UInt8} {r : List UInt8} {s : Bool} (hc : c = if s then 105 else 117) (h2 : (parseF 10 r).2 = 0) (h3 : 1 ≤ (parseF 10 r).1) (h4 : (parseF 10 r).1 ≤ 31) : ReadR (c :: r) s (parseF 10 r).1 0 := by
  refine .inl ⟨rfl, (parseF 10 r).1.toNat, by omega, by omega, by omega, ?_⟩
  rcases parse_back 10 r with ⟨_, _, _, h⟩ | ⟨h, _⟩
  · unfold nameL
    rw [hc]
    congr 1
    rw [← txtI_nat, show (((parseF 10 r).1.toNat : Nat) : Int) = (parseF 10 r).1 by omega]
    exact h.symm
  · rw [h] at h2; cases h2
theorem read_bad {l : List UInt8} (h : ∀ (s : Bool) (r : List UInt8), l = (if s then 105 else 117) :: r → ¬ ((parseF 10 r).2 = 0 ∧ 1 ≤ (parseF 10 r).1 ∧ (parseF 10 r).1 ≤ 31)) : ReadR l false 0 2 := by
  refine .inr ⟨rfl, rfl, rfl, fun t k h1 h2 e => ?_⟩
  refine h t (txtN 10 k) e ?_
  have e1 := parse_txt (b := 10) (n := (k : Int)) (by omega) (by omega) (by omega) (by omega)
  rw [txtI_nat] at e1
  rw [e1]
  exact ⟨rfl, by show (1 : Int) ≤ (k : Int); omega, by show (k : Int) ≤ 31; omega⟩
end Go.Proofs.YtcjljmegppnlcaaDoor
