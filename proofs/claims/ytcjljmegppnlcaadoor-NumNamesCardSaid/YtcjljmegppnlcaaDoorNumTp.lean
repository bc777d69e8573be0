/- Numbers as texts, in plain Lean. Conditions: as each theorem says. -/
import Derived.Test.YtcjljmegppnlcaaDoorNumPlain
namespace Go.Proofs.YtcjljmegppnlcaaDoor
set_option linter.unusedVariables false
def dgt (k : Nat) : UInt8 := (#[48, 49, 50, 51, 52, 53, 54, 55, 56, 57, 97, 98, 99, 100, 101, 102] : Array UInt8).getD k 0
def txtN (b n : Nat) : List UInt8 := if h : 2 ≤ b ∧ b ≤ n then txtN b (n / b) ++ [dgt (n % b)] else [dgt n]
termination_by n
decreasing_by exact Nat.div_lt_self (by omega) (by omega)
theorem txtN_lo {b n : Nat} (h : n < b) : txtN b n = [dgt n] := by
  rw [txtN, dif_neg (by omega)]
theorem txtN_hi {b n : Nat} (hb : 2 ≤ b) (h : b ≤ n) : txtN b n = txtN b (n / b) ++ [dgt (n % b)] := by
  rw [txtN, dif_pos ⟨hb, h⟩]
theorem txtN_pos (b n : Nat) : 0 < (txtN b n).length := by
  rw [txtN]
  split <;> simp
theorem txtN_len {b : Nat} (hb : 2 ≤ b) : ∀ (k n : Nat), n < 2 ^ (k + 1) → (txtN b n).length ≤ k + 1
  | 0, n, h => by
    rw [txtN_lo (by omega)]
    simp
  | k + 1, n, h => by
    by_cases hn : n < b
    · rw [txtN_lo hn]; simp
    · rw [txtN_hi hb (by omega), List.length_append]
      have : n / b < 2 ^ (k + 1) := by
        have h1 : n / b ≤ n / 2 := Nat.div_le_div_left hb (by omega)
        have h2 : n / 2 < 2 ^ (k + 1) := by rw [Nat.div_lt_iff_lt_mul (by omega), ← Nat.pow_succ]; exact h
        omega
      have := txtN_len hb k _ this
      simp
      omega
def txtI (b : Nat) (n : Int) : List UInt8 := if n < 0 then 45 :: txtN b n.natAbs else txtN b n.toNat
/-- the value of a digit; 16 for none -/
def valN (c : UInt8) : Nat := if 48 ≤ c.toNat ∧ c.toNat ≤ 57 then c.toNat - 48 else if 97 ≤ c.toNat ∧ c.toNat ≤ 102 then c.toNat - 87 else 16
theorem val_dgt : ∀ k : Nat, k < 16 → valN (dgt k) = k := by decide
theorem dgt_ne : ∀ k : Nat, k < 16 → dgt k ≠ 45 := by decide
theorem dgt_lt : ∀ k : Nat, k < 16 → (dgt k).toNat < 128 := by decide
/-- digits one after another; none where one is none of the base, or the number before it is too great -/
def numDg (b : Nat) : Nat → List UInt8 → Option Nat
  | n, [] => some n
  | n, c :: r => if b ≤ valN c ∨ 1099511627776 < n then none else numDg b (n * b + valN c) r
theorem numDg_append (b : Nat) : ∀ (n : Nat) (l r : List UInt8), numDg b n (l ++ r) = (numDg b n l).bind fun m => numDg b m r
  | n, [], r => rfl
  | n, c :: l, r => by
    rw [List.cons_append, numDg, numDg]
    split
    · rfl
    · exact numDg_append b _ l r
theorem div_le_M {n b M : Nat} (h : n ≤ M * b) : n / b ≤ M := Nat.div_le_of_le_mul (by rw [Nat.mul_comm]; exact h)
theorem numDg_txt {b : Nat} (hb : 2 ≤ b) (hb2 : b ≤ 16) : ∀ (k n : Nat), n < 2 ^ k → n ≤ 1099511627776 * b → numDg b 0 (txtN b n) = some n
  | 0, n, h, hn => by
    have : n = 0 := by omega
    subst this
    rw [txtN_lo (by omega)]
    simp [numDg, val_dgt 0 (by omega)]
    omega
  | k + 1, n, h, hn => by
    by_cases hlo : n < b
    · rw [txtN_lo hlo]
      simp [numDg, val_dgt n (by omega)]
      omega
    · rw [txtN_hi hb (by omega), numDg_append]
      have h1 : n / b < 2 ^ k := by
        have h1 : n / b ≤ n / 2 := Nat.div_le_div_left hb (by omega)
        have h2 : n / 2 < 2 ^ k := by rw [Nat.div_lt_iff_lt_mul (by omega), ← Nat.pow_succ]; exact h
        omega
      have h3 : n / b ≤ 1099511627776 := div_le_M hn
      rw [numDg_txt hb hb2 k _ h1 (Nat.le_trans h3 (Nat.le_mul_of_pos_right _ (by omega)))]
      have h4 := Nat.mod_lt n (show b > 0 by omega)
      have h5 := Nat.div_add_mod n b
      simp only [Option.bind_some, numDg, val_dgt _ (show n % b < 16 by omega)]
      rw [if_neg (by omega)]
      rw [Nat.mul_comm, h5]
/-- a text without its sign -/
def tailS (l : List UInt8) : Bool × List UInt8 := match l with | 45 :: r => (true, r) | l => (false, l)
def signed (neg : Bool) (m : Nat) : Int := if neg then -(m : Int) else m
/-- the number of a text, and the error -/
def parseF (b : Nat) (l : List UInt8) : Int × Nat :=
  match numDg b 0 (tailS l).2 with
  | none => (0, 2)
  | some m => if 1099511627776 < m ∨ txtI b (signed (tailS l).1 m) ≠ l then (0, 2) else (signed (tailS l).1 m, 0)
end Go.Proofs.YtcjljmegppnlcaaDoor
