/- The numbers of types in plain Lean: ends, wrapping, the nearest number. Conditions: none. -/
import Derived.Laws.BitsAllLaws
import Derived.WalkArith
namespace Go.Proofs.YtcjljmegppnlcaaDoor.NP
open Go.RowKit

def p2 (b : Int) : Int := 2 ^ b.toNat
def lo (s : Bool) (b : Int) : Int := if s then -p2 (b - 1) else 0
def hi (s : Bool) (b : Int) : Int := if s then p2 (b - 1) - 1 else p2 b - 1
def vE (b : Int) : Int := if 1 ≤ b ∧ b ≤ 31 then 0 else 1
def fitsB (s : Bool) (b n : Int) : Bool := decide (lo s b ≤ n) && decide (n ≤ hi s b)
def wrapS (s : Bool) (b n : Int) : Int := if hi s b < n % p2 b then n % p2 b - p2 b else n % p2 b
def nearS (s : Bool) (b n : Int) : Int := if n < lo s b then lo s b else if hi s b < n then hi s b else n

theorem p2_succ (b : Int) (h : 1 ≤ b) : p2 b = 2 * p2 (b - 1) := by
  unfold p2
  have e : b.toNat = (b - 1).toNat + 1 := by omega
  rw [e, Int.pow_succ]; omega
theorem p2_pos (b : Int) : 1 ≤ p2 b := by
  unfold p2
  have : (0 : Int) < 2 ^ b.toNat := Int.pow_pos (by omega)
  omega
theorem p2_le (b : Int) (h : b ≤ 31) : p2 b ≤ 2147483648 := by
  unfold p2
  have h1 : 2 ^ b.toNat ≤ 2 ^ 31 := Nat.pow_le_pow_right (by omega) (by omega)
  have h2 : ((2 ^ b.toNat : Nat) : Int) ≤ ((2 ^ 31 : Nat) : Int) := by exact_mod_cast h1
  simpa using h2
theorem p2_bd (b : Int) (h1 : 1 ≤ b) (h2 : b ≤ 31) : p2 b = 2 * p2 (b - 1) ∧ 1 ≤ p2 (b - 1) ∧ p2 b ≤ 2147483648 :=
  ⟨p2_succ b h1, p2_pos _, p2_le b h2⟩
theorem sh1 (b : Int) (h1 : 1 ≤ b) (h2 : b ≤ 31) : wrap64 (2 ^ b.toNat) = p2 b := by
  have := p2_bd b h1 h2
  exact IntWalk.wrap64_in _ ⟨by unfold p2 at this; omega, by unfold p2 at this; omega⟩
theorem sh2 (b : Int) (h1 : 1 ≤ b) (h2 : b ≤ 31) : wrap64 (2 ^ (b.toNat - 1)) = p2 (b - 1) := by
  have := p2_bd b h1 h2
  have e : b.toNat - 1 = (b - 1).toNat := by omega
  rw [e]
  exact IntWalk.wrap64_in _ ⟨by unfold p2 at this; omega, by unfold p2 at this; omega⟩
theorem sh3 (b : Int) (h1 : 1 ≤ b) (h2 : b ≤ 31) : wrap64 (-2 ^ (b.toNat - 1)) = -p2 (b - 1) := by
  have := p2_bd b h1 h2
  have e : b.toNat - 1 = (b - 1).toNat := by omega
  rw [e]
  exact IntWalk.wrap64_in _ ⟨by unfold p2 at this; omega, by unfold p2 at this; omega⟩
theorem i64_wrap (n : Int) : IntKind.i64.wrap n = wrap64 n := by
  simp [IntKind.wrap, IntKind.bits, IntKind.signed, wrap64]
  split <;> omega
theorem and_mask (b n : Int) (h1 : 1 ≤ b) (h2 : b ≤ 31) : bits .and .i64 n (p2 b - 1) = n % p2 b := by
  have hb := p2_bd b h1 h2
  show IntKind.i64.wrap ((BitVec.ofInt 64 n &&& BitVec.ofInt 64 (p2 b - 1)).toNat : Int) = _
  rw [i64_wrap]
  obtain ⟨k, hk⟩ : ∃ k : Nat, b = k := ⟨b.toNat, by omega⟩
  subst hk
  have e1 : p2 (k : Int) - 1 = ((2 ^ k - 1 : Nat) : Int) := by
    unfold p2
    have : 1 ≤ 2 ^ k := Nat.one_le_two_pow
    rw [Int.natCast_sub this]; simp
  have hk31 : 2 ^ k ≤ 2 ^ 31 := Nat.pow_le_pow_right (by omega) (by omega)
  rw [e1, BitVec.ofInt_natCast, BitVec.toNat_and, BitVec.toNat_ofNat, Nat.mod_eq_of_lt (a := 2 ^ k - 1) (by omega), Nat.and_two_pow_sub_one_eq_mod, BitVec.toNat_ofInt]
  have e2 : (((n % ((2 ^ 64 : Nat) : Int)).toNat % 2 ^ k : Nat) : Int) = n % p2 k := by
    rw [Int.natCast_emod, Int.toNat_of_nonneg (Int.emod_nonneg _ (by decide))]
    have : ((2 ^ k : Nat) : Int) = p2 k := by unfold p2; simp
    rw [this]
    apply Int.emod_emod_of_dvd
    have h3 : (2 ^ k : Nat) ∣ 2 ^ 64 := Nat.pow_dvd_pow 2 (by omega)
    rw [← this]
    exact_mod_cast h3
  rw [e2]
  have h3 : 0 ≤ n % p2 k := Int.emod_nonneg _ (by omega)
  have h4 : n % p2 k < p2 k := Int.emod_lt_of_pos _ (by omega)
  exact IntWalk.wrap64_in _ ⟨by omega, by omega⟩
theorem lo_hi (s : Bool) (b : Int) (h1 : 1 ≤ b) (h2 : b ≤ 31) : -1073741824 ≤ lo s b ∧ lo s b ≤ 0 ∧ 0 ≤ hi s b ∧ hi s b ≤ 2147483647 ∧ hi s b - lo s b = p2 b - 1 := by
  have := p2_bd b h1 h2
  unfold lo hi
  cases s <;> simp <;> omega
theorem wrapS_bd (s : Bool) (b n : Int) (h1 : 1 ≤ b) (h2 : b ≤ 31) : lo s b ≤ wrapS s b n ∧ wrapS s b n ≤ hi s b := by
  have h := lo_hi s b h1 h2
  have hp := p2_bd b h1 h2
  have h3 : 0 ≤ n % p2 b := Int.emod_nonneg _ (by omega)
  have h4 : n % p2 b < p2 b := Int.emod_lt_of_pos _ (by omega)
  unfold wrapS
  split <;> omega
/-- an operation without a limit -/
def wholeI (op x y : Int) : Int :=
  if op = 5 ∨ op = 10 ∨ op = 13 then x + y else if op = 6 ∨ op = 11 ∨ op = 14 then x - y else if op = 7 ∨ op = 12 then x * y
  else if op = 8 then x.tdiv y else if op = 9 then x.tmod y else if op = 15 then bits .and .i64 x y else if op = 16 then bits .or .i64 x y else bits .xor .i64 x y
/-- an operation done: its result, and why there is none -/
def doN (op : Int) (s : Bool) (b x y : Int) : Int × Int :=
  if y = 0 ∧ op = 8 then (0, 2) else if y = 0 ∧ op = 9 then (x, 2)
  else if op = 10 ∨ op = 11 ∨ op = 12 ∨ 15 ≤ op then (wrapS s b (wholeI op x y), 0)
  else if op = 13 ∨ op = 14 then (nearS s b (wholeI op x y), 0)
  else if fitsB s b (wholeI op x y) = false ∨ (op = 9 ∧ fitsB s b (x.tdiv y) = false) then (wrapS s b (wholeI op x y), 1) else (wholeI op x y, 0)
theorem mul_bd (x y : Int) (h1 : -2147483648 ≤ x) (h2 : x ≤ 2147483647) (h3 : -2147483648 ≤ y) (h4 : y ≤ 2147483647) : -4611686018427387904 ≤ x * y ∧ x * y ≤ 4611686018427387904 := by
  have hx : x.natAbs ≤ 2147483648 := by omega
  have hy : y.natAbs ≤ 2147483648 := by omega
  have h := Nat.mul_le_mul hx hy
  rw [← Int.natAbs_mul] at h
  omega
theorem tdiv_bd (x y : Int) (h1 : -2147483648 ≤ x) (h2 : x ≤ 2147483647) : -2147483648 ≤ x.tdiv y ∧ x.tdiv y ≤ 2147483648 := by
  have h : (x.tdiv y).natAbs ≤ x.natAbs := by rw [Int.natAbs_tdiv]; exact Nat.div_le_self _ _
  omega
theorem tmod_bd (x y : Int) (h1 : -2147483648 ≤ x) (h2 : x ≤ 2147483647) : -2147483648 ≤ x.tmod y ∧ x.tmod y ≤ 2147483648 := by
  have h : (x.tmod y).natAbs ≤ x.natAbs := by rw [Int.natAbs_tmod]; exact Nat.mod_le _ _
  omega
theorem fitsB_bd {s : Bool} {b n : Int} (h1 : 1 ≤ b) (h2 : b ≤ 31) (h : fitsB s b n = true) : -1073741824 ≤ n ∧ n ≤ 2147483647 := by
  have hb := lo_hi s b h1 h2
  unfold fitsB at h
  simp at h
  omega
end Go.Proofs.YtcjljmegppnlcaaDoor.NP
