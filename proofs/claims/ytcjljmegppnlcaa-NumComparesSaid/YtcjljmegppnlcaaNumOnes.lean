/- How many bits are 1: the library's way, by fields of two, four and eight bits, comes to the number of bits, for 32 bits. Conditions: the number is below 2^32. -/
import Derived.KernelRfl
import Derived.Laws.BitsAllLaws
namespace Go.Proofs.Ytcjljmegppnlcaa.Ones

theorem and_split (p q : Nat) : p &&& q = (p % 256 &&& q % 256) + 256 * (p / 256 &&& q / 256) := by
  have h1 : (p &&& q) % 2 ^ 8 = p % 2 ^ 8 &&& q % 2 ^ 8 := Nat.and_mod_two_pow ..
  have h2 : (p &&& q) / 2 ^ 8 = p / 2 ^ 8 &&& q / 2 ^ 8 := Nat.and_div_two_pow ..
  have h3 := Nat.mod_add_div (p &&& q) (2 ^ 8)
  rw [h1, h2] at h3
  exact h3.symm
def st1 (x m : Nat) : Nat := (x / 2 &&& m) + (x &&& m)
def st2 (x m : Nat) : Nat := (x / 4 &&& m) + (x &&& m)
def st3 (x m : Nat) : Nat := x / 16 + x &&& m
theorem low1 : ∀ a : Fin 256, ∀ c : Fin 2, ((a.1 / 2 + 128 * c.1) &&& 85) = (a.1 / 2 &&& 85) := by decide +kernel
theorem low2 : ∀ a : Fin 256, ∀ c : Fin 4, ((a.1 / 4 + 64 * c.1) &&& 51) = (a.1 / 4 &&& 51) := by decide +kernel
theorem low3 : ∀ a : Fin 69, ∀ c : Fin 5, ((a.1 / 16 + a.1 + 16 * c.1) &&& 15) = (a.1 / 16 + a.1 &&& 15) := by decide +kernel
theorem st1_step (a b M : Nat) (ha : a < 256) : st1 (a + 256 * b) (85 + 256 * M) = st1 a 85 + 256 * st1 b M := by
  unfold st1
  rw [and_split ((a + 256 * b) / 2), and_split (a + 256 * b)]
  have e1 : (a + 256 * b) / 2 % 256 = a / 2 + 128 * (b % 2) := by omega
  have e2 : (a + 256 * b) / 2 / 256 = b / 2 := by omega
  have e3 : (85 + 256 * M) % 256 = 85 := by omega
  have e4 : (85 + 256 * M) / 256 = M := by omega
  have e5 : (a + 256 * b) % 256 = a := by omega
  have e6 : (a + 256 * b) / 256 = b := by omega
  rw [e1, e2, e3, e4, e5, e6]
  have := low1 ⟨a, ha⟩ ⟨b % 2, by omega⟩
  simp only at this
  rw [this]
  omega
theorem st2_step (a b M : Nat) (ha : a < 256) : st2 (a + 256 * b) (51 + 256 * M) = st2 a 51 + 256 * st2 b M := by
  unfold st2
  rw [and_split ((a + 256 * b) / 4), and_split (a + 256 * b)]
  have e1 : (a + 256 * b) / 4 % 256 = a / 4 + 64 * (b % 4) := by omega
  have e2 : (a + 256 * b) / 4 / 256 = b / 4 := by omega
  have e3 : (51 + 256 * M) % 256 = 51 := by omega
  have e4 : (51 + 256 * M) / 256 = M := by omega
  have e5 : (a + 256 * b) % 256 = a := by omega
  have e6 : (a + 256 * b) / 256 = b := by omega
  rw [e1, e2, e3, e4, e5, e6]
  have := low2 ⟨a, ha⟩ ⟨b % 4, by omega⟩
  simp only at this
  rw [this]
  omega
theorem st3_step (a b M : Nat) (ha : a < 69) (hb : b % 16 < 5) : st3 (a + 256 * b) (15 + 256 * M) = st3 a 15 + 256 * st3 b M := by
  unfold st3
  rw [and_split]
  have e1 : ((a + 256 * b) / 16 + (a + 256 * b)) % 256 = a / 16 + a + 16 * (b % 16) := by omega
  have e2 : ((a + 256 * b) / 16 + (a + 256 * b)) / 256 = b / 16 + b := by omega
  have e3 : (15 + 256 * M) % 256 = 15 := by omega
  have e4 : (15 + 256 * M) / 256 = M := by omega
  rw [e1, e2, e3, e4]
  have := low3 ⟨a, ha⟩ ⟨b % 16, hb⟩
  simp only at this
  rw [this]
def b1 (x : Nat) : Nat := st1 x 85
def b2 (x : Nat) : Nat := st2 (b1 x) 51
def b3 (x : Nat) : Nat := st3 (b2 x) 15
def cnt (k x : Nat) : Nat := ((List.range k).map fun i => x / 2 ^ i % 2).sum
theorem byte : ∀ x : Fin 256, b1 x.1 < 256 ∧ b2 x.1 < 69 ∧ b2 x.1 % 16 < 5 ∧ b3 x.1 = cnt 8 x.1 ∧ cnt 8 x.1 ≤ 8 := by decide +kernel
theorem st1_last (x M : Nat) (hx : x < 256) : st1 x (85 + 256 * M) = b1 x := by
  have := st1_step x 0 M hx
  simpa [st1, b1] using this
theorem st2_last (x M : Nat) (hx : x < 256) : st2 x (51 + 256 * M) = st2 x 51 := by
  have := st2_step x 0 M hx
  simpa [st2] using this
theorem st3_last (x M : Nat) (hx : x < 69) : st3 x (15 + 256 * M) = st3 x 15 := by
  have := st3_step x 0 M hx (by omega)
  simpa [st3] using this
theorem fields (x0 x1 x2 x3 : Nat) (h0 : x0 < 256) (h1 : x1 < 256) (h2 : x2 < 256) (h3 : x3 < 256) :
    st3 (st2 (st1 (x0 + 256 * (x1 + 256 * (x2 + 256 * x3))) 6148914691236517205) 3689348814741910323) 1085102592571150095 = b3 x0 + 256 * (b3 x1 + 256 * (b3 x2 + 256 * b3 x3)) := by
  have a0 := byte ⟨x0, h0⟩
  have a1 := byte ⟨x1, h1⟩
  have a2 := byte ⟨x2, h2⟩
  have a3 := byte ⟨x3, h3⟩
  simp only at a0 a1 a2 a3
  have s1 : st1 (x0 + 256 * (x1 + 256 * (x2 + 256 * x3))) 6148914691236517205 = b1 x0 + 256 * (b1 x1 + 256 * (b1 x2 + 256 * b1 x3)) := by
    rw [show 6148914691236517205 = 85 + 256 * (85 + 256 * (85 + 256 * (85 + 256 * 1431655765))) by omega, st1_step _ _ _ h0, st1_step _ _ _ h1, st1_step _ _ _ h2, st1_last _ _ h3]
    rfl
  have s2 : st2 (b1 x0 + 256 * (b1 x1 + 256 * (b1 x2 + 256 * b1 x3))) 3689348814741910323 = b2 x0 + 256 * (b2 x1 + 256 * (b2 x2 + 256 * b2 x3)) := by
    rw [show 3689348814741910323 = 51 + 256 * (51 + 256 * (51 + 256 * (51 + 256 * 858993459))) by omega, st2_step _ _ _ a0.1, st2_step _ _ _ a1.1, st2_step _ _ _ a2.1, st2_last _ _ a3.1]
    rfl
  rw [s1, s2, show 1085102592571150095 = 15 + 256 * (15 + 256 * (15 + 256 * (15 + 256 * 252645135))) by omega,
    st3_step _ _ _ a0.2.1 (by omega), st3_step _ _ _ a1.2.1 (by omega), st3_step _ _ _ a2.2.1 (by omega), st3_last _ _ a3.2.1]
  rfl
theorem cnt_add (j k x : Nat) : cnt (j + k) x = cnt j x + cnt k (x / 2 ^ j) := by
  unfold cnt
  rw [List.range_add, List.map_append, List.sum_append, List.map_map]
  congr 2
  apply List.map_congr_left
  intro i _
  simp only [Function.comp]
  rw [Nat.div_div_eq_div_mul, Nat.pow_add]
theorem cnt_low (j x y : Nat) : cnt j (x + 2 ^ j * y) = cnt j x := by
  unfold cnt
  congr 1
  apply List.map_congr_left
  intro i hi
  have hij : i < j := List.mem_range.1 hi
  obtain ⟨d, rfl⟩ : ∃ d, j = i + (d + 1) := ⟨j - i - 1, by omega⟩
  rw [Nat.pow_add, Nat.mul_assoc, Nat.add_mul_div_left _ _ (Nat.two_pow_pos i), Nat.pow_succ]
  have : 2 ^ d * 2 * y = 2 * (2 ^ d * y) := by rw [Nat.mul_comm (2 ^ d) 2, Nat.mul_assoc]
  rw [this]
  omega
theorem cnt_zero (k : Nat) : cnt k 0 = 0 := by
  unfold cnt
  induction k with
  | zero => rfl
  | succ k ih => rw [List.range_succ, List.map_append, List.sum_append, ih]; simp
/-- the library's way, and the number of bits -/
theorem ones (x k : Nat) (hx : x < 2 ^ k) (hk : k ≤ 32) :
    (st3 (st2 (st1 x 6148914691236517205) 3689348814741910323) 1085102592571150095 ≤ 134744072) ∧
    (∀ s3 s4 s5 s6 : Nat, s3 = st3 (st2 (st1 x 6148914691236517205) 3689348814741910323) 1085102592571150095 → s4 = s3 + s3 / 256 → s5 = s4 + s4 / 65536 → s6 = s5 + s5 / 4294967296 → s6 % 128 = cnt k x) := by
  have hx32 : x < 4294967296 := Nat.lt_of_lt_of_le hx (Nat.pow_le_pow_right (by omega) hk)
  obtain ⟨x0, x1, x2, x3, h0, h1, h2, h3, rfl⟩ : ∃ x0 x1 x2 x3, x0 < 256 ∧ x1 < 256 ∧ x2 < 256 ∧ x3 < 256 ∧ x = x0 + 256 * (x1 + 256 * (x2 + 256 * x3)) :=
    ⟨x % 256, x / 256 % 256, x / 65536 % 256, x / 16777216, by omega, by omega, by omega, by omega, by omega⟩
  have a0 := byte ⟨x0, h0⟩
  have a1 := byte ⟨x1, h1⟩
  have a2 := byte ⟨x2, h2⟩
  have a3 := byte ⟨x3, h3⟩
  simp only at a0 a1 a2 a3
  rw [fields x0 x1 x2 x3 h0 h1 h2 h3]
  obtain ⟨_, _, _, c0, d0⟩ := a0
  obtain ⟨_, _, _, c1, d1⟩ := a1
  obtain ⟨_, _, _, c2, d2⟩ := a2
  obtain ⟨_, _, _, c3, d3⟩ := a3
  have hc : cnt k (x0 + 256 * (x1 + 256 * (x2 + 256 * x3))) = cnt 8 x0 + cnt 8 x1 + cnt 8 x2 + cnt 8 x3 := by
    have e : cnt 32 (x0 + 256 * (x1 + 256 * (x2 + 256 * x3))) = cnt k (x0 + 256 * (x1 + 256 * (x2 + 256 * x3))) := by
      rw [show 32 = k + (32 - k) by omega, cnt_add, Nat.div_eq_of_lt hx, cnt_zero]; rfl
    rw [← e, show 32 = 8 + (8 + (8 + 8)) by omega, cnt_add, cnt_add, cnt_add]
    have f0 : (x0 + 256 * (x1 + 256 * (x2 + 256 * x3))) / 2 ^ 8 = x1 + 256 * (x2 + 256 * x3) := by omega
    have f1 : (x1 + 256 * (x2 + 256 * x3)) / 2 ^ 8 = x2 + 256 * x3 := by omega
    have f2 : (x2 + 256 * x3) / 2 ^ 8 = x3 := by omega
    rw [f0, f1, f2]
    have g0 := cnt_low 8 x0 (x1 + 256 * (x2 + 256 * x3))
    have g1 := cnt_low 8 x1 (x2 + 256 * x3)
    have g2 := cnt_low 8 x2 x3
    simp only [Nat.reducePow] at g0 g1 g2
    rw [g0, g1, g2]
    omega
  rw [hc]
  generalize b3 x0 = p0 at *
  generalize b3 x1 = p1 at *
  generalize b3 x2 = p2 at *
  generalize b3 x3 = p3 at *
  constructor
  · omega
  · intro s3 s4 s5 s6 e3 e4 e5 e6
    have q4 : s4 = p0 + p1 + 256 * (p1 + p2 + 256 * (p2 + p3 + 256 * p3)) := by omega
    have q5 : s5 = p0 + p1 + p2 + p3 + 256 * (p1 + p2 + p3) + 65536 * (p2 + p3 + 256 * p3) := by omega
    have q6 : s6 = s5 := by omega
    omega
end Go.Proofs.Ytcjljmegppnlcaa.Ones
