/- That the program's numbers are the reference's, in plain Lean. Conditions: none beyond what each theorem says. -/
import Derived.Test.YtcjljmegppnlcaaNumV
namespace Go.Proofs.Ytcjljmegppnlcaa
open Go.RowKit NP
set_option linter.unusedVariables false

theorem wrapS_congr (s : Bool) (b : Int) {m n : Int} (h : m % p2 b = n % p2 b) : wrapS s b m = wrapS s b n := by unfold wrapS; rw [h]

theorem bit_nat (z i : Nat) : (z : Int) / 2 ^ i % 2 = if z.testBit i then 1 else 0 := by
  rw [Nat.testBit_eq_decide_div_mod_eq]
  have e : (z : Int) / 2 ^ i % 2 = ((z / 2 ^ i % 2 : Nat) : Int) := by simp
  rw [e]
  have := Nat.mod_lt (z / 2 ^ i) (show 0 < 2 by omega)
  by_cases h : z / 2 ^ i % 2 = 1 <;> simp [h] <;> omega
theorem numL_snoc (l : List Int) (d : Int) : numL (l ++ [d]) = numL l + 2 ^ l.length * d := by
  induction l with
  | nil => simp [numL]
  | cons x l ih =>
    have e1 : numL (x :: l ++ [d]) = 2 * numL (l ++ [d]) + x := rfl
    have e2 : numL (x :: l) = 2 * numL l + x := rfl
    rw [e1, e2, ih, List.length_cons, Int.pow_succ, Int.mul_add]
    rw [Int.mul_comm (2 ^ l.length) 2, Int.mul_assoc]
    omega
theorem numL_bits (z : Nat) (k : Nat) : numL ((List.range k).map fun i => (z : Int) / 2 ^ i % 2) = ((z % 2 ^ k : Nat) : Int) := by
  induction k with
  | zero => simp [numL, Nat.mod_one]
  | succ k ih =>
    rw [List.range_succ, List.map_append, List.map_singleton, numL_snoc, ih]
    simp only [List.length_map, List.length_range]
    have e : (z : Int) / 2 ^ k % 2 = ((z / 2 ^ k % 2 : Nat) : Int) := by simp
    rw [e, Nat.mod_pow_succ]
    simp
/-- what is done at a bit is what is done at the numbers -/
theorem out_nat (op : Int) (f : Nat → Nat → Nat) (g : Bool → Bool → Bool) (hf : ∀ a c i, (f a c).testBit i = g (a.testBit i) (c.testBit i))
    (hg : ∀ p q : Bool, bitF op ((if p then 1 else 0) + (if q then 1 else 0)) = if g p q then 1 else 0) (k a c : Nat) :
    outL op k a c = (List.range k).map fun i => ((f a c : Nat) : Int) / 2 ^ i % 2 := by
  unfold outL
  apply List.map_congr_left
  intro i _
  rw [bit_nat, bit_nat, bit_nat, hf, ← hg]
theorem adj_nat (s : Bool) (b x : Int) (h1 : 1 ≤ b) (h2 : b ≤ 31) (h : fitsB s b x = true) : adj b x = ((x % (18446744073709551616 : Int)).toNat % 2 ^ b.toNat : Nat) := by
  obtain ⟨a1, a2⟩ := adj_bd s b x h1 h2 h
  have hp := p2_bd b h1 h2
  have e : p2 b = ((2 ^ b.toNat : Nat) : Int) := by unfold p2; simp
  have hd : p2 b ∣ (18446744073709551616 : Int) := by
    rw [e]
    have : (2 ^ b.toNat : Nat) ∣ 2 ^ 64 := Nat.pow_dvd_pow 2 (by omega)
    have h3 : (((2 ^ b.toNat : Nat) : Int)) ∣ ((2 ^ 64 : Nat) : Int) := by exact_mod_cast this
    simpa using h3
  rw [Int.natCast_emod, Int.toNat_of_nonneg (Int.emod_nonneg _ (by decide)), ← e, Int.emod_emod_of_dvd _ hd]
  have hm : x % p2 b = adj b x % p2 b := by
    unfold adj; split
    · rw [Int.add_emod_right]
    · rfl
  rw [hm, Int.emod_eq_of_lt a1 a2]
theorem bits_mod (b : Int) (z : Nat) (h1 : 1 ≤ b) (h2 : b ≤ 31) (hz : z < 2 ^ 64) : (IntKind.i64.wrap (z : Int)) % p2 b = ((z % 2 ^ b.toNat : Nat) : Int) := by
  have e : p2 b = ((2 ^ b.toNat : Nat) : Int) := by unfold p2; simp
  have hd : p2 b ∣ (18446744073709551616 : Int) := by
    rw [e]
    have : (2 ^ b.toNat : Nat) ∣ 2 ^ 64 := Nat.pow_dvd_pow 2 (by omega)
    have h3 : (((2 ^ b.toNat : Nat) : Int)) ∣ ((2 ^ 64 : Nat) : Int) := by exact_mod_cast this
    simpa using h3
  obtain ⟨q, hq⟩ := hd
  rw [Int.natCast_emod, ← e, i64_wrap]
  have hw : wrap64 (z : Int) = z ∨ wrap64 (z : Int) = z - 18446744073709551616 := by
    unfold wrap64
    have : (z : Int) < 18446744073709551616 := by
      have : ((z : Nat) : Int) < ((2 ^ 64 : Nat) : Int) := by exact_mod_cast hz
      simpa using this
    omega
  rcases hw with hw | hw
  · rw [hw]
  · rw [hw, hq]
    have : (z : Int) - p2 b * q = z + p2 b * (-q) := by rw [Int.mul_neg]; omega
    rw [this, Int.add_mul_emod_self_left]
theorem bw_eq (op : Int) (s : Bool) (b x y : Int) (h1 : 1 ≤ b) (h2 : b ≤ 31) (h3 : 15 ≤ op) (h4 : op ≤ 17) (hx : fitsB s b x = true) (hy : fitsB s b y = true) :
    bwF op s b x y = wrapS s b (wholeI op x y) := by
  unfold bwF
  apply wrapS_congr
  rw [adj_nat s b x h1 h2 hx, adj_nat s b y h1 h2 hy]
  have e : p2 b = ((2 ^ b.toNat : Nat) : Int) := by unfold p2; simp
  have hA : (x % (18446744073709551616 : Int)).toNat < 2 ^ 64 := by have := Int.emod_lt_of_pos x (show (0 : Int) < 18446744073709551616 by decide); have := Int.emod_nonneg x (show (18446744073709551616 : Int) ≠ 0 by decide); omega
  have hB : (y % (18446744073709551616 : Int)).toNat < 2 ^ 64 := by have := Int.emod_lt_of_pos y (show (0 : Int) < 18446744073709551616 by decide); have := Int.emod_nonneg y (show (18446744073709551616 : Int) ≠ 0 by decide); omega
  have eA : (BitVec.ofInt 64 x).toNat = (x % (18446744073709551616 : Int)).toNat := by rw [BitVec.toNat_ofInt]; rfl
  have eB : (BitVec.ofInt 64 y).toNat = (y % (18446744073709551616 : Int)).toNat := by rw [BitVec.toNat_ofInt]; rfl
  generalize (x % (18446744073709551616 : Int)).toNat = A at *
  generalize (y % (18446744073709551616 : Int)).toNat = B at *
  have hop : op = 15 ∨ op = 16 ∨ op = 17 := by omega
  rcases hop with rfl | rfl | rfl
  · have hw : wholeI 15 x y = IntKind.i64.wrap ((A &&& B : Nat) : Int) := by
      show IntKind.i64.wrap ((BitVec.ofInt 64 x &&& BitVec.ofInt 64 y).toNat : Int) = _
      rw [BitVec.toNat_and, eA, eB]
    rw [hw, bits_mod b _ h1 h2 (Nat.and_lt_two_pow _ hB), out_nat 15 (· &&& ·) (· && ·) (fun _ _ _ => Nat.testBit_and ..) (by decide), numL_bits, e, ← Nat.and_mod_two_pow, ← Int.natCast_emod, Nat.mod_mod, Nat.mod_mod]
  · have hw : wholeI 16 x y = IntKind.i64.wrap ((A ||| B : Nat) : Int) := by
      show IntKind.i64.wrap ((BitVec.ofInt 64 x ||| BitVec.ofInt 64 y).toNat : Int) = _
      rw [BitVec.toNat_or, eA, eB]
    rw [hw, bits_mod b _ h1 h2 (Nat.or_lt_two_pow hA hB), out_nat 16 (· ||| ·) (· || ·) (fun _ _ _ => Nat.testBit_or ..) (by decide), numL_bits, e, ← Nat.or_mod_two_pow, ← Int.natCast_emod, Nat.mod_mod, Nat.mod_mod]
  · have hw : wholeI 17 x y = IntKind.i64.wrap ((A ^^^ B : Nat) : Int) := by
      show IntKind.i64.wrap ((BitVec.ofInt 64 x ^^^ BitVec.ofInt 64 y).toNat : Int) = _
      rw [BitVec.toNat_xor, eA, eB]
    rw [hw, bits_mod b _ h1 h2 (Nat.xor_lt_two_pow hA hB), out_nat 17 (· ^^^ ·) (· ^^ ·) (fun _ _ _ => Nat.testBit_xor ..) (by decide), numL_bits, e, ← Nat.xor_mod_two_pow, ← Int.natCast_emod, Nat.mod_mod, Nat.mod_mod]

theorem fits_iff (s : Bool) (b n : Int) : fitsB s b n = true ↔ lo s b ≤ n ∧ n ≤ hi s b := by simp [fitsB]
theorem fits_not (s : Bool) (b n : Int) : fitsB s b n = false ↔ ¬ (lo s b ≤ n ∧ n ≤ hi s b) := by simp [fitsB]
/-- a remainder is between 0 and the number -/
theorem tmod_fits (s : Bool) (b x y : Int) (h1 : 1 ≤ b) (h2 : b ≤ 31) (hx : fitsB s b x = true) : fitsB s b (x.tmod y) = true := by
  have hb := lo_hi s b h1 h2
  rw [fits_iff] at *
  have h : (x.tmod y).natAbs ≤ x.natAbs := by rw [Int.natAbs_tmod]; exact Nat.mod_le _ _
  rcases Int.le_total 0 x with h0 | h0
  · have := Int.tmod_nonneg y h0; omega
  · have : x.tmod y ≤ 0 := by
      have h3 := Int.tmod_nonneg y (show 0 ≤ -x by omega)
      rw [Int.neg_tmod] at h3; omega
    omega
/-- a quotient that is no number of the type: the remainder is 0 -/
theorem tdiv_over (s : Bool) (b x y : Int) (h1 : 1 ≤ b) (h2 : b ≤ 31) (hx : fitsB s b x = true) (hy : fitsB s b y = true) (hz : y ≠ 0) (h : fitsB s b (x.tdiv y) = false) : x.tmod y = 0 := by
  have hb := lo_hi s b h1 h2
  have hp := p2_bd b h1 h2
  rw [fits_iff] at hx hy
  rw [fits_not] at h
  have hn : (x.tdiv y).natAbs = x.natAbs / y.natAbs := Int.natAbs_tdiv _ _
  by_cases hy1 : y = 1
  · subst hy1; simp
  by_cases hy2 : y = -1
  · subst hy2
    rw [Int.tmod_neg]; simp
  exfalso
  apply h
  have h2' : 2 ≤ y.natAbs := by omega
  have hle : x.natAbs / y.natAbs ≤ x.natAbs / 2 := Nat.div_le_div_left h2' (by omega)
  rcases Int.le_total 0 x with h0 | h0
  · rcases Int.le_total 0 y with h3 | h3
    · have := Int.tdiv_nonneg h0 h3
      omega
    · cases s
      · simp [lo] at hy; omega
      · have e : lo true b = -p2 (b - 1) := rfl
        have e2 : hi true b = p2 (b - 1) - 1 := rfl
        omega
  · cases s
    · have : x = 0 := by simp [lo] at hx; omega
      subst this
      simp at hn ⊢
      omega
    · have e : lo true b = -p2 (b - 1) := rfl
      have e2 : hi true b = p2 (b - 1) - 1 := rfl
      omega
theorem wrapS_zero (s : Bool) (b : Int) (h1 : 1 ≤ b) (h2 : b ≤ 31) : wrapS s b 0 = 0 := by
  have hb := lo_hi s b h1 h2
  unfold wrapS
  rw [Int.zero_emod, if_neg (by omega)]

theorem both (op : Int) (s : Bool) (b x y : Int) (ha : askB op s b x y = true) :
    (if (doN op s b x y).2 = 0 then ((doN op s b x y).1, 0, 0) else (0, (doN op s b x y).2, 0)) = ((resF op s b x y).1, (resF op s b x y).2, (0 : Int)) ∧ (doN op s b x y).1 = freeF op s b x y := by
  obtain ⟨⟨h1, h2⟩, ⟨h3, h4⟩, hx, hy⟩ := askB_parts ha
  by_cases h15 : 15 ≤ op
  · have e1 : doN op s b x y = (wrapS s b (wholeI op x y), 0) := by
      unfold doN
      rw [if_neg (by omega), if_neg (by omega), if_pos (by omega)]
    have e2 : resF op s b x y = (bwF op s b x y, 0) := by unfold resF; rw [if_pos h15]
    unfold freeF
    rw [e1, e2, bw_eq op s b x y h1 h2 h15 h4 hx hy]
    simp
  · have hop : op = 5 ∨ op = 6 ∨ op = 7 ∨ op = 8 ∨ op = 9 ∨ op = 10 ∨ op = 11 ∨ op = 12 ∨ op = 13 ∨ op = 14 := by omega
    clear h3 h4 h15 ha
    rcases hop with rfl | rfl | rfl | rfl | rfl | rfl | rfl | rfl | rfl | rfl
    · cases hf : fitsB s b (x + y) <;> simp [doN, resF, freeF, exF, wholeI, hf]
    · cases hf : fitsB s b (x - y) <;> simp [doN, resF, freeF, exF, wholeI, hf]
    · cases hf : fitsB s b (x * y) <;> simp [doN, resF, freeF, exF, wholeI, hf]
    · by_cases hz : y = 0
      · simp [doN, resF, freeF, exF, wholeI, hz]
      · cases hf : fitsB s b (x.tdiv y) <;> simp [doN, resF, freeF, exF, wholeI, hf, hz]
    · by_cases hz : y = 0
      · simp [doN, resF, freeF, exF, wholeI, hz]
      · have ht := tmod_fits s b x y h1 h2 hx
        have hd : x - x.tdiv y * y = x.tmod y := by rw [Int.tmod_def, Int.mul_comm]
        cases hf : fitsB s b (x.tdiv y)
        · have h0 := tdiv_over s b x y h1 h2 hx hy hz hf
          have hw := wrapS_zero s b h1 h2
          simp [doN, resF, freeF, exF, wholeI, hf, hz, ht, h0, hw]
        · simp [doN, resF, freeF, exF, wholeI, hf, hz, ht, hd]
    · simp [doN, resF, freeF, exF, wholeI]
    · simp [doN, resF, freeF, exF, wholeI]
    · simp [doN, resF, freeF, exF, wholeI]
    · simp [doN, resF, freeF, exF, wholeI]
    · simp [doN, resF, freeF, exF, wholeI]
theorem do_eq (op : Int) (s : Bool) (b x y : Int) : doF op s b x y = rdoF op s b x y := by
  unfold doF rdoF
  cases ha : askB op s b x y
  · simp
  · rw [if_pos rfl, if_pos rfl]; exact (both op s b x y ha).1
theorem loose_eq (op : Int) (s : Bool) (b x y : Int) : looseF op s b x y = rlooseF op s b x y := by
  unfold looseF rlooseF
  cases ha : askB op s b x y
  · simp
  · rw [if_pos rfl, if_pos rfl, (both op s b x y ha).2]
end Go.Proofs.Ytcjljmegppnlcaa
