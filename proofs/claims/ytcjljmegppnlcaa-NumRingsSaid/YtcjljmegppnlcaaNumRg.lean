/- The walk of the law NumRings: it returns true. Conditions: none. -/
import Derived.Test.YtcjljmegppnlcaaNumW
import Derived.Test.YtcjljmegppnlcaaNumY
namespace Go.Proofs.Ytcjljmegppnlcaa
open Go.RowKit NP
set_option linter.unusedVariables false

theorem wrapS_mod (s : Bool) (b n : Int) (h1 : 1 ≤ b) (h2 : b ≤ 31) : wrapS s b n % p2 b = n % p2 b := by
  unfold wrapS
  split
  · have e : n % p2 b - p2 b = n % p2 b + p2 b * (-1) := by omega
    rw [e, Int.add_mul_emod_self_left, Int.emod_emod_of_dvd _ (Int.dvd_refl _)]
  · rw [Int.emod_emod_of_dvd _ (Int.dvd_refl _)]
theorem wrapS_fits (s : Bool) (b n : Int) (h1 : 1 ≤ b) (h2 : b ≤ 31) : fitsB s b (wrapS s b n) = true := by
  have := wrapS_bd s b n h1 h2
  exact fits_lo_hi s b _ this.1 this.2
theorem and_or_nat (A B : Nat) (k : Nat) (hA : A < 2 ^ k) (hB : B < 2 ^ k) : ((A &&& B : Nat) : Int) + ((A ||| B : Nat) : Int) = A + B := by
  have h : ∀ n, numL ((List.range n).map fun i => ((A &&& B : Nat) : Int) / 2 ^ i % 2) + numL ((List.range n).map fun i => ((A ||| B : Nat) : Int) / 2 ^ i % 2) =
      numL ((List.range n).map fun i => (A : Int) / 2 ^ i % 2) + numL ((List.range n).map fun i => (B : Int) / 2 ^ i % 2) := by
    intro n
    induction n with
    | zero => simp
    | succ n ih =>
      simp only [List.range_succ, List.map_append, List.map_singleton, numL_snoc, List.length_map, List.length_range, bit_nat] at ih ⊢
      have hb : (if (A &&& B).testBit n then (1 : Int) else 0) + (if (A ||| B).testBit n then (1 : Int) else 0) = (if A.testBit n then (1 : Int) else 0) + (if B.testBit n then (1 : Int) else 0) := by
        rw [Nat.testBit_and, Nat.testBit_or]
        cases A.testBit n <;> cases B.testBit n <;> rfl
      have hm : (2 : Int) ^ n * (if (A &&& B).testBit n then (1 : Int) else 0) + 2 ^ n * (if (A ||| B).testBit n then (1 : Int) else 0) = 2 ^ n * (if A.testBit n then (1 : Int) else 0) + 2 ^ n * (if B.testBit n then (1 : Int) else 0) := by
        rw [← Int.mul_add, ← Int.mul_add, hb]
      omega
  have hk := h k
  rw [numL_bits, numL_bits, numL_bits, numL_bits, Nat.mod_eq_of_lt hA, Nat.mod_eq_of_lt hB, Nat.mod_eq_of_lt (Nat.and_lt_two_pow _ hB), Nat.mod_eq_of_lt (Nat.or_lt_two_pow hA hB)] at hk
  exact hk
theorem and_or_mod (b x y : Int) (h1 : 1 ≤ b) (h2 : b ≤ 31) : (bits .and .i64 x y + bits .or .i64 x y) % p2 b = (x + y) % p2 b := by
  have e : p2 b = ((2 ^ b.toNat : Nat) : Int) := by unfold p2; simp
  have hd : p2 b ∣ (18446744073709551616 : Int) := by
    rw [e]
    have : (2 ^ b.toNat : Nat) ∣ 2 ^ 64 := Nat.pow_dvd_pow 2 (by omega)
    have h3 : (((2 ^ b.toNat : Nat) : Int)) ∣ ((2 ^ 64 : Nat) : Int) := by exact_mod_cast this
    simpa using h3
  have hA : (x % (18446744073709551616 : Int)).toNat < 2 ^ 64 := by have := Int.emod_lt_of_pos x (show (0 : Int) < 18446744073709551616 by decide); have := Int.emod_nonneg x (show (18446744073709551616 : Int) ≠ 0 by decide); omega
  have hB : (y % (18446744073709551616 : Int)).toNat < 2 ^ 64 := by have := Int.emod_lt_of_pos y (show (0 : Int) < 18446744073709551616 by decide); have := Int.emod_nonneg y (show (18446744073709551616 : Int) ≠ 0 by decide); omega
  have eA : (BitVec.ofInt 64 x).toNat = (x % (18446744073709551616 : Int)).toNat := by rw [BitVec.toNat_ofInt]; rfl
  have eB : (BitVec.ofInt 64 y).toNat = (y % (18446744073709551616 : Int)).toNat := by rw [BitVec.toNat_ofInt]; rfl
  have cA : (((x % (18446744073709551616 : Int)).toNat : Nat) : Int) = x % 18446744073709551616 := Int.toNat_of_nonneg (Int.emod_nonneg _ (by decide))
  have cB : (((y % (18446744073709551616 : Int)).toNat : Nat) : Int) = y % 18446744073709551616 := Int.toNat_of_nonneg (Int.emod_nonneg _ (by decide))
  generalize (x % (18446744073709551616 : Int)).toNat = A at *
  generalize (y % (18446744073709551616 : Int)).toNat = B at *
  have w1 : bits .and .i64 x y = IntKind.i64.wrap ((A &&& B : Nat) : Int) := by
    show IntKind.i64.wrap ((BitVec.ofInt 64 x &&& BitVec.ofInt 64 y).toNat : Int) = _
    rw [BitVec.toNat_and, eA, eB]
  have w2 : bits .or .i64 x y = IntKind.i64.wrap ((A ||| B : Nat) : Int) := by
    show IntKind.i64.wrap ((BitVec.ofInt 64 x ||| BitVec.ofInt 64 y).toNat : Int) = _
    rw [BitVec.toNat_or, eA, eB]
  rw [w1, w2, Int.add_emod, bits_mod b _ h1 h2 (Nat.and_lt_two_pow _ hB), bits_mod b _ h1 h2 (Nat.or_lt_two_pow hA hB), Int.natCast_emod, Int.natCast_emod, ← e, ← Int.add_emod, and_or_nat A B 64 hA hB,
    Int.add_emod, cA, cB, Int.emod_emod_of_dvd _ hd, Int.emod_emod_of_dvd _ hd, ← Int.add_emod]

theorem loose_wrap (op : Int) (s : Bool) (b x y : Int) (h1 : 1 ≤ b) (h2 : b ≤ 31) (ho : op = 10 ∨ op = 12 ∨ op = 15 ∨ op = 16) (hx : fitsB s b x = true) (hy : fitsB s b y = true) :
    looseF op s b x y = (wrapS s b (wholeI op x y), 0) := by
  have ha : askB op s b x y = true := by rcases ho with rfl | rfl | rfl | rfl <;> simp [askB, h1, h2, hx, hy]
  have hd : doN op s b x y = (wrapS s b (wholeI op x y), 0) := by rcases ho with rfl | rfl | rfl | rfl <;> simp [doN]
  unfold looseF
  rw [ha, hd]
  rfl
theorem loose_bad (op : Int) (s : Bool) (b x y : Int) (h : askB op s b x y = false) : looseF op s b x y = (0, 1) := by unfold looseF; rw [h]; rfl

set_option maxRecDepth 100000 in
theorem rings_bad1 (s : Bool) (b x y c : Int) (w : World) (e1 : looseF 10 s b x y = (0, 1)) :
    Calls Try.prog 5 #[.agg #[.bool s, .int .i64 b], .agg #[.int .i64 x, .int .i64 y], .int .i64 c] w fun e w' => e = .returned (.bool true) ∧ Q w w' := by
  have c1 := Loose_any 10 s b x y
  have c2 := Loose_any 10 s b y c
  rw [e1] at c1
  generalize looseF 10 s b y c = L at *
  obtain ⟨l1, l2⟩ := L
  dsimp only at c1 c2
  have C1 := hide c1
  have C2 := hide c2
  clear c1 c2 e1
  go_enter Try.func5, Try.ntmps5
  go_wp2_with fail
  refine (C1.out _).mono ?_
  rintro e w1 ⟨rfl, hqw1⟩
  obtain ⟨hcw1, hfw1, hzw1⟩ := hqw1.facts
  try simp at hzw1
  try have hs0w1 : w.heap.size < w1.heap.size := by omega
  try have hs1w1 : w.heap.size + 1 < w1.heap.size := by omega
  go_wp2_with fail
  refine (C2.out _).mono ?_
  rintro e w2 ⟨rfl, hqw2⟩
  obtain ⟨hcw2, hfw2, hzw2⟩ := hqw2.facts
  try simp at hzw2
  try have hs0w2 : w.heap.size < w2.heap.size := by omega
  try have hs1w2 : w.heap.size + 1 < w2.heap.size := by omega
  go_wp2_with fail
  refine (known_any _).mono ?_
  rintro e w3 ⟨rfl, hqw3⟩
  obtain ⟨hcw3, hfw3, hzw3⟩ := hqw3.facts
  try simp at hzw3
  try have hs0w3 : w.heap.size < w3.heap.size := by omega
  try have hs1w3 : w.heap.size + 1 < w3.heap.size := by omega
  go_wp2_with fail
  go_ret
  exact ⟨rfl, (by repeat (first | exact Q.refl _ | assumption | refine Q.drew ?_ | refine Q.drewN ?_ _ | refine Q.alloc ?_ _ | refine Q.set ?_ (by first | (simp; done) | (simp; omega) | omega) _ | refine Q.trans ?_ (by assumption)))⟩
set_option maxRecDepth 100000 in
theorem rings_bad2 (s : Bool) (b x y c l : Int) (w : World) (e1 : looseF 10 s b x y = (l, 0)) (e2 : looseF 10 s b y c = (0, 1)) :
    Calls Try.prog 5 #[.agg #[.bool s, .int .i64 b], .agg #[.int .i64 x, .int .i64 y], .int .i64 c] w fun e w' => e = .returned (.bool true) ∧ Q w w' := by
  have c1 := Loose_any 10 s b x y
  have c2 := Loose_any 10 s b y c
  rw [e1] at c1
  rw [e2] at c2
  dsimp only at c1 c2
  have C1 := hide c1
  have C2 := hide c2
  clear c1 c2 e1 e2
  go_enter Try.func5, Try.ntmps5
  go_wp2_with fail
  refine (C1.out _).mono ?_
  rintro e w1 ⟨rfl, hqw1⟩
  obtain ⟨hcw1, hfw1, hzw1⟩ := hqw1.facts
  try simp at hzw1
  try have hs0w1 : w.heap.size < w1.heap.size := by omega
  try have hs1w1 : w.heap.size + 1 < w1.heap.size := by omega
  go_wp2_with fail
  refine (C2.out _).mono ?_
  rintro e w2 ⟨rfl, hqw2⟩
  obtain ⟨hcw2, hfw2, hzw2⟩ := hqw2.facts
  try simp at hzw2
  try have hs0w2 : w.heap.size < w2.heap.size := by omega
  try have hs1w2 : w.heap.size + 1 < w2.heap.size := by omega
  go_wp2_with fail
  refine (known_any _).mono ?_
  rintro e w3 ⟨rfl, hqw3⟩
  obtain ⟨hcw3, hfw3, hzw3⟩ := hqw3.facts
  try simp at hzw3
  try have hs0w3 : w.heap.size < w3.heap.size := by omega
  try have hs1w3 : w.heap.size + 1 < w3.heap.size := by omega
  go_wp2_with fail
  go_ret
  exact ⟨rfl, (by repeat (first | exact Q.refl _ | assumption | refine Q.drew ?_ | refine Q.drewN ?_ _ | refine Q.alloc ?_ _ | refine Q.set ?_ (by first | (simp; done) | (simp; omega) | omega) _ | refine Q.trans ?_ (by assumption)))⟩
set_option maxRecDepth 100000 in
set_option maxHeartbeats 800000 in
theorem rings_walk (s : Bool) (b x y c ab bc L W p q u v : Int) (w : World) (e1 : looseF 10 s b x y = (ab, 0)) (e2 : looseF 10 s b y c = (bc, 0)) (e3 : looseF 10 s b ab c = (L, 0)) (e4 : looseF 10 s b x bc = (L, 0))
    (e5 : looseF 12 s b x bc = (W, 0)) (e6 : looseF 12 s b x y = (p, 0)) (e7 : looseF 12 s b c x = (q, 0)) (e8 : looseF 10 s b p q = (W, 0)) (e9 : looseF 15 s b x y = (u, 0)) (e10 : looseF 16 s b x y = (v, 0)) (e11 : looseF 10 s b u v = (ab, 0)) :
    Calls Try.prog 5 #[.agg #[.bool s, .int .i64 b], .agg #[.int .i64 x, .int .i64 y], .int .i64 c] w fun e w' => e = .returned (.bool true) ∧ Q w w' := by
  have c1 := Loose_any 10 s b x y
  have c2 := Loose_any 10 s b y c
  have c3 := Loose_any 10 s b ab c
  have c4 := Loose_any 10 s b x bc
  have c5 := Loose_any 12 s b x bc
  have c6 := Loose_any 12 s b x y
  have c7 := Loose_any 12 s b c x
  have c8 := Loose_any 10 s b p q
  have c9 := Loose_any 15 s b x y
  have c10 := Loose_any 16 s b x y
  have c11 := Loose_any 10 s b u v
  rw [e1] at c1
  rw [e2] at c2
  rw [e3] at c3
  rw [e4] at c4
  rw [e5] at c5
  rw [e6] at c6
  rw [e7] at c7
  rw [e8] at c8
  rw [e9] at c9
  rw [e10] at c10
  rw [e11] at c11
  have C1 := hide c1
  have C2 := hide c2
  have C3 := hide c3
  have C4 := hide c4
  have C5 := hide c5
  have C6 := hide c6
  have C7 := hide c7
  have C8 := hide c8
  have C9 := hide c9
  have C10 := hide c10
  have C11 := hide c11
  clear c1 c2 c3 c4 c5 c6 c7 c8 c9 c10 c11 e1 e2 e3 e4 e5 e6 e7 e8 e9 e10 e11
  go_enter Try.func5, Try.ntmps5
  go_wp2_with fail
  refine (C1.out _).mono ?_
  rintro e w1 ⟨rfl, hqw1⟩
  obtain ⟨hcw1, hfw1, hzw1⟩ := hqw1.facts
  try simp at hzw1
  try have hs0w1 : w.heap.size < w1.heap.size := by omega
  try have hs1w1 : w.heap.size + 1 < w1.heap.size := by omega
  go_wp2_with fail
  refine (C2.out _).mono ?_
  rintro e w2 ⟨rfl, hqw2⟩
  obtain ⟨hcw2, hfw2, hzw2⟩ := hqw2.facts
  try simp at hzw2
  try have hs0w2 : w.heap.size < w2.heap.size := by omega
  try have hs1w2 : w.heap.size + 1 < w2.heap.size := by omega
  go_wp2_with fail
  refine (C3.out _).mono ?_
  rintro e w3 ⟨rfl, hqw3⟩
  obtain ⟨hcw3, hfw3, hzw3⟩ := hqw3.facts
  try simp at hzw3
  try have hs0w3 : w.heap.size < w3.heap.size := by omega
  try have hs1w3 : w.heap.size + 1 < w3.heap.size := by omega
  go_wp2_with fail
  refine (C4.out _).mono ?_
  rintro e w4 ⟨rfl, hqw4⟩
  obtain ⟨hcw4, hfw4, hzw4⟩ := hqw4.facts
  try simp at hzw4
  try have hs0w4 : w.heap.size < w4.heap.size := by omega
  try have hs1w4 : w.heap.size + 1 < w4.heap.size := by omega
  go_wp2_with fail
  refine (C5.out _).mono ?_
  rintro e w5 ⟨rfl, hqw5⟩
  obtain ⟨hcw5, hfw5, hzw5⟩ := hqw5.facts
  try simp at hzw5
  try have hs0w5 : w.heap.size < w5.heap.size := by omega
  try have hs1w5 : w.heap.size + 1 < w5.heap.size := by omega
  go_wp2_with fail
  refine (C6.out _).mono ?_
  rintro e w6 ⟨rfl, hqw6⟩
  obtain ⟨hcw6, hfw6, hzw6⟩ := hqw6.facts
  try simp at hzw6
  try have hs0w6 : w.heap.size < w6.heap.size := by omega
  try have hs1w6 : w.heap.size + 1 < w6.heap.size := by omega
  go_wp2_with fail
  refine (C7.out _).mono ?_
  rintro e w7 ⟨rfl, hqw7⟩
  obtain ⟨hcw7, hfw7, hzw7⟩ := hqw7.facts
  try simp at hzw7
  try have hs0w7 : w.heap.size < w7.heap.size := by omega
  try have hs1w7 : w.heap.size + 1 < w7.heap.size := by omega
  go_wp2_with fail
  refine (C8.out _).mono ?_
  rintro e w8 ⟨rfl, hqw8⟩
  obtain ⟨hcw8, hfw8, hzw8⟩ := hqw8.facts
  try simp at hzw8
  try have hs0w8 : w.heap.size < w8.heap.size := by omega
  try have hs1w8 : w.heap.size + 1 < w8.heap.size := by omega
  go_wp2_with fail
  refine (C9.out _).mono ?_
  rintro e w9 ⟨rfl, hqw9⟩
  obtain ⟨hcw9, hfw9, hzw9⟩ := hqw9.facts
  try simp at hzw9
  try have hs0w9 : w.heap.size < w9.heap.size := by omega
  try have hs1w9 : w.heap.size + 1 < w9.heap.size := by omega
  go_wp2_with fail
  refine (C10.out _).mono ?_
  rintro e w10 ⟨rfl, hqw10⟩
  obtain ⟨hcw10, hfw10, hzw10⟩ := hqw10.facts
  try simp at hzw10
  try have hs0w10 : w.heap.size < w10.heap.size := by omega
  try have hs1w10 : w.heap.size + 1 < w10.heap.size := by omega
  go_wp2_with fail
  refine (C11.out _).mono ?_
  rintro e w11 ⟨rfl, hqw11⟩
  obtain ⟨hcw11, hfw11, hzw11⟩ := hqw11.facts
  try simp at hzw11
  try have hs0w11 : w.heap.size < w11.heap.size := by omega
  try have hs1w11 : w.heap.size + 1 < w11.heap.size := by omega
  go_wp2_with fail
  refine (known_any _).mono ?_
  rintro e w12 ⟨rfl, hqw12⟩
  obtain ⟨hcw12, hfw12, hzw12⟩ := hqw12.facts
  try simp at hzw12
  try have hs0w12 : w.heap.size < w12.heap.size := by omega
  try have hs1w12 : w.heap.size + 1 < w12.heap.size := by omega
  go_wp2_with fail
  go_ret
  exact ⟨rfl, (by repeat (first | exact Q.refl _ | assumption | refine Q.drew ?_ | refine Q.drewN ?_ _ | refine Q.alloc ?_ _ | refine Q.set ?_ (by first | (simp; done) | (simp; omega) | omega) _ | refine Q.trans ?_ (by assumption)))⟩
theorem NumRings_walk (s : Bool) (b x y c : Int) (w : World) :
    Calls Try.prog 5 #[.agg #[.bool s, .int .i64 b], .agg #[.int .i64 x, .int .i64 y], .int .i64 c] w fun e w' => e = .returned (.bool true) ∧ Q w w' := by
  cases ha : askB 10 s b x y
  · exact rings_bad1 s b x y c w (loose_bad _ _ _ _ _ ha)
  · obtain ⟨⟨h1, h2⟩, _, hx, hy⟩ := askB_parts ha
    have e1 := loose_wrap 10 s b x y h1 h2 (by simp) hx hy
    cases hc : askB 10 s b y c
    · exact rings_bad2 s b x y c _ w e1 (loose_bad _ _ _ _ _ hc)
    · obtain ⟨_, _, _, hc⟩ := askB_parts hc
      have f := fun n => wrapS_fits s b n h1 h2
      have m := fun n => wrapS_mod s b n h1 h2
      have e2 := loose_wrap 10 s b y c h1 h2 (by simp) hy hc
      have e3 := loose_wrap 10 s b (wrapS s b (wholeI 10 x y)) c h1 h2 (by simp) (f _) hc
      have e4 := loose_wrap 10 s b x (wrapS s b (wholeI 10 y c)) h1 h2 (by simp) hx (f _)
      have e5 := loose_wrap 12 s b x (wrapS s b (wholeI 10 y c)) h1 h2 (by simp) hx (f _)
      have e6 := loose_wrap 12 s b x y h1 h2 (by simp) hx hy
      have e7 := loose_wrap 12 s b c x h1 h2 (by simp) hc hx
      have e8 := loose_wrap 10 s b (wrapS s b (wholeI 12 x y)) (wrapS s b (wholeI 12 c x)) h1 h2 (by simp) (f _) (f _)
      have e9 := loose_wrap 15 s b x y h1 h2 (by simp) hx hy
      have e10 := loose_wrap 16 s b x y h1 h2 (by simp) hx hy
      have e11 := loose_wrap 10 s b (wrapS s b (wholeI 15 x y)) (wrapS s b (wholeI 16 x y)) h1 h2 (by simp) (f _) (f _)
      have g10 : ∀ x y, wholeI 10 x y = x + y := fun x y => by simp [wholeI]
      have g12 : ∀ x y, wholeI 12 x y = x * y := fun x y => by simp [wholeI]
      have g15 : wholeI 15 x y = bits .and .i64 x y := by simp [wholeI]
      have g16 : wholeI 16 x y = bits .or .i64 x y := by simp [wholeI]
      have q1 : wrapS s b (wholeI 10 x (wrapS s b (wholeI 10 y c))) = wrapS s b (wholeI 10 (wrapS s b (wholeI 10 x y)) c) := by
        simp only [g10]
        apply wrapS_congr
        rw [Int.add_emod, m, ← Int.add_emod, Int.add_emod (wrapS _ _ _), m, ← Int.add_emod, Int.add_assoc]
      have q2 : wrapS s b (wholeI 10 (wrapS s b (wholeI 12 x y)) (wrapS s b (wholeI 12 c x))) = wrapS s b (wholeI 12 x (wrapS s b (wholeI 10 y c))) := by
        simp only [g10, g12]
        apply wrapS_congr
        rw [Int.add_emod, m, m, ← Int.add_emod, Int.mul_emod, m, ← Int.mul_emod, Int.mul_add, Int.mul_comm c x]
      have q3 : wrapS s b (wholeI 10 (wrapS s b (wholeI 15 x y)) (wrapS s b (wholeI 16 x y))) = wrapS s b (wholeI 10 x y) := by
        rw [g10, g10, g15, g16]
        apply wrapS_congr
        rw [Int.add_emod, m, m, ← Int.add_emod, and_or_mod b x y h1 h2]
      rw [q1] at e4
      rw [q2] at e8
      rw [q3] at e11
      exact rings_walk s b x y c _ _ _ _ _ _ _ _ w e1 e2 e3 e4 e5 e6 e7 e8 e9 e10 e11
end Go.Proofs.Ytcjljmegppnlcaa
