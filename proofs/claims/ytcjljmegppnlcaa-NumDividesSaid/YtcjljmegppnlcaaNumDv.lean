/- The walk of the law NumDivides: it returns true. Conditions: none. -/
import Derived.Test.YtcjljmegppnlcaaNumW
import Derived.BigGuard
import Derived.Deep.DeepCutAuto
namespace Go.Proofs.Ytcjljmegppnlcaa
open Go.RowKit NP
set_option linter.unusedVariables false

theorem div_cases (s : Bool) (b x y : Int) :
    (doF 8 s b x y = (0, 0, 1) ∧ doF 9 s b x y = (0, 0, 1)) ∨ (∃ k, k ≠ 0 ∧ doF 8 s b x y = (0, k, 0) ∧ doF 9 s b x y = (0, k, 0)) ∨
      (doF 8 s b x y = (x.tdiv y, 0, 0) ∧ doF 9 s b x y = (x.tmod y, 0, 0) ∧ y ≠ 0 ∧ (1 ≤ b ∧ b ≤ 31) ∧ fitsB s b x = true ∧ fitsB s b y = true) := by
  have ha : askB 8 s b x y = askB 9 s b x y := by simp [askB]
  cases h8 : askB 8 s b x y
  · left
    rw [h8] at ha
    exact ⟨by simp [doF, h8], by simp [doF, ← ha]⟩
  · right
    rw [h8] at ha
    obtain ⟨⟨h1, h2⟩, _, hx, hy⟩ := askB_parts h8
    by_cases hz : y = 0
    · left
      subst hz
      exact ⟨2, by decide, by simp [doF, h8, doN], by simp [doF, ← ha, doN]⟩
    · have ht := tmod_fits s b x y h1 h2 hx
      cases hf : fitsB s b (x.tdiv y)
      · left
        exact ⟨1, by decide, by simp [doF, h8, doN, wholeI, hz, hf], by simp [doF, ← ha, doN, wholeI, hz, hf]⟩
      · right
        exact ⟨by simp [doF, h8, doN, wholeI, hz, hf], by simp [doF, ← ha, doN, wholeI, hz, hf, ht], hz, ⟨h1, h2⟩, hx, hy⟩
theorem div_facts (x y : Int) (hz : y ≠ 0) : x.tdiv y * y + x.tmod y = x ∧ (x.tmod y = 0 ∨ (0 < x.tmod y ∧ 0 < x) ∨ (x.tmod y < 0 ∧ x < 0)) ∧ (x.tmod y).natAbs < y.natAbs := by
  refine ⟨?_, ?_, ?_⟩
  · rw [Int.mul_comm]; exact Int.mul_tdiv_add_tmod x y
  · rcases Int.lt_trichotomy x 0 with h | h | h
    · have h3 := Int.tmod_nonneg y (show 0 ≤ -x by omega)
      rw [Int.neg_tmod] at h3
      omega
    · subst h; simp
    · have := Int.tmod_nonneg y (show 0 ≤ x by omega)
      omega
  · rw [Int.natAbs_tmod]
    exact Nat.mod_lt _ (by omega)
theorem div_bad (s : Bool) (b x y : Int) (w : World) (e8 : doF 8 s b x y = (0, 0, 1)) (e9 : doF 9 s b x y = (0, 0, 1)) :
    Calls Try.prog 4 #[.agg #[.bool s, .int .i64 b], .int .i64 x, .int .i64 y] w fun e w' => e = .returned (.bool true) ∧ Q w w' := by
  have c1 := Do_any 8 s b x y
  have c2 := Do_any 9 s b x y
  rw [e8] at c1
  rw [e9] at c2
  have C1 := hide c1
  have C2 := hide c2
  clear e8 e9
  clear c1 c2
  go_enter Try.func4, Try.ntmps4
  go_wp2_with fail
  refine (C1.out _).mono ?_
  rintro e w1 ⟨rfl, hqw1⟩
  obtain ⟨hcw1, hfw1, hzw1⟩ := hqw1.facts
  try simp at hzw1
  try have hs0w1 : w.heap.size < w1.heap.size := by omega
  try have hs1w1 : w.heap.size + 1 < w1.heap.size := by omega
  go_wp2_with fail
  refine (C2.out _).mono ?_
  rintro e w2 ⟨rfl, hqw2⟩
  obtain ⟨hcw2, hfw2, hzw2⟩ := hqw2.facts
  try simp at hzw2
  try have hs0w2 : w.heap.size < w2.heap.size := by omega
  try have hs1w2 : w.heap.size + 1 < w2.heap.size := by omega
  go_wp2_with fail
  refine (known_any _).mono ?_
  rintro e w3 ⟨rfl, hqw3⟩
  obtain ⟨hcw3, hfw3, hzw3⟩ := hqw3.facts
  try simp at hzw3
  try have hs0w3 : w.heap.size < w3.heap.size := by omega
  try have hs1w3 : w.heap.size + 1 < w3.heap.size := by omega
  go_wp2_with fail
  go_ret
  exact ⟨rfl, (by repeat (first | exact Q.refl _ | assumption | refine Q.drew ?_ | refine Q.drewN ?_ _ | refine Q.alloc ?_ _ | refine Q.set ?_ (by first | (simp; done) | (simp; omega) | omega) _ | refine Q.trans ?_ (by assumption)))⟩
theorem div_none (s : Bool) (b x y : Int) (w : World) (k : Int) (hk : k ≠ 0) (e8 : doF 8 s b x y = (0, k, 0)) (e9 : doF 9 s b x y = (0, k, 0)) :
    Calls Try.prog 4 #[.agg #[.bool s, .int .i64 b], .int .i64 x, .int .i64 y] w fun e w' => e = .returned (.bool true) ∧ Q w w' := by
  have c1 := Do_any 8 s b x y
  have c2 := Do_any 9 s b x y
  rw [e8] at c1
  rw [e9] at c2
  have C1 := hide c1
  have C2 := hide c2
  clear e8 e9
  have hk2 : (k != 0) = true := by simpa using hk
  clear c1 c2
  go_enter Try.func4, Try.ntmps4
  go_wp2_with fail
  refine (C1.out _).mono ?_
  rintro e w1 ⟨rfl, hqw1⟩
  obtain ⟨hcw1, hfw1, hzw1⟩ := hqw1.facts
  try simp at hzw1
  try have hs0w1 : w.heap.size < w1.heap.size := by omega
  try have hs1w1 : w.heap.size + 1 < w1.heap.size := by omega
  go_wp2_with fail
  refine (C2.out _).mono ?_
  rintro e w2 ⟨rfl, hqw2⟩
  obtain ⟨hcw2, hfw2, hzw2⟩ := hqw2.facts
  try simp at hzw2
  try have hs0w2 : w.heap.size < w2.heap.size := by omega
  try have hs1w2 : w.heap.size + 1 < w2.heap.size := by omega
  go_wp2_with fail
  refine (known_any _).mono ?_
  rintro e w3 ⟨rfl, hqw3⟩
  obtain ⟨hcw3, hfw3, hzw3⟩ := hqw3.facts
  try simp at hzw3
  try have hs0w3 : w.heap.size < w3.heap.size := by omega
  try have hs1w3 : w.heap.size + 1 < w3.heap.size := by omega
  go_wp2_with fail
  go_ret
  exact ⟨rfl, (by repeat (first | exact Q.refl _ | assumption | refine Q.drew ?_ | refine Q.drewN ?_ _ | refine Q.alloc ?_ _ | refine Q.set ?_ (by first | (simp; done) | (simp; omega) | omega) _ | refine Q.trans ?_ (by assumption)))⟩
set_option maxRecDepth 100000 in
set_option maxHeartbeats 1000000 in
theorem div_zp (s : Bool) (b x y : Int) (w : World) (q r : Int) (q1 : -2147483648 ≤ q) (q2 : q ≤ 2147483648) (y1 : -2147483648 ≤ y) (y2 : y ≤ 2147483648) (x1 : -2147483648 ≤ x) (x2 : x ≤ 2147483648) (m : Int) (hmul : q * y = m) (m1 : -4611686018427387904 ≤ m) (m2 : m ≤ 4611686018427387904) (hy : 0 < y) (hr : r = 0) (e8 : doF 8 s b x y = (q, 0, 0)) (e9 : doF 9 s b x y = (r, 0, 0)) (hm : m + r = x) :
    Calls Try.prog 4 #[.agg #[.bool s, .int .i64 b], .int .i64 x, .int .i64 y] w fun e w' => e = .returned (.bool true) ∧ Q w w' := by
  have c1 := Do_any 8 s b x y
  have c2 := Do_any 9 s b x y
  rw [e8] at c1
  rw [e9] at c2
  have C1 := hide c1
  have C2 := hide c2
  clear e8 e9
  subst hr
  have hm2 : (m == x) = true := by simpa using hm
  clear hm
  have f0 : decide (y < 0) = false := by simp <;> omega
  have f1 : decide (0 < y) = true := by simp <;> omega
  clear c1 c2
  go_enter Try.func4, Try.ntmps4
  go_wp2_with fail
  refine (C1.out _).mono ?_
  rintro e w1 ⟨rfl, hqw1⟩
  obtain ⟨hcw1, hfw1, hzw1⟩ := hqw1.facts
  try simp at hzw1
  try have hs0w1 : w.heap.size < w1.heap.size := by omega
  try have hs1w1 : w.heap.size + 1 < w1.heap.size := by omega
  go_wp2_with fail
  refine (C2.out _).mono ?_
  rintro e w2 ⟨rfl, hqw2⟩
  obtain ⟨hcw2, hfw2, hzw2⟩ := hqw2.facts
  try simp at hzw2
  try have hs0w2 : w.heap.size < w2.heap.size := by omega
  try have hs1w2 : w.heap.size + 1 < w2.heap.size := by omega
  go_upto_region 7 with fail
  dsimp only [List.append]
  go_wp2_with fail
  all_goals (
    refine (known_any _).mono ?_
    rintro e w3 ⟨rfl, hqw3⟩
    go_wp2_with fail
    go_ret
    exact ⟨rfl, (by repeat (first | exact Q.refl _ | assumption | refine Q.drew ?_ | refine Q.drewN ?_ _ | refine Q.alloc ?_ _ | refine Q.set ?_ (by first | (simp; done) | (simp; omega) | omega) _ | refine Q.trans ?_ (by assumption)))⟩)
set_option maxRecDepth 100000 in
set_option maxHeartbeats 1000000 in
theorem div_zn (s : Bool) (b x y : Int) (w : World) (q r : Int) (q1 : -2147483648 ≤ q) (q2 : q ≤ 2147483648) (y1 : -2147483648 ≤ y) (y2 : y ≤ 2147483648) (x1 : -2147483648 ≤ x) (x2 : x ≤ 2147483648) (m : Int) (hmul : q * y = m) (m1 : -4611686018427387904 ≤ m) (m2 : m ≤ 4611686018427387904) (hy : y < 0) (hr : r = 0) (e8 : doF 8 s b x y = (q, 0, 0)) (e9 : doF 9 s b x y = (r, 0, 0)) (hm : m + r = x) :
    Calls Try.prog 4 #[.agg #[.bool s, .int .i64 b], .int .i64 x, .int .i64 y] w fun e w' => e = .returned (.bool true) ∧ Q w w' := by
  have c1 := Do_any 8 s b x y
  have c2 := Do_any 9 s b x y
  rw [e8] at c1
  rw [e9] at c2
  have C1 := hide c1
  have C2 := hide c2
  clear e8 e9
  subst hr
  have hm2 : (m == x) = true := by simpa using hm
  clear hm
  have f0 : decide (y < 0) = true := by simp <;> omega
  have f1 : decide (0 < y) = false := by simp <;> omega
  have f2 : decide ((0 : Int) < -y) = true := by simp <;> omega
  clear c1 c2
  go_enter Try.func4, Try.ntmps4
  go_wp2_with fail
  refine (C1.out _).mono ?_
  rintro e w1 ⟨rfl, hqw1⟩
  obtain ⟨hcw1, hfw1, hzw1⟩ := hqw1.facts
  try simp at hzw1
  try have hs0w1 : w.heap.size < w1.heap.size := by omega
  try have hs1w1 : w.heap.size + 1 < w1.heap.size := by omega
  go_wp2_with fail
  refine (C2.out _).mono ?_
  rintro e w2 ⟨rfl, hqw2⟩
  obtain ⟨hcw2, hfw2, hzw2⟩ := hqw2.facts
  try simp at hzw2
  try have hs0w2 : w.heap.size < w2.heap.size := by omega
  try have hs1w2 : w.heap.size + 1 < w2.heap.size := by omega
  go_upto_region 7 with fail
  dsimp only [List.append]
  go_wp2_with fail
  all_goals (
    refine (known_any _).mono ?_
    rintro e w3 ⟨rfl, hqw3⟩
    go_wp2_with fail
    go_ret
    exact ⟨rfl, (by repeat (first | exact Q.refl _ | assumption | refine Q.drew ?_ | refine Q.drewN ?_ _ | refine Q.alloc ?_ _ | refine Q.set ?_ (by first | (simp; done) | (simp; omega) | omega) _ | refine Q.trans ?_ (by assumption)))⟩)
set_option maxRecDepth 100000 in
set_option maxHeartbeats 1000000 in
theorem div_pp (s : Bool) (b x y : Int) (w : World) (q r : Int) (q1 : -2147483648 ≤ q) (q2 : q ≤ 2147483648) (y1 : -2147483648 ≤ y) (y2 : y ≤ 2147483648) (x1 : -2147483648 ≤ x) (x2 : x ≤ 2147483648) (m : Int) (hmul : q * y = m) (m1 : -4611686018427387904 ≤ m) (m2 : m ≤ 4611686018427387904) (hy : 0 < y) (hr : 0 < r) (e8 : doF 8 s b x y = (q, 0, 0)) (e9 : doF 9 s b x y = (r, 0, 0)) (hm : m + r = x) (hx : 0 < x) (hc : r < y) :
    Calls Try.prog 4 #[.agg #[.bool s, .int .i64 b], .int .i64 x, .int .i64 y] w fun e w' => e = .returned (.bool true) ∧ Q w w' := by
  have c1 := Do_any 8 s b x y
  have c2 := Do_any 9 s b x y
  rw [e8] at c1
  rw [e9] at c2
  have C1 := hide c1
  have C2 := hide c2
  clear e8 e9
  have hm2 : (m + r == x) = true := by simpa using hm
  have r1 : -2147483648 ≤ r := by omega
  have r2 : r ≤ 2147483648 := by omega
  clear hm
  have f0 : (r == 0) = false := by simp <;> omega
  have f1 : decide (r < 0) = false := by simp <;> omega
  have f2 : decide (x < 0) = false := by simp <;> omega
  have f3 : decide (0 ≤ r) = true := by simp <;> omega
  have f4 : decide (y < 0) = false := by simp <;> omega
  have f5 : decide (0 < y) = true := by simp <;> omega
  have f6 : decide (r < y) = true := by simp <;> omega
  clear c1 c2
  go_enter Try.func4, Try.ntmps4
  go_wp2_with fail
  refine (C1.out _).mono ?_
  rintro e w1 ⟨rfl, hqw1⟩
  obtain ⟨hcw1, hfw1, hzw1⟩ := hqw1.facts
  try simp at hzw1
  try have hs0w1 : w.heap.size < w1.heap.size := by omega
  try have hs1w1 : w.heap.size + 1 < w1.heap.size := by omega
  go_wp2_with fail
  refine (C2.out _).mono ?_
  rintro e w2 ⟨rfl, hqw2⟩
  obtain ⟨hcw2, hfw2, hzw2⟩ := hqw2.facts
  try simp at hzw2
  try have hs0w2 : w.heap.size < w2.heap.size := by omega
  try have hs1w2 : w.heap.size + 1 < w2.heap.size := by omega
  go_upto_region 7 with fail
  dsimp only [List.append]
  go_wp2_with fail
  all_goals (
    refine (known_any _).mono ?_
    rintro e w3 ⟨rfl, hqw3⟩
    go_wp2_with fail
    go_ret
    exact ⟨rfl, (by repeat (first | exact Q.refl _ | assumption | refine Q.drew ?_ | refine Q.drewN ?_ _ | refine Q.alloc ?_ _ | refine Q.set ?_ (by first | (simp; done) | (simp; omega) | omega) _ | refine Q.trans ?_ (by assumption)))⟩)
set_option maxRecDepth 100000 in
set_option maxHeartbeats 1000000 in
theorem div_pn (s : Bool) (b x y : Int) (w : World) (q r : Int) (q1 : -2147483648 ≤ q) (q2 : q ≤ 2147483648) (y1 : -2147483648 ≤ y) (y2 : y ≤ 2147483648) (x1 : -2147483648 ≤ x) (x2 : x ≤ 2147483648) (m : Int) (hmul : q * y = m) (m1 : -4611686018427387904 ≤ m) (m2 : m ≤ 4611686018427387904) (hy : y < 0) (hr : 0 < r) (e8 : doF 8 s b x y = (q, 0, 0)) (e9 : doF 9 s b x y = (r, 0, 0)) (hm : m + r = x) (hx : 0 < x) (hc : r < -y) :
    Calls Try.prog 4 #[.agg #[.bool s, .int .i64 b], .int .i64 x, .int .i64 y] w fun e w' => e = .returned (.bool true) ∧ Q w w' := by
  have c1 := Do_any 8 s b x y
  have c2 := Do_any 9 s b x y
  rw [e8] at c1
  rw [e9] at c2
  have C1 := hide c1
  have C2 := hide c2
  clear e8 e9
  have hm2 : (m + r == x) = true := by simpa using hm
  have r1 : -2147483648 ≤ r := by omega
  have r2 : r ≤ 2147483648 := by omega
  clear hm
  have f0 : (r == 0) = false := by simp <;> omega
  have f1 : decide (r < 0) = false := by simp <;> omega
  have f2 : decide (x < 0) = false := by simp <;> omega
  have f3 : decide (0 ≤ r) = true := by simp <;> omega
  have f4 : decide (y < 0) = true := by simp <;> omega
  have f5 : decide (0 < y) = false := by simp <;> omega
  have f6 : decide (r < -y) = true := by simp <;> omega
  clear c1 c2
  go_enter Try.func4, Try.ntmps4
  go_wp2_with fail
  refine (C1.out _).mono ?_
  rintro e w1 ⟨rfl, hqw1⟩
  obtain ⟨hcw1, hfw1, hzw1⟩ := hqw1.facts
  try simp at hzw1
  try have hs0w1 : w.heap.size < w1.heap.size := by omega
  try have hs1w1 : w.heap.size + 1 < w1.heap.size := by omega
  go_wp2_with fail
  refine (C2.out _).mono ?_
  rintro e w2 ⟨rfl, hqw2⟩
  obtain ⟨hcw2, hfw2, hzw2⟩ := hqw2.facts
  try simp at hzw2
  try have hs0w2 : w.heap.size < w2.heap.size := by omega
  try have hs1w2 : w.heap.size + 1 < w2.heap.size := by omega
  go_upto_region 7 with fail
  dsimp only [List.append]
  go_wp2_with fail
  all_goals (
    refine (known_any _).mono ?_
    rintro e w3 ⟨rfl, hqw3⟩
    go_wp2_with fail
    go_ret
    exact ⟨rfl, (by repeat (first | exact Q.refl _ | assumption | refine Q.drew ?_ | refine Q.drewN ?_ _ | refine Q.alloc ?_ _ | refine Q.set ?_ (by first | (simp; done) | (simp; omega) | omega) _ | refine Q.trans ?_ (by assumption)))⟩)
set_option maxRecDepth 100000 in
set_option maxHeartbeats 1000000 in
theorem div_np (s : Bool) (b x y : Int) (w : World) (q r : Int) (q1 : -2147483648 ≤ q) (q2 : q ≤ 2147483648) (y1 : -2147483648 ≤ y) (y2 : y ≤ 2147483648) (x1 : -2147483648 ≤ x) (x2 : x ≤ 2147483648) (m : Int) (hmul : q * y = m) (m1 : -4611686018427387904 ≤ m) (m2 : m ≤ 4611686018427387904) (hy : 0 < y) (hr : r < 0) (e8 : doF 8 s b x y = (q, 0, 0)) (e9 : doF 9 s b x y = (r, 0, 0)) (hm : m + r = x) (hx : x < 0) (hc : -r < y) :
    Calls Try.prog 4 #[.agg #[.bool s, .int .i64 b], .int .i64 x, .int .i64 y] w fun e w' => e = .returned (.bool true) ∧ Q w w' := by
  have c1 := Do_any 8 s b x y
  have c2 := Do_any 9 s b x y
  rw [e8] at c1
  rw [e9] at c2
  have C1 := hide c1
  have C2 := hide c2
  clear e8 e9
  have hm2 : (m + r == x) = true := by simpa using hm
  have r1 : -2147483648 ≤ r := by omega
  have r2 : r ≤ 2147483648 := by omega
  clear hm
  have f0 : (r == 0) = false := by simp <;> omega
  have f1 : decide (r < 0) = true := by simp <;> omega
  have f2 : decide (x < 0) = true := by simp <;> omega
  have f3 : decide (y < 0) = false := by simp <;> omega
  have f4 : decide (0 < y) = true := by simp <;> omega
  have f5 : decide (-r < y) = true := by simp <;> omega
  clear c1 c2
  go_enter Try.func4, Try.ntmps4
  go_wp2_with fail
  refine (C1.out _).mono ?_
  rintro e w1 ⟨rfl, hqw1⟩
  obtain ⟨hcw1, hfw1, hzw1⟩ := hqw1.facts
  try simp at hzw1
  try have hs0w1 : w.heap.size < w1.heap.size := by omega
  try have hs1w1 : w.heap.size + 1 < w1.heap.size := by omega
  go_wp2_with fail
  refine (C2.out _).mono ?_
  rintro e w2 ⟨rfl, hqw2⟩
  obtain ⟨hcw2, hfw2, hzw2⟩ := hqw2.facts
  try simp at hzw2
  try have hs0w2 : w.heap.size < w2.heap.size := by omega
  try have hs1w2 : w.heap.size + 1 < w2.heap.size := by omega
  go_upto_region 7 with fail
  dsimp only [List.append]
  go_wp2_with fail
  all_goals (
    refine (known_any _).mono ?_
    rintro e w3 ⟨rfl, hqw3⟩
    go_wp2_with fail
    go_ret
    exact ⟨rfl, (by repeat (first | exact Q.refl _ | assumption | refine Q.drew ?_ | refine Q.drewN ?_ _ | refine Q.alloc ?_ _ | refine Q.set ?_ (by first | (simp; done) | (simp; omega) | omega) _ | refine Q.trans ?_ (by assumption)))⟩)
set_option maxRecDepth 100000 in
set_option maxHeartbeats 1000000 in
theorem div_nn (s : Bool) (b x y : Int) (w : World) (q r : Int) (q1 : -2147483648 ≤ q) (q2 : q ≤ 2147483648) (y1 : -2147483648 ≤ y) (y2 : y ≤ 2147483648) (x1 : -2147483648 ≤ x) (x2 : x ≤ 2147483648) (m : Int) (hmul : q * y = m) (m1 : -4611686018427387904 ≤ m) (m2 : m ≤ 4611686018427387904) (hy : y < 0) (hr : r < 0) (e8 : doF 8 s b x y = (q, 0, 0)) (e9 : doF 9 s b x y = (r, 0, 0)) (hm : m + r = x) (hx : x < 0) (hc : y < r) :
    Calls Try.prog 4 #[.agg #[.bool s, .int .i64 b], .int .i64 x, .int .i64 y] w fun e w' => e = .returned (.bool true) ∧ Q w w' := by
  have c1 := Do_any 8 s b x y
  have c2 := Do_any 9 s b x y
  rw [e8] at c1
  rw [e9] at c2
  have C1 := hide c1
  have C2 := hide c2
  clear e8 e9
  have hm2 : (m + r == x) = true := by simpa using hm
  have r1 : -2147483648 ≤ r := by omega
  have r2 : r ≤ 2147483648 := by omega
  clear hm
  have f0 : (r == 0) = false := by simp <;> omega
  have f1 : decide (r < 0) = true := by simp <;> omega
  have f2 : decide (x < 0) = true := by simp <;> omega
  have f3 : decide (y < 0) = true := by simp <;> omega
  have f4 : decide (0 < y) = false := by simp <;> omega
  have f5 : decide (y < r) = true := by simp <;> omega
  clear c1 c2
  go_enter Try.func4, Try.ntmps4
  go_wp2_with fail
  refine (C1.out _).mono ?_
  rintro e w1 ⟨rfl, hqw1⟩
  obtain ⟨hcw1, hfw1, hzw1⟩ := hqw1.facts
  try simp at hzw1
  try have hs0w1 : w.heap.size < w1.heap.size := by omega
  try have hs1w1 : w.heap.size + 1 < w1.heap.size := by omega
  go_wp2_with fail
  refine (C2.out _).mono ?_
  rintro e w2 ⟨rfl, hqw2⟩
  obtain ⟨hcw2, hfw2, hzw2⟩ := hqw2.facts
  try simp at hzw2
  try have hs0w2 : w.heap.size < w2.heap.size := by omega
  try have hs1w2 : w.heap.size + 1 < w2.heap.size := by omega
  go_upto_region 7 with fail
  dsimp only [List.append]
  go_wp2_with fail
  all_goals (
    refine (known_any _).mono ?_
    rintro e w3 ⟨rfl, hqw3⟩
    go_wp2_with fail
    go_ret
    exact ⟨rfl, (by repeat (first | exact Q.refl _ | assumption | refine Q.drew ?_ | refine Q.drewN ?_ _ | refine Q.alloc ?_ _ | refine Q.set ?_ (by first | (simp; done) | (simp; omega) | omega) _ | refine Q.trans ?_ (by assumption)))⟩)
theorem NumDivides_walk (s : Bool) (b x y : Int) (w : World) :
    Calls Try.prog 4 #[.agg #[.bool s, .int .i64 b], .int .i64 x, .int .i64 y] w fun e w' => e = .returned (.bool true) ∧ Q w w' := by
  rcases div_cases s b x y with ⟨e8, e9⟩ | ⟨k, hk, e8, e9⟩ | ⟨e8, e9, hz, ⟨h1, h2⟩, hx, hy⟩
  · exact div_bad s b x y w e8 e9
  · exact div_none s b x y w k hk e8 e9
  · obtain ⟨x1, x2⟩ := fitsB_bd h1 h2 hx
    obtain ⟨y1, y2⟩ := fitsB_bd h1 h2 hy
    obtain ⟨d1, d2, d3⟩ := div_facts x y hz
    obtain ⟨t1, t2⟩ := tdiv_bd x y (by omega) x2
    obtain ⟨t3, t4⟩ := tmod_bd x y (by omega) x2
    obtain ⟨m, hm⟩ : ∃ m, x.tdiv y * y = m := ⟨_, rfl⟩
    rw [hm] at d1
    have m1 : -4611686018427387904 ≤ m := by omega
    have m2 : m ≤ 4611686018427387904 := by omega
    rcases d2 with hr | ⟨hr, hx0⟩ | ⟨hr, hx0⟩
    · rcases Int.lt_or_gt_of_ne hz with hy0 | hy0
      · exact div_zn s b x y w _ _ t1 (by omega) (by omega) (by omega) (by omega) (by omega) m hm m1 m2 hy0 hr e8 e9 d1
      · exact div_zp s b x y w _ _ t1 (by omega) (by omega) (by omega) (by omega) (by omega) m hm m1 m2 hy0 hr e8 e9 d1
    · rcases Int.lt_or_gt_of_ne hz with hy0 | hy0
      · exact div_pn s b x y w _ _ t1 (by omega) (by omega) (by omega) (by omega) (by omega) m hm m1 m2 hy0 hr e8 e9 d1 hx0 (by omega)
      · exact div_pp s b x y w _ _ t1 (by omega) (by omega) (by omega) (by omega) (by omega) m hm m1 m2 hy0 hr e8 e9 d1 hx0 (by omega)
    · rcases Int.lt_or_gt_of_ne hz with hy0 | hy0
      · exact div_nn s b x y w _ _ t1 (by omega) (by omega) (by omega) (by omega) (by omega) m hm m1 m2 hy0 hr e8 e9 d1 hx0 (by omega)
      · exact div_np s b x y w _ _ t1 (by omega) (by omega) (by omega) (by omega) (by omega) m hm m1 m2 hy0 hr e8 e9 d1 hx0 (by omega)
end Go.Proofs.Ytcjljmegppnlcaa
