/- The walks of the laws NumDoes, NumLoose, NumDivides, NumNegates: each returns true. Conditions: the integers are what their kinds hold. -/
import Derived.Test.YtcjljmegppnlcaaNumLaw
namespace Go.Proofs.Ytcjljmegppnlcaa
open Go.RowKit NP
set_option linter.unusedVariables false

theorem Do_r (op : Int) (s : Bool) (b x y : Int) (w : World) :
    Calls Try.prog 11 #[.int .i64 op, .agg #[.bool s, .int .i64 b], .int .i64 x, .int .i64 y] w
      fun e w' => e = .returned (.tuple #[.int .i64 (rdoF op s b x y).1, .int .i64 (rdoF op s b x y).2.1, .int .i64 (rdoF op s b x y).2.2]) ∧ Q w w' := by
  rw [← do_eq]; exact Do_any op s b x y w
theorem Loose_r (op : Int) (s : Bool) (b x y : Int) (w : World) :
    Calls Try.prog 13 #[.int .i64 op, .agg #[.bool s, .int .i64 b], .int .i64 x, .int .i64 y] w
      fun e w' => e = .returned (.tuple #[.int .i64 (rlooseF op s b x y).1, .int .i64 (rlooseF op s b x y).2]) ∧ Q w w' := by
  rw [← loose_eq]; exact Loose_any op s b x y w

theorem known_any (w : World) : Calls Try.prog 15 #[] w fun e w' => e = .returned (.bool true) ∧ Q w w' := by
  have h1 := Do_any 5 false 8 200 100
  have h2 := Loose_any 8 true 8 (-128) (-1)
  rw [show doF 5 false 8 200 100 = (0, 1, 0) by decide +kernel] at h1
  rw [show looseF 8 true 8 (-128) (-1) = (-128, 0) by decide +kernel] at h2
  have H1 := hide h1
  have H2 := hide h2
  clear h1 h2
  go_enter Try.func15, Try.ntmps15
  go_wp2_with fail
  refine (H1.out _).mono ?_
  rintro e w1 ⟨rfl, hqw1⟩
  obtain ⟨hcw1, hfw1, hzw1⟩ := hqw1.facts
  try simp at hzw1
  try have hs0w1 : w.heap.size < w1.heap.size := by omega
  try have hs1w1 : w.heap.size + 1 < w1.heap.size := by omega
  go_wp2_with fail
  refine (H2.out _).mono ?_
  rintro e w2 ⟨rfl, hqw2⟩
  obtain ⟨hcw2, hfw2, hzw2⟩ := hqw2.facts
  try simp at hzw2
  try have hs0w2 : w.heap.size < w2.heap.size := by omega
  try have hs1w2 : w.heap.size + 1 < w2.heap.size := by omega
  go_wp2_with fail
  go_ret
  exact ⟨rfl, (by repeat (first | exact Q.refl _ | assumption | refine Q.drew ?_ | refine Q.drewN ?_ _ | refine Q.alloc ?_ _ | refine Q.set ?_ (by first | (simp; done) | (simp; omega) | omega) _ | refine Q.trans ?_ (by assumption)))⟩

theorem does_parts (op : Int) (s : Bool) (b x y : Int) : (rdoF op s b x y).2.2 = 0 → (rdoF op s b x y).2.1 = 0 → (rdoF op s b x y).1 = (rlooseF op s b x y).1 := by
  rw [← do_eq, ← loose_eq]
  unfold doF looseF
  cases ha : askB op s b x y
  · simp
  · by_cases h : (doN op s b x y).2 = 0 <;> simp [h]

theorem NumDoes_walk (op : Int) (s : Bool) (b x y : Int) (w : World) :
    Calls Try.prog 3 #[.int .i64 op, .agg #[.bool s, .int .i64 b], .agg #[.int .i64 x, .int .i64 y]] w fun e w' => e = .returned (.bool true) ∧ Q w w' := by
  have c1 := Do_r op s b x y
  have c2 := rDo_any op s b x y
  have c3 := Loose_r op s b x y
  have c4 := rLoose_any op s b x y
  have hp := does_parts op s b x y
  generalize rdoF op s b x y = D at *
  generalize rlooseF op s b x y = L at *
  obtain ⟨d1, d2, d3⟩ := D
  obtain ⟨l1, l2⟩ := L
  dsimp only at c1 c2 c3 c4 hp
  have C1 := hide c1
  have C2 := hide c2
  have C3 := hide c3
  have C4 := hide c4
  clear c1 c2 c3 c4
  have hcase : (d3 != 0) = true ∨ (d3 == 0) = true ∧ ((d2 != 0) = true ∨ (d2 == 0) = true ∧ (d1 == l1) = true) := by
    by_cases h3 : d3 = 0
    · by_cases h2 : d2 = 0
      · have := hp h3 h2; simp [h3, h2, this]
      · simp [h3, h2]
    · simp [h3]
  clear hp
  rcases hcase with h3 | ⟨h3, h2 | ⟨h2, h1⟩⟩
  · go_enter Try.func3, Try.ntmps3
    go_wp2_with fail
    refine (C1.out _).mono ?_
    rintro e w1 ⟨rfl, hqw1⟩
    obtain ⟨hcw1, hfw1, hzw1⟩ := hqw1.facts
    try simp at hzw1
    try have hs0w1 : w.heap.size < w1.heap.size := by omega
    try have hs1w1 : w.heap.size + 1 < w1.heap.size := by omega
    go_wp2_with fail
    refine (C2.out _).mono ?_
    rintro e w2 ⟨rfl, hqw2⟩
    obtain ⟨hcw2, hfw2, hzw2⟩ := hqw2.facts
    try simp at hzw2
    try have hs0w2 : w.heap.size < w2.heap.size := by omega
    try have hs1w2 : w.heap.size + 1 < w2.heap.size := by omega
    go_wp2_with fail
    refine (C3.out _).mono ?_
    rintro e w3 ⟨rfl, hqw3⟩
    obtain ⟨hcw3, hfw3, hzw3⟩ := hqw3.facts
    try simp at hzw3
    try have hs0w3 : w.heap.size < w3.heap.size := by omega
    try have hs1w3 : w.heap.size + 1 < w3.heap.size := by omega
    go_wp2_with fail
    refine (C4.out _).mono ?_
    rintro e w4 ⟨rfl, hqw4⟩
    obtain ⟨hcw4, hfw4, hzw4⟩ := hqw4.facts
    try simp at hzw4
    try have hs0w4 : w.heap.size < w4.heap.size := by omega
    try have hs1w4 : w.heap.size + 1 < w4.heap.size := by omega
    go_wp2_with fail
    refine (known_any _).mono ?_
    rintro e w5 ⟨rfl, hqw5⟩
    obtain ⟨hcw5, hfw5, hzw5⟩ := hqw5.facts
    try simp at hzw5
    try have hs0w5 : w.heap.size < w5.heap.size := by omega
    try have hs1w5 : w.heap.size + 1 < w5.heap.size := by omega
    go_wp2_with fail
    go_ret
    exact ⟨rfl, (by repeat (first | exact Q.refl _ | assumption | refine Q.drew ?_ | refine Q.drewN ?_ _ | refine Q.alloc ?_ _ | refine Q.set ?_ (by first | (simp; done) | (simp; omega) | omega) _ | refine Q.trans ?_ (by assumption)))⟩
  · have h3' : d3 = 0 := by simpa using h3
    subst h3'
    clear h3
    go_enter Try.func3, Try.ntmps3
    go_wp2_with fail
    refine (C1.out _).mono ?_
    rintro e w1 ⟨rfl, hqw1⟩
    obtain ⟨hcw1, hfw1, hzw1⟩ := hqw1.facts
    try simp at hzw1
    try have hs0w1 : w.heap.size < w1.heap.size := by omega
    try have hs1w1 : w.heap.size + 1 < w1.heap.size := by omega
    go_wp2_with fail
    refine (C2.out _).mono ?_
    rintro e w2 ⟨rfl, hqw2⟩
    obtain ⟨hcw2, hfw2, hzw2⟩ := hqw2.facts
    try simp at hzw2
    try have hs0w2 : w.heap.size < w2.heap.size := by omega
    try have hs1w2 : w.heap.size + 1 < w2.heap.size := by omega
    go_wp2_with fail
    refine (C3.out _).mono ?_
    rintro e w3 ⟨rfl, hqw3⟩
    obtain ⟨hcw3, hfw3, hzw3⟩ := hqw3.facts
    try simp at hzw3
    try have hs0w3 : w.heap.size < w3.heap.size := by omega
    try have hs1w3 : w.heap.size + 1 < w3.heap.size := by omega
    go_wp2_with fail
    refine (C4.out _).mono ?_
    rintro e w4 ⟨rfl, hqw4⟩
    obtain ⟨hcw4, hfw4, hzw4⟩ := hqw4.facts
    try simp at hzw4
    try have hs0w4 : w.heap.size < w4.heap.size := by omega
    try have hs1w4 : w.heap.size + 1 < w4.heap.size := by omega
    go_wp2_with fail
    refine (known_any _).mono ?_
    rintro e w5 ⟨rfl, hqw5⟩
    obtain ⟨hcw5, hfw5, hzw5⟩ := hqw5.facts
    try simp at hzw5
    try have hs0w5 : w.heap.size < w5.heap.size := by omega
    try have hs1w5 : w.heap.size + 1 < w5.heap.size := by omega
    go_wp2_with fail
    go_ret
    exact ⟨rfl, (by repeat (first | exact Q.refl _ | assumption | refine Q.drew ?_ | refine Q.drewN ?_ _ | refine Q.alloc ?_ _ | refine Q.set ?_ (by first | (simp; done) | (simp; omega) | omega) _ | refine Q.trans ?_ (by assumption)))⟩
  · have h3' : d3 = 0 := by simpa using h3
    have h2' : d2 = 0 := by simpa using h2
    have h1' : d1 = l1 := by simpa using h1
    subst h3' h2' h1'
    clear h3 h2 h1
    go_enter Try.func3, Try.ntmps3
    go_wp2_with fail
    refine (C1.out _).mono ?_
    rintro e w1 ⟨rfl, hqw1⟩
    obtain ⟨hcw1, hfw1, hzw1⟩ := hqw1.facts
    try simp at hzw1
    try have hs0w1 : w.heap.size < w1.heap.size := by omega
    try have hs1w1 : w.heap.size + 1 < w1.heap.size := by omega
    go_wp2_with fail
    refine (C2.out _).mono ?_
    rintro e w2 ⟨rfl, hqw2⟩
    obtain ⟨hcw2, hfw2, hzw2⟩ := hqw2.facts
    try simp at hzw2
    try have hs0w2 : w.heap.size < w2.heap.size := by omega
    try have hs1w2 : w.heap.size + 1 < w2.heap.size := by omega
    go_wp2_with fail
    refine (C3.out _).mono ?_
    rintro e w3 ⟨rfl, hqw3⟩
    obtain ⟨hcw3, hfw3, hzw3⟩ := hqw3.facts
    try simp at hzw3
    try have hs0w3 : w.heap.size < w3.heap.size := by omega
    try have hs1w3 : w.heap.size + 1 < w3.heap.size := by omega
    go_wp2_with fail
    refine (C4.out _).mono ?_
    rintro e w4 ⟨rfl, hqw4⟩
    obtain ⟨hcw4, hfw4, hzw4⟩ := hqw4.facts
    try simp at hzw4
    try have hs0w4 : w.heap.size < w4.heap.size := by omega
    try have hs1w4 : w.heap.size + 1 < w4.heap.size := by omega
    go_wp2_with fail
    refine (known_any _).mono ?_
    rintro e w5 ⟨rfl, hqw5⟩
    obtain ⟨hcw5, hfw5, hzw5⟩ := hqw5.facts
    try simp at hzw5
    try have hs0w5 : w.heap.size < w5.heap.size := by omega
    try have hs1w5 : w.heap.size + 1 < w5.heap.size := by omega
    go_wp2_with fail
    go_ret
    exact ⟨rfl, (by repeat (first | exact Q.refl _ | assumption | refine Q.drew ?_ | refine Q.drewN ?_ _ | refine Q.alloc ?_ _ | refine Q.set ?_ (by first | (simp; done) | (simp; omega) | omega) _ | refine Q.trans ?_ (by assumption)))⟩
end Go.Proofs.Ytcjljmegppnlcaa
