/- The law HeapNil, walked. Conditions: none. -/
import Derived.Test.YtegpkcbmgjoicaaHqG
namespace Go.Proofs.Ytegpkcbmgjoicaa
open Go.RowKit HP
set_option linter.unusedVariables false
set_option maxHeartbeats 4000000 in
set_option maxRecDepth 100000 in
theorem heapNil_any (op a b : Int) (w : World) : Calls Try.prog 6 #[.agg #[.int .i64 op, .int .i64 a, .int .i64 b]] w fun e w' => e = .returned (.bool true) ∧ Q w w' := by
  have HA : Hid (∀ W, Calls Try.prog 13 #[.pointer none, .agg #[.int .i64 op, .int .i64 a, .int .i64 b]] W fun e w' => e = .returned (.tuple #[.int .i64 0, .int .i64 (if isAct op then 9 else 0)]) ∧ Q W w') := fun W => act_nil op a b W
  have HN : Hid (∀ W, Calls Try.prog 9 #[.int .i64 2, .int .i64 8, .int .i64 0] W fun e w' => ∃ g, e = .returned (.tuple #[.pointer (some ⟨g, 0, none⟩), .int .i64 0]) ∧ Q W w') := fun W => (own_new (kind := 2) (size := 8) (piece := 0) (by decide) W).mono (by
    rintro e w' ⟨g, h, O⟩
    exact ⟨g, h, O.toQ⟩)
  obtain ⟨is, his⟩ : ∃ is, isAct op = is := ⟨_, rfl⟩
  rw [his] at HA
  cases is
  · unfold isAct at his
    cases h1 : decide (0 ≤ op)
    · clear his
      go_enter Try.func6, Try.ntmps6
      go_wp2_with fail
      refine (HA.out _).mono ?_
      rintro e w1 ⟨rfl, hqw1⟩
      obtain ⟨hcw1, hfw1, hzw1⟩ := hqw1.facts
      try simp at hzw1
      try have hs0w1 : w.heap.size < w1.heap.size := by omega
      try have hs1w1 : w.heap.size + 1 < w1.heap.size := by omega
      go_wp2_with fail
      refine (HN.out _).mono ?_
      rintro e w2 ⟨g, rfl, hqw2⟩
      go_wp2_with fail
      refine (nil_live _).mono ?_
      rintro e w3 ⟨rfl, hqw3⟩
      obtain ⟨hcw3, hfw3, hzw3⟩ := hqw3.facts
      try simp at hzw3
      try have hs0w3 : w.heap.size < w3.heap.size := by omega
      try have hs1w3 : w.heap.size + 1 < w3.heap.size := by omega
      go_wp2_with fail
      refine (nil_used _).mono ?_
      rintro e w4 ⟨rfl, hqw4⟩
      obtain ⟨hcw4, hfw4, hzw4⟩ := hqw4.facts
      try simp at hzw4
      try have hs0w4 : w.heap.size < w4.heap.size := by omega
      try have hs1w4 : w.heap.size + 1 < w4.heap.size := by omega
      go_wp2_with fail
      refine (nil_peak _).mono ?_
      rintro e w5 ⟨rfl, hqw5⟩
      obtain ⟨hcw5, hfw5, hzw5⟩ := hqw5.facts
      try simp at hzw5
      try have hs0w5 : w.heap.size < w5.heap.size := by omega
      try have hs1w5 : w.heap.size + 1 < w5.heap.size := by omega
      go_wp2_with fail
      refine (nil_calls _).mono ?_
      rintro e w6 ⟨rfl, hqw6⟩
      obtain ⟨hcw6, hfw6, hzw6⟩ := hqw6.facts
      try simp at hzw6
      try have hs0w6 : w.heap.size < w6.heap.size := by omega
      try have hs1w6 : w.heap.size + 1 < w6.heap.size := by omega
      go_wp2_with fail
      refine (nil_copy _).mono ?_
      rintro e w7 ⟨rfl, hqw7⟩
      obtain ⟨hcw7, hfw7, hzw7⟩ := hqw7.facts
      try simp at hzw7
      try have hs0w7 : w.heap.size < w7.heap.size := by omega
      try have hs1w7 : w.heap.size + 1 < w7.heap.size := by omega
      go_wp2_with fail
      refine (same_nils _).mono ?_
      rintro e w8 ⟨rfl, hqw8⟩
      obtain ⟨hcw8, hfw8, hzw8⟩ := hqw8.facts
      try simp at hzw8
      try have hs0w8 : w.heap.size < w8.heap.size := by omega
      try have hs1w8 : w.heap.size + 1 < w8.heap.size := by omega
      go_wp2_with fail
      refine (same_nil g _).mono ?_
      rintro e w9 ⟨rfl, hqw9⟩
      obtain ⟨hcw9, hfw9, hzw9⟩ := hqw9.facts
      try simp at hzw9
      try have hs0w9 : w.heap.size < w9.heap.size := by omega
      try have hs1w9 : w.heap.size + 1 < w9.heap.size := by omega
      go_wp2_with fail
      refine (known_any _).mono ?_
      rintro e w10 ⟨rfl, hqw10⟩
      obtain ⟨hcw10, hfw10, hzw10⟩ := hqw10.facts
      try simp at hzw10
      try have hs0w10 : w.heap.size < w10.heap.size := by omega
      try have hs1w10 : w.heap.size + 1 < w10.heap.size := by omega
      go_wp2_with fail
      go_ret
      exact ⟨rfl, (by repeat (first | exact Q.refl _ | assumption | refine Q.drew ?_ | refine Q.drewN ?_ _ | refine Q.alloc ?_ _ | refine Q.set ?_ (by first | (simp; done) | (simp; omega) | omega) _ | refine Q.trans ?_ (by assumption)))⟩
    · have h2 : decide (op ≤ 6) = false := by rw [h1] at his; simpa using his
      clear his
      go_enter Try.func6, Try.ntmps6
      go_wp2_with fail
      refine (HA.out _).mono ?_
      rintro e w1 ⟨rfl, hqw1⟩
      obtain ⟨hcw1, hfw1, hzw1⟩ := hqw1.facts
      try simp at hzw1
      try have hs0w1 : w.heap.size < w1.heap.size := by omega
      try have hs1w1 : w.heap.size + 1 < w1.heap.size := by omega
      go_wp2_with fail
      refine (HN.out _).mono ?_
      rintro e w2 ⟨g, rfl, hqw2⟩
      go_wp2_with fail
      refine (nil_live _).mono ?_
      rintro e w3 ⟨rfl, hqw3⟩
      obtain ⟨hcw3, hfw3, hzw3⟩ := hqw3.facts
      try simp at hzw3
      try have hs0w3 : w.heap.size < w3.heap.size := by omega
      try have hs1w3 : w.heap.size + 1 < w3.heap.size := by omega
      go_wp2_with fail
      refine (nil_used _).mono ?_
      rintro e w4 ⟨rfl, hqw4⟩
      obtain ⟨hcw4, hfw4, hzw4⟩ := hqw4.facts
      try simp at hzw4
      try have hs0w4 : w.heap.size < w4.heap.size := by omega
      try have hs1w4 : w.heap.size + 1 < w4.heap.size := by omega
      go_wp2_with fail
      refine (nil_peak _).mono ?_
      rintro e w5 ⟨rfl, hqw5⟩
      obtain ⟨hcw5, hfw5, hzw5⟩ := hqw5.facts
      try simp at hzw5
      try have hs0w5 : w.heap.size < w5.heap.size := by omega
      try have hs1w5 : w.heap.size + 1 < w5.heap.size := by omega
      go_wp2_with fail
      refine (nil_calls _).mono ?_
      rintro e w6 ⟨rfl, hqw6⟩
      obtain ⟨hcw6, hfw6, hzw6⟩ := hqw6.facts
      try simp at hzw6
      try have hs0w6 : w.heap.size < w6.heap.size := by omega
      try have hs1w6 : w.heap.size + 1 < w6.heap.size := by omega
      go_wp2_with fail
      refine (nil_copy _).mono ?_
      rintro e w7 ⟨rfl, hqw7⟩
      obtain ⟨hcw7, hfw7, hzw7⟩ := hqw7.facts
      try simp at hzw7
      try have hs0w7 : w.heap.size < w7.heap.size := by omega
      try have hs1w7 : w.heap.size + 1 < w7.heap.size := by omega
      go_wp2_with fail
      refine (same_nils _).mono ?_
      rintro e w8 ⟨rfl, hqw8⟩
      obtain ⟨hcw8, hfw8, hzw8⟩ := hqw8.facts
      try simp at hzw8
      try have hs0w8 : w.heap.size < w8.heap.size := by omega
      try have hs1w8 : w.heap.size + 1 < w8.heap.size := by omega
      go_wp2_with fail
      refine (same_nil g _).mono ?_
      rintro e w9 ⟨rfl, hqw9⟩
      obtain ⟨hcw9, hfw9, hzw9⟩ := hqw9.facts
      try simp at hzw9
      try have hs0w9 : w.heap.size < w9.heap.size := by omega
      try have hs1w9 : w.heap.size + 1 < w9.heap.size := by omega
      go_wp2_with fail
      refine (known_any _).mono ?_
      rintro e w10 ⟨rfl, hqw10⟩
      obtain ⟨hcw10, hfw10, hzw10⟩ := hqw10.facts
      try simp at hzw10
      try have hs0w10 : w.heap.size < w10.heap.size := by omega
      try have hs1w10 : w.heap.size + 1 < w10.heap.size := by omega
      go_wp2_with fail
      go_ret
      exact ⟨rfl, (by repeat (first | exact Q.refl _ | assumption | refine Q.drew ?_ | refine Q.drewN ?_ _ | refine Q.alloc ?_ _ | refine Q.set ?_ (by first | (simp; done) | (simp; omega) | omega) _ | refine Q.trans ?_ (by assumption)))⟩
  · unfold isAct at his
    rw [Bool.and_eq_true] at his
    obtain ⟨h1, h2⟩ := his
    go_enter Try.func6, Try.ntmps6
    go_wp2_with fail
    refine (HA.out _).mono ?_
    rintro e w1 ⟨rfl, hqw1⟩
    obtain ⟨hcw1, hfw1, hzw1⟩ := hqw1.facts
    try simp at hzw1
    try have hs0w1 : w.heap.size < w1.heap.size := by omega
    try have hs1w1 : w.heap.size + 1 < w1.heap.size := by omega
    go_wp2_with fail
    refine (HN.out _).mono ?_
    rintro e w2 ⟨g, rfl, hqw2⟩
    go_wp2_with fail
    refine (nil_live _).mono ?_
    rintro e w3 ⟨rfl, hqw3⟩
    obtain ⟨hcw3, hfw3, hzw3⟩ := hqw3.facts
    try simp at hzw3
    try have hs0w3 : w.heap.size < w3.heap.size := by omega
    try have hs1w3 : w.heap.size + 1 < w3.heap.size := by omega
    go_wp2_with fail
    refine (nil_used _).mono ?_
    rintro e w4 ⟨rfl, hqw4⟩
    obtain ⟨hcw4, hfw4, hzw4⟩ := hqw4.facts
    try simp at hzw4
    try have hs0w4 : w.heap.size < w4.heap.size := by omega
    try have hs1w4 : w.heap.size + 1 < w4.heap.size := by omega
    go_wp2_with fail
    refine (nil_peak _).mono ?_
    rintro e w5 ⟨rfl, hqw5⟩
    obtain ⟨hcw5, hfw5, hzw5⟩ := hqw5.facts
    try simp at hzw5
    try have hs0w5 : w.heap.size < w5.heap.size := by omega
    try have hs1w5 : w.heap.size + 1 < w5.heap.size := by omega
    go_wp2_with fail
    refine (nil_calls _).mono ?_
    rintro e w6 ⟨rfl, hqw6⟩
    obtain ⟨hcw6, hfw6, hzw6⟩ := hqw6.facts
    try simp at hzw6
    try have hs0w6 : w.heap.size < w6.heap.size := by omega
    try have hs1w6 : w.heap.size + 1 < w6.heap.size := by omega
    go_wp2_with fail
    refine (nil_copy _).mono ?_
    rintro e w7 ⟨rfl, hqw7⟩
    obtain ⟨hcw7, hfw7, hzw7⟩ := hqw7.facts
    try simp at hzw7
    try have hs0w7 : w.heap.size < w7.heap.size := by omega
    try have hs1w7 : w.heap.size + 1 < w7.heap.size := by omega
    go_wp2_with fail
    refine (same_nils _).mono ?_
    rintro e w8 ⟨rfl, hqw8⟩
    obtain ⟨hcw8, hfw8, hzw8⟩ := hqw8.facts
    try simp at hzw8
    try have hs0w8 : w.heap.size < w8.heap.size := by omega
    try have hs1w8 : w.heap.size + 1 < w8.heap.size := by omega
    go_wp2_with fail
    refine (same_nil g _).mono ?_
    rintro e w9 ⟨rfl, hqw9⟩
    obtain ⟨hcw9, hfw9, hzw9⟩ := hqw9.facts
    try simp at hzw9
    try have hs0w9 : w.heap.size < w9.heap.size := by omega
    try have hs1w9 : w.heap.size + 1 < w9.heap.size := by omega
    go_wp2_with fail
    refine (known_any _).mono ?_
    rintro e w10 ⟨rfl, hqw10⟩
    obtain ⟨hcw10, hfw10, hzw10⟩ := hqw10.facts
    try simp at hzw10
    try have hs0w10 : w.heap.size < w10.heap.size := by omega
    try have hs1w10 : w.heap.size + 1 < w10.heap.size := by omega
    go_wp2_with fail
    go_ret
    exact ⟨rfl, (by repeat (first | exact Q.refl _ | assumption | refine Q.drew ?_ | refine Q.drewN ?_ _ | refine Q.alloc ?_ _ | refine Q.set ?_ (by first | (simp; done) | (simp; omega) | omega) _ | refine Q.trans ?_ (by assumption)))⟩
end Go.Proofs.Ytegpkcbmgjoicaa
