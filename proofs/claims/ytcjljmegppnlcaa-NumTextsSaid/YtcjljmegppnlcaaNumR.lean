/- The walks of the reference's small functions on numbers. Conditions: as each theorem says. -/
import Derived.Test.YtcjljmegppnlcaaNumC
import Derived.LoopTactic
namespace Go.Proofs.Ytcjljmegppnlcaa
open Go.RowKit NP
set_option linter.unusedVariables false

def withinB (n l h : Int) : Bool := decide (l ≤ n) && decide (n ≤ h)
theorem Within_any (n l h : Int) (w : World) :
    Calls Try.prog 49 #[.int .i64 n, .int .i64 l, .int .i64 h] w fun e w' => e = .returned (.bool (withinB n l h)) ∧ w = w' := by
  by_cases h1 : l ≤ n
  · go_enter Try.func49, Try.ntmps49
    go_wp2_with fail
    go_ret
    exact ⟨by simp [withinB, h1], rfl⟩
  · go_enter Try.func49, Try.ntmps49
    go_wp2_with fail
    go_ret
    exact ⟨by simp [withinB]; omega, rfl⟩

theorem rValidate_ok (s : Bool) (b : Int) (w : World) (h1 : 1 ≤ b) (h2 : b ≤ 31) :
    Calls Try.prog 25 #[.agg #[.bool s, .int .i64 b]] w fun e w' => e = .returned (.int .i64 0) ∧ Q w w' := by
  have hw : withinB b 1 31 = true := by simp [withinB, h1, h2]
  go_enter Try.func25, Try.ntmps25
  go_wp2_with fail
  refine (Within_any _ _ _ _).mono ?_
  rintro e w1 ⟨rfl, rfl⟩
  go_wp2_with fail
  go_ret
  exact ⟨rfl, (by repeat (first | exact Q.refl _ | assumption | refine Q.drew ?_ | refine Q.drewN ?_ _ | refine Q.alloc ?_ _ | refine Q.set ?_ (by first | (simp; done) | (simp; omega) | omega) _ | refine Q.trans ?_ (by assumption)))⟩
theorem rValidate_bad (s : Bool) (b : Int) (w : World) (h : ¬ (1 ≤ b ∧ b ≤ 31)) :
    Calls Try.prog 25 #[.agg #[.bool s, .int .i64 b]] w fun e w' => e = .returned (.int .i64 1) ∧ Q w w' := by
  have hw : withinB b 1 31 = false := by simp [withinB]; omega
  clear h
  go_enter Try.func25, Try.ntmps25
  go_wp2_with fail
  refine (Within_any _ _ _ _).mono ?_
  rintro e w1 ⟨rfl, rfl⟩
  go_wp2_with fail
  go_ret
  exact ⟨rfl, (by repeat (first | exact Q.refl _ | assumption | refine Q.drew ?_ | refine Q.drewN ?_ _ | refine Q.alloc ?_ _ | refine Q.set ?_ (by first | (simp; done) | (simp; omega) | omega) _ | refine Q.trans ?_ (by assumption)))⟩

theorem p2_step (k : Nat) : p2 ((k : Int) + 1) = 2 * p2 (k : Int) := by
  have := p2_succ ((k : Int) + 1) (by omega)
  rwa [show (k : Int) + 1 - 1 = (k : Int) by omega] at this

theorem span_any (s : Bool) (b : Int) (w : World) (h1 : 1 ≤ b) (h2 : b ≤ 31) :
    Calls Try.prog 66 #[.agg #[.bool s, .int .i64 b]] w fun e w' => e = .returned (.int .i64 (p2 b)) ∧ Q w w' := by
  go_enter Try.func66, Try.ntmps66
  go_wp2_with fail
  go_loop [3, 4] (fun n i => ∃ k : Nat, (k : Int) ≤ b ∧ i = .int .i64 k ∧ n = .int .i64 (p2 k)) (fun _ i => (b - intOf i).toNat)
  case atStart => exact ⟨0, by omega, rfl, by simp [p2]⟩
  case round =>
    obtain ⟨k, hk, rfl, rfl⟩ := hrel
    have p1 := p2_pos k
    have p3 := p2_le k (by omega)
    have hs := p2_step k
    have HS := hide hs
    clear hs
    by_cases hlt : (k : Int) < b
    · go_wp2_with fail
      go_round
      case rel => exact ⟨k + 1, by omega, by go_num, by rw [show ((k + 1 : Nat) : Int) = (k : Int) + 1 by omega, HS.out]; go_num⟩
      case measure => simp [intOf]; omega
    · have e : (k : Int) = b := by omega
      have E := hide e
      clear e
      go_wp2_with fail
      go_ret
      exact ⟨ret_int (by rw [E.out]), (by repeat (first | exact Q.refl _ | assumption | refine Q.drew ?_ | refine Q.drewN ?_ _ | refine Q.alloc ?_ _ | refine Q.set ?_ (by first | (simp; done) | (simp; omega) | omega) _ | refine Q.trans ?_ (by assumption)))⟩

theorem Ends_any (s : Bool) (b : Int) (w : World) (h1 : 1 ≤ b) (h2 : b ≤ 31) :
    Calls Try.prog 47 #[.agg #[.bool s, .int .i64 b]] w fun e w' => e = .returned (.tuple #[.int .i64 (lo s b), .int .i64 (hi s b)]) ∧ Q w w' := by
  obtain ⟨b1, b2, b3⟩ := p2_bd b h1 h2
  have b4 : 1 ≤ p2 b := p2_pos b
  have hh : p2 b / 2 = p2 (b - 1) := by omega
  have HH := hide hh
  have h5 : 0 ≤ p2 b / 2 := by omega
  have h6 : p2 b / 2 ≤ 1073741824 := by omega
  clear b1 hh b2
  cases s
  · go_enter Try.func47, Try.ntmps47
    go_wp2_with fail
    refine (span_any _ _ _ h1 h2).mono ?_
    rintro e w1 ⟨rfl, hqw1⟩
    obtain ⟨hcw1, hfw1, hzw1⟩ := hqw1.facts
    try simp at hzw1
    try have hs0w1 : w.heap.size < w1.heap.size := by omega
    try have hs1w1 : w.heap.size + 1 < w1.heap.size := by omega
    go_wp2_with fail
    go_ret2
    exact ⟨rfl, (by repeat (first | exact Q.refl _ | assumption | refine Q.drew ?_ | refine Q.drewN ?_ _ | refine Q.alloc ?_ _ | refine Q.set ?_ (by first | (simp; done) | (simp; omega) | omega) _ | refine Q.trans ?_ (by assumption)))⟩
  · go_enter Try.func47, Try.ntmps47
    go_wp2_with fail
    refine (span_any _ _ _ h1 h2).mono ?_
    rintro e w1 ⟨rfl, hqw1⟩
    obtain ⟨hcw1, hfw1, hzw1⟩ := hqw1.facts
    try simp at hzw1
    try have hs0w1 : w.heap.size < w1.heap.size := by omega
    try have hs1w1 : w.heap.size + 1 < w1.heap.size := by omega
    go_wp2_with fail
    go_ret2
    exact ⟨by simp only [lo, hi, if_true, ← HH.out]; rfl, (by repeat (first | exact Q.refl _ | assumption | refine Q.drew ?_ | refine Q.drewN ?_ _ | refine Q.alloc ?_ _ | refine Q.set ?_ (by first | (simp; done) | (simp; omega) | omega) _ | refine Q.trans ?_ (by assumption)))⟩

theorem fitsB_within (s : Bool) (b n : Int) : withinB n (lo s b) (hi s b) = fitsB s b n := rfl
theorem Is_any (s : Bool) (b n : Int) (w : World) (h1 : 1 ≤ b) (h2 : b ≤ 31) :
    Calls Try.prog 45 #[.agg #[.bool s, .int .i64 b], .int .i64 n] w fun e w' => e = .returned (.bool (fitsB s b n)) ∧ Q w w' := by
  go_enter Try.func45, Try.ntmps45
  go_wp2_with fail
  refine (Ends_any _ _ _ h1 h2).mono ?_
  rintro e w1 ⟨rfl, hqw1⟩
  obtain ⟨hcw1, hfw1, hzw1⟩ := hqw1.facts
  try simp at hzw1
  try have hs0w1 : w.heap.size < w1.heap.size := by omega
  try have hs1w1 : w.heap.size + 1 < w1.heap.size := by omega
  go_wp2_with fail
  refine (Within_any _ _ _ _).mono ?_
  rintro e w2 ⟨rfl, rfl⟩
  go_wp2_with fail
  go_ret
  exact ⟨rfl, (by repeat (first | exact Q.refl _ | assumption | refine Q.drew ?_ | refine Q.drewN ?_ _ | refine Q.alloc ?_ _ | refine Q.set ?_ (by first | (simp; done) | (simp; omega) | omega) _ | refine Q.trans ?_ (by assumption)))⟩

/-- what Bent does is what wrapping is -/
theorem bent_eq (s : Bool) (b n : Int) (h1 : 1 ≤ b) (h2 : b ≤ 31) :
    (if s = true ∧ p2 b / 2 ≤ (if n.tmod (p2 b) < 0 then n.tmod (p2 b) + p2 b else n.tmod (p2 b)) then (if n.tmod (p2 b) < 0 then n.tmod (p2 b) + p2 b else n.tmod (p2 b)) - p2 b
      else (if n.tmod (p2 b) < 0 then n.tmod (p2 b) + p2 b else n.tmod (p2 b))) = wrapS s b n := by
  obtain ⟨b1, b2, b3⟩ := p2_bd b h1 h2
  have e : (if n.tmod (p2 b) < 0 then n.tmod (p2 b) + p2 b else n.tmod (p2 b)) = n % p2 b := by
    have h3 : 0 ≤ n % p2 b := Int.emod_nonneg _ (by omega)
    have h4 : n % p2 b < p2 b := Int.emod_lt_of_pos _ (by omega)
    rw [Int.tmod_eq_emod]
    have hn : (p2 b).natAbs = (p2 b).toNat := by omega
    split <;> split <;> omega
  rw [e]
  have h3 : 0 ≤ n % p2 b := Int.emod_nonneg _ (by omega)
  have h4 : n % p2 b < p2 b := Int.emod_lt_of_pos _ (by omega)
  unfold wrapS hi
  cases s
  · simp; omega
  · simp only [true_and, if_true]
    by_cases hc : p2 b / 2 ≤ n % p2 b
    · rw [if_pos hc, if_pos (by omega)]
    · rw [if_neg hc, if_neg (by omega)]
theorem Bent_any (s : Bool) (b n : Int) (w : World) (h1 : 1 ≤ b) (h2 : b ≤ 31) :
    Calls Try.prog 51 #[.agg #[.bool s, .int .i64 b], .int .i64 n] w fun e w' => e = .returned (.int .i64 (wrapS s b n)) ∧ Q w w' := by
  obtain ⟨b1, b2, b3⟩ := p2_bd b h1 h2
  have b4 : 2 ≤ p2 b := by omega
  have hm : -(p2 b) < n.tmod (p2 b) ∧ n.tmod (p2 b) < p2 b := by
    rw [Int.tmod_eq_emod]
    have h3 : 0 ≤ n % p2 b := Int.emod_nonneg _ (by omega)
    have h4 : n % p2 b < p2 b := Int.emod_lt_of_pos _ (by omega)
    have hn : (p2 b).natAbs = (p2 b).toNat := by omega
    split <;> omega
  obtain ⟨m1, m2⟩ := hm
  have hnz : ¬ p2 b = 0 := by omega
  clear b1
  by_cases hl : n.tmod (p2 b) < 0
  · cases s
    · have hv : wrapS false b n = n.tmod (p2 b) + p2 b := by rw [← bent_eq _ _ _ h1 h2]; simp [hl]
      rw [hv]; clear hv
      go_enter Try.func51, Try.ntmps51
      go_wp2_with fail
      refine (span_any _ _ _ h1 h2).mono ?_
      rintro e w1 ⟨rfl, hqw1⟩
      obtain ⟨hcw1, hfw1, hzw1⟩ := hqw1.facts
      try simp at hzw1
      try have hs0w1 : w.heap.size < w1.heap.size := by omega
      try have hs1w1 : w.heap.size + 1 < w1.heap.size := by omega
      go_wp2_with fail
      go_ret
      exact ⟨rfl, (by repeat (first | exact Q.refl _ | assumption | refine Q.drew ?_ | refine Q.drewN ?_ _ | refine Q.alloc ?_ _ | refine Q.set ?_ (by first | (simp; done) | (simp; omega) | omega) _ | refine Q.trans ?_ (by assumption)))⟩
    · by_cases hg : p2 b / 2 ≤ n.tmod (p2 b) + p2 b
      · have hv : wrapS true b n = n.tmod (p2 b) := by rw [← bent_eq _ _ _ h1 h2]; simp [hl, hg]
        rw [hv]; clear hv
        go_enter Try.func51, Try.ntmps51
        go_wp2_with fail
        refine (span_any _ _ _ h1 h2).mono ?_
        rintro e w1 ⟨rfl, hqw1⟩
        obtain ⟨hcw1, hfw1, hzw1⟩ := hqw1.facts
        try simp at hzw1
        try have hs0w1 : w.heap.size < w1.heap.size := by omega
        try have hs1w1 : w.heap.size + 1 < w1.heap.size := by omega
        go_wp2_with fail
        go_ret
        exact ⟨rfl, (by repeat (first | exact Q.refl _ | assumption | refine Q.drew ?_ | refine Q.drewN ?_ _ | refine Q.alloc ?_ _ | refine Q.set ?_ (by first | (simp; done) | (simp; omega) | omega) _ | refine Q.trans ?_ (by assumption)))⟩
      · have hv : wrapS true b n = n.tmod (p2 b) + p2 b := by rw [← bent_eq _ _ _ h1 h2]; simp [hl, hg]
        rw [hv]; clear hv
        go_enter Try.func51, Try.ntmps51
        go_wp2_with fail
        refine (span_any _ _ _ h1 h2).mono ?_
        rintro e w1 ⟨rfl, hqw1⟩
        obtain ⟨hcw1, hfw1, hzw1⟩ := hqw1.facts
        try simp at hzw1
        try have hs0w1 : w.heap.size < w1.heap.size := by omega
        try have hs1w1 : w.heap.size + 1 < w1.heap.size := by omega
        go_wp2_with fail
        go_ret
        exact ⟨rfl, (by repeat (first | exact Q.refl _ | assumption | refine Q.drew ?_ | refine Q.drewN ?_ _ | refine Q.alloc ?_ _ | refine Q.set ?_ (by first | (simp; done) | (simp; omega) | omega) _ | refine Q.trans ?_ (by assumption)))⟩
  · cases s
    · have hv : wrapS false b n = n.tmod (p2 b) := by rw [← bent_eq _ _ _ h1 h2]; simp [hl]
      rw [hv]; clear hv
      go_enter Try.func51, Try.ntmps51
      go_wp2_with fail
      refine (span_any _ _ _ h1 h2).mono ?_
      rintro e w1 ⟨rfl, hqw1⟩
      obtain ⟨hcw1, hfw1, hzw1⟩ := hqw1.facts
      try simp at hzw1
      try have hs0w1 : w.heap.size < w1.heap.size := by omega
      try have hs1w1 : w.heap.size + 1 < w1.heap.size := by omega
      go_wp2_with fail
      go_ret
      exact ⟨rfl, (by repeat (first | exact Q.refl _ | assumption | refine Q.drew ?_ | refine Q.drewN ?_ _ | refine Q.alloc ?_ _ | refine Q.set ?_ (by first | (simp; done) | (simp; omega) | omega) _ | refine Q.trans ?_ (by assumption)))⟩
    · by_cases hg : p2 b / 2 ≤ n.tmod (p2 b)
      · have hv : wrapS true b n = n.tmod (p2 b) - p2 b := by rw [← bent_eq _ _ _ h1 h2]; simp [hl, hg]
        rw [hv]; clear hv
        go_enter Try.func51, Try.ntmps51
        go_wp2_with fail
        refine (span_any _ _ _ h1 h2).mono ?_
        rintro e w1 ⟨rfl, hqw1⟩
        obtain ⟨hcw1, hfw1, hzw1⟩ := hqw1.facts
        try simp at hzw1
        try have hs0w1 : w.heap.size < w1.heap.size := by omega
        try have hs1w1 : w.heap.size + 1 < w1.heap.size := by omega
        go_wp2_with fail
        go_ret
        exact ⟨rfl, (by repeat (first | exact Q.refl _ | assumption | refine Q.drew ?_ | refine Q.drewN ?_ _ | refine Q.alloc ?_ _ | refine Q.set ?_ (by first | (simp; done) | (simp; omega) | omega) _ | refine Q.trans ?_ (by assumption)))⟩
      · have hv : wrapS true b n = n.tmod (p2 b) := by rw [← bent_eq _ _ _ h1 h2]; simp [hl, hg]
        rw [hv]; clear hv
        go_enter Try.func51, Try.ntmps51
        go_wp2_with fail
        refine (span_any _ _ _ h1 h2).mono ?_
        rintro e w1 ⟨rfl, hqw1⟩
        obtain ⟨hcw1, hfw1, hzw1⟩ := hqw1.facts
        try simp at hzw1
        try have hs0w1 : w.heap.size < w1.heap.size := by omega
        try have hs1w1 : w.heap.size + 1 < w1.heap.size := by omega
        go_wp2_with fail
        go_ret
        exact ⟨rfl, (by repeat (first | exact Q.refl _ | assumption | refine Q.drew ?_ | refine Q.drewN ?_ _ | refine Q.alloc ?_ _ | refine Q.set ?_ (by first | (simp; done) | (simp; omega) | omega) _ | refine Q.trans ?_ (by assumption)))⟩

theorem nearest_any (s : Bool) (b n : Int) (w : World) (h1 : 1 ≤ b) (h2 : b ≤ 31) :
    Calls Try.prog 53 #[.agg #[.bool s, .int .i64 b], .int .i64 n] w fun e w' => e = .returned (.int .i64 (nearS s b n)) ∧ Q w w' := by
  by_cases hl : n < lo s b
  · have e : nearS s b n = lo s b := by simp [nearS, hl]
    rw [e]; clear e
    go_enter Try.func53, Try.ntmps53
    go_wp2_with fail
    refine (Ends_any _ _ _ h1 h2).mono ?_
    rintro e w1 ⟨rfl, hqw1⟩
    obtain ⟨hcw1, hfw1, hzw1⟩ := hqw1.facts
    try simp at hzw1
    try have hs0w1 : w.heap.size < w1.heap.size := by omega
    try have hs1w1 : w.heap.size + 1 < w1.heap.size := by omega
    go_wp2_with fail
    go_ret
    exact ⟨rfl, (by repeat (first | exact Q.refl _ | assumption | refine Q.drew ?_ | refine Q.drewN ?_ _ | refine Q.alloc ?_ _ | refine Q.set ?_ (by first | (simp; done) | (simp; omega) | omega) _ | refine Q.trans ?_ (by assumption)))⟩
  · by_cases hh : hi s b < n
    · have e : nearS s b n = hi s b := by simp [nearS, hl, hh]
      rw [e]; clear e
      go_enter Try.func53, Try.ntmps53
      go_wp2_with fail
      refine (Ends_any _ _ _ h1 h2).mono ?_
      rintro e w1 ⟨rfl, hqw1⟩
      obtain ⟨hcw1, hfw1, hzw1⟩ := hqw1.facts
      try simp at hzw1
      try have hs0w1 : w.heap.size < w1.heap.size := by omega
      try have hs1w1 : w.heap.size + 1 < w1.heap.size := by omega
      go_wp2_with fail
      go_ret
      exact ⟨rfl, (by repeat (first | exact Q.refl _ | assumption | refine Q.drew ?_ | refine Q.drewN ?_ _ | refine Q.alloc ?_ _ | refine Q.set ?_ (by first | (simp; done) | (simp; omega) | omega) _ | refine Q.trans ?_ (by assumption)))⟩
    · have e : nearS s b n = n := by simp [nearS, hl, hh]
      rw [e]; clear e
      go_enter Try.func53, Try.ntmps53
      go_wp2_with fail
      refine (Ends_any _ _ _ h1 h2).mono ?_
      rintro e w1 ⟨rfl, hqw1⟩
      obtain ⟨hcw1, hfw1, hzw1⟩ := hqw1.facts
      try simp at hzw1
      try have hs0w1 : w.heap.size < w1.heap.size := by omega
      try have hs1w1 : w.heap.size + 1 < w1.heap.size := by omega
      go_wp2_with fail
      go_ret
      exact ⟨rfl, (by repeat (first | exact Q.refl _ | assumption | refine Q.drew ?_ | refine Q.drewN ?_ _ | refine Q.alloc ?_ _ | refine Q.set ?_ (by first | (simp; done) | (simp; omega) | omega) _ | refine Q.trans ?_ (by assumption)))⟩
end Go.Proofs.Ytcjljmegppnlcaa
