/- The walks of the exported functions on types: Least, Greatest, Fits, Wrap, Near, of the program and of the reference. Conditions: none. -/
import Derived.Test.YtcjljmegppnlcaaNumR
import Derived.Test.YtcjljmegppnlcaaNumB
namespace Go.Proofs.Ytcjljmegppnlcaa
open Go.RowKit NP
set_option linter.unusedVariables false
def typI (s : Bool) (b v : Int) : Int × Int := if 1 ≤ b ∧ b ≤ 31 then (v, 0) else (0, 1)
def typB (b : Int) (v : Bool) : Bool × Int := if 1 ≤ b ∧ b ≤ 31 then (v, 0) else (false, 1)
theorem numLeast_any (s : Bool) (b : Int) (w : World) :
    Calls Try.prog 19 #[.agg #[.bool s, .int .i64 b]] w fun e w' => e = .returned (.tuple #[.int .i64 (typI s b (lo s b)).1, .int .i64 (typI s b (lo s b)).2]) ∧ Q w w' := by
  by_cases hv : 1 ≤ b ∧ b ≤ 31
  · rw [show typI s b (lo s b) = (lo s b, 0) by simp only [typI, if_pos hv]]
    obtain ⟨h1, h2⟩ := hv
    go_enter Try.func19, Try.ntmps19
    go_wp2_with fail
    refine (validate_ok _ _ _ h1 h2).mono ?_
    rintro e w1 ⟨rfl, hqw1⟩
    obtain ⟨hcw1, hfw1, hzw1⟩ := hqw1.facts
    try simp at hzw1
    try have hs0w1 : w.heap.size < w1.heap.size := by omega
    try have hs1w1 : w.heap.size + 1 < w1.heap.size := by omega
    go_wp2_with fail
    refine (least_any _ _ _ h1 h2).mono ?_
    rintro e w2 ⟨rfl, hqw2⟩
    obtain ⟨hcw2, hfw2, hzw2⟩ := hqw2.facts
    try simp at hzw2
    try have hs0w2 : w.heap.size < w2.heap.size := by omega
    try have hs1w2 : w.heap.size + 1 < w2.heap.size := by omega
    go_wp2_with fail
    go_ret2
    exact ⟨rfl, (by repeat (first | exact Q.refl _ | assumption | refine Q.drew ?_ | refine Q.drewN ?_ _ | refine Q.alloc ?_ _ | refine Q.set ?_ (by first | (simp; done) | (simp; omega) | omega) _ | refine Q.trans ?_ (by assumption)))⟩
  · rw [show typI s b (lo s b) = (0, 1) by simp only [typI, if_neg hv]]
    go_enter Try.func19, Try.ntmps19
    go_wp2_with fail
    refine (validate_bad _ _ _ hv).mono ?_
    rintro e w1 ⟨rfl, hqw1⟩
    obtain ⟨hcw1, hfw1, hzw1⟩ := hqw1.facts
    try simp at hzw1
    try have hs0w1 : w.heap.size < w1.heap.size := by omega
    try have hs1w1 : w.heap.size + 1 < w1.heap.size := by omega
    go_wp2_with fail
    go_ret2
    exact ⟨rfl, (by repeat (first | exact Q.refl _ | assumption | refine Q.drew ?_ | refine Q.drewN ?_ _ | refine Q.alloc ?_ _ | refine Q.set ?_ (by first | (simp; done) | (simp; omega) | omega) _ | refine Q.trans ?_ (by assumption)))⟩
theorem numGreatest_any (s : Bool) (b : Int) (w : World) :
    Calls Try.prog 21 #[.agg #[.bool s, .int .i64 b]] w fun e w' => e = .returned (.tuple #[.int .i64 (typI s b (hi s b)).1, .int .i64 (typI s b (hi s b)).2]) ∧ Q w w' := by
  by_cases hv : 1 ≤ b ∧ b ≤ 31
  · rw [show typI s b (hi s b) = (hi s b, 0) by simp only [typI, if_pos hv]]
    obtain ⟨h1, h2⟩ := hv
    go_enter Try.func21, Try.ntmps21
    go_wp2_with fail
    refine (validate_ok _ _ _ h1 h2).mono ?_
    rintro e w1 ⟨rfl, hqw1⟩
    obtain ⟨hcw1, hfw1, hzw1⟩ := hqw1.facts
    try simp at hzw1
    try have hs0w1 : w.heap.size < w1.heap.size := by omega
    try have hs1w1 : w.heap.size + 1 < w1.heap.size := by omega
    go_wp2_with fail
    refine (greatest_any _ _ _ h1 h2).mono ?_
    rintro e w2 ⟨rfl, hqw2⟩
    obtain ⟨hcw2, hfw2, hzw2⟩ := hqw2.facts
    try simp at hzw2
    try have hs0w2 : w.heap.size < w2.heap.size := by omega
    try have hs1w2 : w.heap.size + 1 < w2.heap.size := by omega
    go_wp2_with fail
    go_ret2
    exact ⟨rfl, (by repeat (first | exact Q.refl _ | assumption | refine Q.drew ?_ | refine Q.drewN ?_ _ | refine Q.alloc ?_ _ | refine Q.set ?_ (by first | (simp; done) | (simp; omega) | omega) _ | refine Q.trans ?_ (by assumption)))⟩
  · rw [show typI s b (hi s b) = (0, 1) by simp only [typI, if_neg hv]]
    go_enter Try.func21, Try.ntmps21
    go_wp2_with fail
    refine (validate_bad _ _ _ hv).mono ?_
    rintro e w1 ⟨rfl, hqw1⟩
    obtain ⟨hcw1, hfw1, hzw1⟩ := hqw1.facts
    try simp at hzw1
    try have hs0w1 : w.heap.size < w1.heap.size := by omega
    try have hs1w1 : w.heap.size + 1 < w1.heap.size := by omega
    go_wp2_with fail
    go_ret2
    exact ⟨rfl, (by repeat (first | exact Q.refl _ | assumption | refine Q.drew ?_ | refine Q.drewN ?_ _ | refine Q.alloc ?_ _ | refine Q.set ?_ (by first | (simp; done) | (simp; omega) | omega) _ | refine Q.trans ?_ (by assumption)))⟩
theorem numFits_any (s : Bool) (b n : Int) (w : World) :
    Calls Try.prog 16 #[.agg #[.bool s, .int .i64 b], .int .i64 n] w fun e w' => e = .returned (.tuple #[.bool (typB b (fitsB s b n)).1, .int .i64 (typB b (fitsB s b n)).2]) ∧ Q w w' := by
  by_cases hv : 1 ≤ b ∧ b ≤ 31
  · rw [show typB b (fitsB s b n) = (fitsB s b n, 0) by simp only [typB, if_pos hv]]
    obtain ⟨h1, h2⟩ := hv
    go_enter Try.func16, Try.ntmps16
    go_wp2_with fail
    refine (validate_ok _ _ _ h1 h2).mono ?_
    rintro e w1 ⟨rfl, hqw1⟩
    obtain ⟨hcw1, hfw1, hzw1⟩ := hqw1.facts
    try simp at hzw1
    try have hs0w1 : w.heap.size < w1.heap.size := by omega
    try have hs1w1 : w.heap.size + 1 < w1.heap.size := by omega
    go_wp2_with fail
    refine (fits_any _ _ _ _ h1 h2).mono ?_
    rintro e w2 ⟨rfl, hqw2⟩
    obtain ⟨hcw2, hfw2, hzw2⟩ := hqw2.facts
    try simp at hzw2
    try have hs0w2 : w.heap.size < w2.heap.size := by omega
    try have hs1w2 : w.heap.size + 1 < w2.heap.size := by omega
    go_wp2_with fail
    go_ret2
    exact ⟨rfl, (by repeat (first | exact Q.refl _ | assumption | refine Q.drew ?_ | refine Q.drewN ?_ _ | refine Q.alloc ?_ _ | refine Q.set ?_ (by first | (simp; done) | (simp; omega) | omega) _ | refine Q.trans ?_ (by assumption)))⟩
  · rw [show typB b (fitsB s b n) = (false, 1) by simp only [typB, if_neg hv]]
    go_enter Try.func16, Try.ntmps16
    go_wp2_with fail
    refine (validate_bad _ _ _ hv).mono ?_
    rintro e w1 ⟨rfl, hqw1⟩
    obtain ⟨hcw1, hfw1, hzw1⟩ := hqw1.facts
    try simp at hzw1
    try have hs0w1 : w.heap.size < w1.heap.size := by omega
    try have hs1w1 : w.heap.size + 1 < w1.heap.size := by omega
    go_wp2_with fail
    go_ret2
    exact ⟨rfl, (by repeat (first | exact Q.refl _ | assumption | refine Q.drew ?_ | refine Q.drewN ?_ _ | refine Q.alloc ?_ _ | refine Q.set ?_ (by first | (simp; done) | (simp; omega) | omega) _ | refine Q.trans ?_ (by assumption)))⟩
theorem numWrap_any (s : Bool) (b n : Int) (w : World) :
    Calls Try.prog 26 #[.agg #[.bool s, .int .i64 b], .int .i64 n] w fun e w' => e = .returned (.tuple #[.int .i64 (typI s b (wrapS s b n)).1, .int .i64 (typI s b (wrapS s b n)).2]) ∧ Q w w' := by
  by_cases hv : 1 ≤ b ∧ b ≤ 31
  · rw [show typI s b (wrapS s b n) = (wrapS s b n, 0) by simp only [typI, if_pos hv]]
    obtain ⟨h1, h2⟩ := hv
    go_enter Try.func26, Try.ntmps26
    go_wp2_with fail
    refine (validate_ok _ _ _ h1 h2).mono ?_
    rintro e w1 ⟨rfl, hqw1⟩
    obtain ⟨hcw1, hfw1, hzw1⟩ := hqw1.facts
    try simp at hzw1
    try have hs0w1 : w.heap.size < w1.heap.size := by omega
    try have hs1w1 : w.heap.size + 1 < w1.heap.size := by omega
    go_wp2_with fail
    refine (wrap_any _ _ _ _ h1 h2).mono ?_
    rintro e w2 ⟨rfl, hqw2⟩
    obtain ⟨hcw2, hfw2, hzw2⟩ := hqw2.facts
    try simp at hzw2
    try have hs0w2 : w.heap.size < w2.heap.size := by omega
    try have hs1w2 : w.heap.size + 1 < w2.heap.size := by omega
    go_wp2_with fail
    go_ret2
    exact ⟨rfl, (by repeat (first | exact Q.refl _ | assumption | refine Q.drew ?_ | refine Q.drewN ?_ _ | refine Q.alloc ?_ _ | refine Q.set ?_ (by first | (simp; done) | (simp; omega) | omega) _ | refine Q.trans ?_ (by assumption)))⟩
  · rw [show typI s b (wrapS s b n) = (0, 1) by simp only [typI, if_neg hv]]
    go_enter Try.func26, Try.ntmps26
    go_wp2_with fail
    refine (validate_bad _ _ _ hv).mono ?_
    rintro e w1 ⟨rfl, hqw1⟩
    obtain ⟨hcw1, hfw1, hzw1⟩ := hqw1.facts
    try simp at hzw1
    try have hs0w1 : w.heap.size < w1.heap.size := by omega
    try have hs1w1 : w.heap.size + 1 < w1.heap.size := by omega
    go_wp2_with fail
    go_ret2
    exact ⟨rfl, (by repeat (first | exact Q.refl _ | assumption | refine Q.drew ?_ | refine Q.drewN ?_ _ | refine Q.alloc ?_ _ | refine Q.set ?_ (by first | (simp; done) | (simp; omega) | omega) _ | refine Q.trans ?_ (by assumption)))⟩
theorem numNear_any (s : Bool) (b n : Int) (w : World) :
    Calls Try.prog 28 #[.agg #[.bool s, .int .i64 b], .int .i64 n] w fun e w' => e = .returned (.tuple #[.int .i64 (typI s b (nearS s b n)).1, .int .i64 (typI s b (nearS s b n)).2]) ∧ Q w w' := by
  by_cases hv : 1 ≤ b ∧ b ≤ 31
  · rw [show typI s b (nearS s b n) = (nearS s b n, 0) by simp only [typI, if_pos hv]]
    obtain ⟨h1, h2⟩ := hv
    go_enter Try.func28, Try.ntmps28
    go_wp2_with fail
    refine (validate_ok _ _ _ h1 h2).mono ?_
    rintro e w1 ⟨rfl, hqw1⟩
    obtain ⟨hcw1, hfw1, hzw1⟩ := hqw1.facts
    try simp at hzw1
    try have hs0w1 : w.heap.size < w1.heap.size := by omega
    try have hs1w1 : w.heap.size + 1 < w1.heap.size := by omega
    go_wp2_with fail
    refine (near_any _ _ _ _ h1 h2).mono ?_
    rintro e w2 ⟨rfl, hqw2⟩
    obtain ⟨hcw2, hfw2, hzw2⟩ := hqw2.facts
    try simp at hzw2
    try have hs0w2 : w.heap.size < w2.heap.size := by omega
    try have hs1w2 : w.heap.size + 1 < w2.heap.size := by omega
    go_wp2_with fail
    go_ret2
    exact ⟨rfl, (by repeat (first | exact Q.refl _ | assumption | refine Q.drew ?_ | refine Q.drewN ?_ _ | refine Q.alloc ?_ _ | refine Q.set ?_ (by first | (simp; done) | (simp; omega) | omega) _ | refine Q.trans ?_ (by assumption)))⟩
  · rw [show typI s b (nearS s b n) = (0, 1) by simp only [typI, if_neg hv]]
    go_enter Try.func28, Try.ntmps28
    go_wp2_with fail
    refine (validate_bad _ _ _ hv).mono ?_
    rintro e w1 ⟨rfl, hqw1⟩
    obtain ⟨hcw1, hfw1, hzw1⟩ := hqw1.facts
    try simp at hzw1
    try have hs0w1 : w.heap.size < w1.heap.size := by omega
    try have hs1w1 : w.heap.size + 1 < w1.heap.size := by omega
    go_wp2_with fail
    go_ret2
    exact ⟨rfl, (by repeat (first | exact Q.refl _ | assumption | refine Q.drew ?_ | refine Q.drewN ?_ _ | refine Q.alloc ?_ _ | refine Q.set ?_ (by first | (simp; done) | (simp; omega) | omega) _ | refine Q.trans ?_ (by assumption)))⟩
theorem refLeast_any (s : Bool) (b : Int) (w : World) :
    Calls Try.prog 20 #[.agg #[.bool s, .int .i64 b]] w fun e w' => e = .returned (.tuple #[.int .i64 (typI s b (lo s b)).1, .int .i64 (typI s b (lo s b)).2]) ∧ Q w w' := by
  by_cases hv : 1 ≤ b ∧ b ≤ 31
  · rw [show typI s b (lo s b) = (lo s b, 0) by simp only [typI, if_pos hv]]
    obtain ⟨h1, h2⟩ := hv
    go_enter Try.func20, Try.ntmps20
    go_wp2_with fail
    refine (rValidate_ok _ _ _ h1 h2).mono ?_
    rintro e w1 ⟨rfl, hqw1⟩
    obtain ⟨hcw1, hfw1, hzw1⟩ := hqw1.facts
    try simp at hzw1
    try have hs0w1 : w.heap.size < w1.heap.size := by omega
    try have hs1w1 : w.heap.size + 1 < w1.heap.size := by omega
    go_wp2_with fail
    refine (Ends_any _ _ _ h1 h2).mono ?_
    rintro e w2 ⟨rfl, hqw2⟩
    obtain ⟨hcw2, hfw2, hzw2⟩ := hqw2.facts
    try simp at hzw2
    try have hs0w2 : w.heap.size < w2.heap.size := by omega
    try have hs1w2 : w.heap.size + 1 < w2.heap.size := by omega
    go_wp2_with fail
    go_ret2
    exact ⟨rfl, (by repeat (first | exact Q.refl _ | assumption | refine Q.drew ?_ | refine Q.drewN ?_ _ | refine Q.alloc ?_ _ | refine Q.set ?_ (by first | (simp; done) | (simp; omega) | omega) _ | refine Q.trans ?_ (by assumption)))⟩
  · rw [show typI s b (lo s b) = (0, 1) by simp only [typI, if_neg hv]]
    go_enter Try.func20, Try.ntmps20
    go_wp2_with fail
    refine (rValidate_bad _ _ _ hv).mono ?_
    rintro e w1 ⟨rfl, hqw1⟩
    obtain ⟨hcw1, hfw1, hzw1⟩ := hqw1.facts
    try simp at hzw1
    try have hs0w1 : w.heap.size < w1.heap.size := by omega
    try have hs1w1 : w.heap.size + 1 < w1.heap.size := by omega
    go_wp2_with fail
    go_ret2
    exact ⟨rfl, (by repeat (first | exact Q.refl _ | assumption | refine Q.drew ?_ | refine Q.drewN ?_ _ | refine Q.alloc ?_ _ | refine Q.set ?_ (by first | (simp; done) | (simp; omega) | omega) _ | refine Q.trans ?_ (by assumption)))⟩
theorem refGreatest_any (s : Bool) (b : Int) (w : World) :
    Calls Try.prog 22 #[.agg #[.bool s, .int .i64 b]] w fun e w' => e = .returned (.tuple #[.int .i64 (typI s b (hi s b)).1, .int .i64 (typI s b (hi s b)).2]) ∧ Q w w' := by
  by_cases hv : 1 ≤ b ∧ b ≤ 31
  · rw [show typI s b (hi s b) = (hi s b, 0) by simp only [typI, if_pos hv]]
    obtain ⟨h1, h2⟩ := hv
    go_enter Try.func22, Try.ntmps22
    go_wp2_with fail
    refine (rValidate_ok _ _ _ h1 h2).mono ?_
    rintro e w1 ⟨rfl, hqw1⟩
    obtain ⟨hcw1, hfw1, hzw1⟩ := hqw1.facts
    try simp at hzw1
    try have hs0w1 : w.heap.size < w1.heap.size := by omega
    try have hs1w1 : w.heap.size + 1 < w1.heap.size := by omega
    go_wp2_with fail
    refine (Ends_any _ _ _ h1 h2).mono ?_
    rintro e w2 ⟨rfl, hqw2⟩
    obtain ⟨hcw2, hfw2, hzw2⟩ := hqw2.facts
    try simp at hzw2
    try have hs0w2 : w.heap.size < w2.heap.size := by omega
    try have hs1w2 : w.heap.size + 1 < w2.heap.size := by omega
    go_wp2_with fail
    go_ret2
    exact ⟨rfl, (by repeat (first | exact Q.refl _ | assumption | refine Q.drew ?_ | refine Q.drewN ?_ _ | refine Q.alloc ?_ _ | refine Q.set ?_ (by first | (simp; done) | (simp; omega) | omega) _ | refine Q.trans ?_ (by assumption)))⟩
  · rw [show typI s b (hi s b) = (0, 1) by simp only [typI, if_neg hv]]
    go_enter Try.func22, Try.ntmps22
    go_wp2_with fail
    refine (rValidate_bad _ _ _ hv).mono ?_
    rintro e w1 ⟨rfl, hqw1⟩
    obtain ⟨hcw1, hfw1, hzw1⟩ := hqw1.facts
    try simp at hzw1
    try have hs0w1 : w.heap.size < w1.heap.size := by omega
    try have hs1w1 : w.heap.size + 1 < w1.heap.size := by omega
    go_wp2_with fail
    go_ret2
    exact ⟨rfl, (by repeat (first | exact Q.refl _ | assumption | refine Q.drew ?_ | refine Q.drewN ?_ _ | refine Q.alloc ?_ _ | refine Q.set ?_ (by first | (simp; done) | (simp; omega) | omega) _ | refine Q.trans ?_ (by assumption)))⟩
theorem refFits_any (s : Bool) (b n : Int) (w : World) :
    Calls Try.prog 23 #[.agg #[.bool s, .int .i64 b], .int .i64 n] w fun e w' => e = .returned (.tuple #[.bool (typB b (fitsB s b n)).1, .int .i64 (typB b (fitsB s b n)).2]) ∧ Q w w' := by
  by_cases hv : 1 ≤ b ∧ b ≤ 31
  · rw [show typB b (fitsB s b n) = (fitsB s b n, 0) by simp only [typB, if_pos hv]]
    obtain ⟨h1, h2⟩ := hv
    go_enter Try.func23, Try.ntmps23
    go_wp2_with fail
    refine (rValidate_ok _ _ _ h1 h2).mono ?_
    rintro e w1 ⟨rfl, hqw1⟩
    obtain ⟨hcw1, hfw1, hzw1⟩ := hqw1.facts
    try simp at hzw1
    try have hs0w1 : w.heap.size < w1.heap.size := by omega
    try have hs1w1 : w.heap.size + 1 < w1.heap.size := by omega
    go_wp2_with fail
    refine (Is_any _ _ _ _ h1 h2).mono ?_
    rintro e w2 ⟨rfl, hqw2⟩
    obtain ⟨hcw2, hfw2, hzw2⟩ := hqw2.facts
    try simp at hzw2
    try have hs0w2 : w.heap.size < w2.heap.size := by omega
    try have hs1w2 : w.heap.size + 1 < w2.heap.size := by omega
    go_wp2_with fail
    go_ret2
    exact ⟨rfl, (by repeat (first | exact Q.refl _ | assumption | refine Q.drew ?_ | refine Q.drewN ?_ _ | refine Q.alloc ?_ _ | refine Q.set ?_ (by first | (simp; done) | (simp; omega) | omega) _ | refine Q.trans ?_ (by assumption)))⟩
  · rw [show typB b (fitsB s b n) = (false, 1) by simp only [typB, if_neg hv]]
    go_enter Try.func23, Try.ntmps23
    go_wp2_with fail
    refine (rValidate_bad _ _ _ hv).mono ?_
    rintro e w1 ⟨rfl, hqw1⟩
    obtain ⟨hcw1, hfw1, hzw1⟩ := hqw1.facts
    try simp at hzw1
    try have hs0w1 : w.heap.size < w1.heap.size := by omega
    try have hs1w1 : w.heap.size + 1 < w1.heap.size := by omega
    go_wp2_with fail
    go_ret2
    exact ⟨rfl, (by repeat (first | exact Q.refl _ | assumption | refine Q.drew ?_ | refine Q.drewN ?_ _ | refine Q.alloc ?_ _ | refine Q.set ?_ (by first | (simp; done) | (simp; omega) | omega) _ | refine Q.trans ?_ (by assumption)))⟩
theorem refWrap_any (s : Bool) (b n : Int) (w : World) :
    Calls Try.prog 27 #[.agg #[.bool s, .int .i64 b], .int .i64 n] w fun e w' => e = .returned (.tuple #[.int .i64 (typI s b (wrapS s b n)).1, .int .i64 (typI s b (wrapS s b n)).2]) ∧ Q w w' := by
  by_cases hv : 1 ≤ b ∧ b ≤ 31
  · rw [show typI s b (wrapS s b n) = (wrapS s b n, 0) by simp only [typI, if_pos hv]]
    obtain ⟨h1, h2⟩ := hv
    go_enter Try.func27, Try.ntmps27
    go_wp2_with fail
    refine (rValidate_ok _ _ _ h1 h2).mono ?_
    rintro e w1 ⟨rfl, hqw1⟩
    obtain ⟨hcw1, hfw1, hzw1⟩ := hqw1.facts
    try simp at hzw1
    try have hs0w1 : w.heap.size < w1.heap.size := by omega
    try have hs1w1 : w.heap.size + 1 < w1.heap.size := by omega
    go_wp2_with fail
    refine (Bent_any _ _ _ _ h1 h2).mono ?_
    rintro e w2 ⟨rfl, hqw2⟩
    obtain ⟨hcw2, hfw2, hzw2⟩ := hqw2.facts
    try simp at hzw2
    try have hs0w2 : w.heap.size < w2.heap.size := by omega
    try have hs1w2 : w.heap.size + 1 < w2.heap.size := by omega
    go_wp2_with fail
    go_ret2
    exact ⟨rfl, (by repeat (first | exact Q.refl _ | assumption | refine Q.drew ?_ | refine Q.drewN ?_ _ | refine Q.alloc ?_ _ | refine Q.set ?_ (by first | (simp; done) | (simp; omega) | omega) _ | refine Q.trans ?_ (by assumption)))⟩
  · rw [show typI s b (wrapS s b n) = (0, 1) by simp only [typI, if_neg hv]]
    go_enter Try.func27, Try.ntmps27
    go_wp2_with fail
    refine (rValidate_bad _ _ _ hv).mono ?_
    rintro e w1 ⟨rfl, hqw1⟩
    obtain ⟨hcw1, hfw1, hzw1⟩ := hqw1.facts
    try simp at hzw1
    try have hs0w1 : w.heap.size < w1.heap.size := by omega
    try have hs1w1 : w.heap.size + 1 < w1.heap.size := by omega
    go_wp2_with fail
    go_ret2
    exact ⟨rfl, (by repeat (first | exact Q.refl _ | assumption | refine Q.drew ?_ | refine Q.drewN ?_ _ | refine Q.alloc ?_ _ | refine Q.set ?_ (by first | (simp; done) | (simp; omega) | omega) _ | refine Q.trans ?_ (by assumption)))⟩
theorem refNear_any (s : Bool) (b n : Int) (w : World) :
    Calls Try.prog 29 #[.agg #[.bool s, .int .i64 b], .int .i64 n] w fun e w' => e = .returned (.tuple #[.int .i64 (typI s b (nearS s b n)).1, .int .i64 (typI s b (nearS s b n)).2]) ∧ Q w w' := by
  by_cases hv : 1 ≤ b ∧ b ≤ 31
  · rw [show typI s b (nearS s b n) = (nearS s b n, 0) by simp only [typI, if_pos hv]]
    obtain ⟨h1, h2⟩ := hv
    go_enter Try.func29, Try.ntmps29
    go_wp2_with fail
    refine (rValidate_ok _ _ _ h1 h2).mono ?_
    rintro e w1 ⟨rfl, hqw1⟩
    obtain ⟨hcw1, hfw1, hzw1⟩ := hqw1.facts
    try simp at hzw1
    try have hs0w1 : w.heap.size < w1.heap.size := by omega
    try have hs1w1 : w.heap.size + 1 < w1.heap.size := by omega
    go_wp2_with fail
    refine (nearest_any _ _ _ _ h1 h2).mono ?_
    rintro e w2 ⟨rfl, hqw2⟩
    obtain ⟨hcw2, hfw2, hzw2⟩ := hqw2.facts
    try simp at hzw2
    try have hs0w2 : w.heap.size < w2.heap.size := by omega
    try have hs1w2 : w.heap.size + 1 < w2.heap.size := by omega
    go_wp2_with fail
    go_ret2
    exact ⟨rfl, (by repeat (first | exact Q.refl _ | assumption | refine Q.drew ?_ | refine Q.drewN ?_ _ | refine Q.alloc ?_ _ | refine Q.set ?_ (by first | (simp; done) | (simp; omega) | omega) _ | refine Q.trans ?_ (by assumption)))⟩
  · rw [show typI s b (nearS s b n) = (0, 1) by simp only [typI, if_neg hv]]
    go_enter Try.func29, Try.ntmps29
    go_wp2_with fail
    refine (rValidate_bad _ _ _ hv).mono ?_
    rintro e w1 ⟨rfl, hqw1⟩
    obtain ⟨hcw1, hfw1, hzw1⟩ := hqw1.facts
    try simp at hzw1
    try have hs0w1 : w.heap.size < w1.heap.size := by omega
    try have hs1w1 : w.heap.size + 1 < w1.heap.size := by omega
    go_wp2_with fail
    go_ret2
    exact ⟨rfl, (by repeat (first | exact Q.refl _ | assumption | refine Q.drew ?_ | refine Q.drewN ?_ _ | refine Q.alloc ?_ _ | refine Q.set ?_ (by first | (simp; done) | (simp; omega) | omega) _ | refine Q.trans ?_ (by assumption)))⟩
end Go.Proofs.Ytcjljmegppnlcaa
