/- The walk of package num's 'do', operation by operation. Conditions: the type is valid, the numbers are in 32 bits, the case is as each theorem says. -/
import Derived.Test.YtcjljmegppnlcaaNumD
import Derived.Deep.RegionHeld3
namespace Go.Proofs.Ytcjljmegppnlcaa
open Go.RowKit NP
set_option linter.unusedVariables false
theorem neq_nil (w : World) : (binOp .neq 56 .nilFunc .nilFunc).run Try.prog w = .ok (.bool false) w := by kernel_rfl
theorem neq_wrap (w : World) : (binOp .neq 56 (.func (.func 50) #[] #[]) .nilFunc).run Try.prog w = .ok (.bool true) w := by kernel_rfl
theorem neq_near (w : World) : (binOp .neq 56 (.func (.func 52) #[] #[]) .nilFunc).run Try.prog w = .ok (.bool true) w := by kernel_rfl
theorem do_5_fit (s : Bool) (b x y : Int) (w : World) (h1 : 1 ≤ b) (h2 : b ≤ 31) (x1 : -2147483648 ≤ x) (x2 : x ≤ 2147483647) (y1 : -2147483648 ≤ y) (y2 : y ≤ 2147483647)  (hf : fitsB s b (x + y) = true) :
    Calls Try.prog 39 #[.int .i64 5, .agg #[.bool s, .int .i64 b], .int .i64 x, .int .i64 y] w fun e w' => e = .returned (.tuple #[.int .i64 (x + y), .int .i64 0]) ∧ Q w w' := by
  have i0 : ∀ w, (Instr.index 68 (.agg opsV) (.int .i64 5)).run Try.prog w = .ok (.agg #[.func (.func 71) #[] #[], .nilFunc]) w := fun _ => by kernel_rfl
  have i1 := neq_nil
  have i2 := neq_wrap
  have i3 := neq_near
  obtain ⟨c, hc⟩ : ∃ c : Bool, (y == 0) = c := ⟨_, rfl⟩
  cases c
  all_goals go_enter Try.func39, Try.ntmps39
  all_goals go_wp2_with (first | (go_at_call 63; refine (operations_any _).mono ?_; rintro e w1 ⟨rfl, hq1⟩; obtain ⟨hc1, hf1, hz1⟩ := hq1.facts; try simp at hz1; try have hs01 : w.heap.size < w1.heap.size := by omega; try have hs11 : w.heap.size + 1 < w1.heap.size := by omega) | (go_at_call 71; refine (op1_any _ _ _ x1 x2 y1 y2).mono ?_; rintro e w1 ⟨rfl, rfl⟩))
  all_goals (
    have hxc := ext_cell
    refine wp_region_ext (by kernel_rfl) (by kernel_rfl) ?_
    repeat (go_big_quiet_step ((first | (go_at_call 44; exact ext_call (fits_any _ _ _ _ h1 h2)))))
    clear hxc
    refine wpQuiet_nil ?_
    intro w2 hww2
    have hqw2 := q_of_ext hww2
    clear hww2
    obtain ⟨hcw2, hfw2, hzw2⟩ := hqw2.facts
    try simp at hzw2
    try have hs0w2 : w.heap.size < w2.heap.size := by omega
    try have hs1w2 : w.heap.size + 1 < w2.heap.size := by omega)
  all_goals go_wp2_with (first | (go_at_call 50; refine (wrap_any _ _ _ _ h1 h2).mono ?_; rintro e w1 ⟨rfl, hq1⟩; obtain ⟨hc1, hf1, hz1⟩ := hq1.facts; try simp at hz1; try have hs01 : w.heap.size < w1.heap.size := by omega; try have hs11 : w.heap.size + 1 < w1.heap.size := by omega))
  all_goals (go_ret2; exact ⟨rfl, (by repeat (first | exact Q.refl _ | assumption | refine Q.drew ?_ | refine Q.drewN ?_ _ | refine Q.alloc ?_ _ | refine Q.set ?_ (by first | (simp; done) | (simp; omega) | omega) _ | refine Q.trans ?_ (by assumption)))⟩)
theorem do_5_no (s : Bool) (b x y : Int) (w : World) (h1 : 1 ≤ b) (h2 : b ≤ 31) (x1 : -2147483648 ≤ x) (x2 : x ≤ 2147483647) (y1 : -2147483648 ≤ y) (y2 : y ≤ 2147483647)  (hf : fitsB s b (x + y) = false) :
    Calls Try.prog 39 #[.int .i64 5, .agg #[.bool s, .int .i64 b], .int .i64 x, .int .i64 y] w fun e w' => e = .returned (.tuple #[.int .i64 (wrapS s b (x + y)), .int .i64 1]) ∧ Q w w' := by
  have i0 : ∀ w, (Instr.index 68 (.agg opsV) (.int .i64 5)).run Try.prog w = .ok (.agg #[.func (.func 71) #[] #[], .nilFunc]) w := fun _ => by kernel_rfl
  have i1 := neq_nil
  have i2 := neq_wrap
  have i3 := neq_near
  obtain ⟨c, hc⟩ : ∃ c : Bool, (y == 0) = c := ⟨_, rfl⟩
  cases c
  all_goals go_enter Try.func39, Try.ntmps39
  all_goals go_wp2_with (first | (go_at_call 63; refine (operations_any _).mono ?_; rintro e w1 ⟨rfl, hq1⟩; obtain ⟨hc1, hf1, hz1⟩ := hq1.facts; try simp at hz1; try have hs01 : w.heap.size < w1.heap.size := by omega; try have hs11 : w.heap.size + 1 < w1.heap.size := by omega) | (go_at_call 71; refine (op1_any _ _ _ x1 x2 y1 y2).mono ?_; rintro e w1 ⟨rfl, rfl⟩))
  all_goals (
    have hxc := ext_cell
    refine wp_region_ext (by kernel_rfl) (by kernel_rfl) ?_
    repeat (go_big_quiet_step ((first | (go_at_call 44; exact ext_call (fits_any _ _ _ _ h1 h2)))))
    clear hxc
    refine wpQuiet_nil ?_
    intro w2 hww2
    have hqw2 := q_of_ext hww2
    clear hww2
    obtain ⟨hcw2, hfw2, hzw2⟩ := hqw2.facts
    try simp at hzw2
    try have hs0w2 : w.heap.size < w2.heap.size := by omega
    try have hs1w2 : w.heap.size + 1 < w2.heap.size := by omega)
  all_goals go_wp2_with (first | (go_at_call 50; refine (wrap_any _ _ _ _ h1 h2).mono ?_; rintro e w1 ⟨rfl, hq1⟩; obtain ⟨hc1, hf1, hz1⟩ := hq1.facts; try simp at hz1; try have hs01 : w.heap.size < w1.heap.size := by omega; try have hs11 : w.heap.size + 1 < w1.heap.size := by omega))
  all_goals (go_ret2; exact ⟨rfl, (by repeat (first | exact Q.refl _ | assumption | refine Q.drew ?_ | refine Q.drewN ?_ _ | refine Q.alloc ?_ _ | refine Q.set ?_ (by first | (simp; done) | (simp; omega) | omega) _ | refine Q.trans ?_ (by assumption)))⟩)
theorem do_6_fit (s : Bool) (b x y : Int) (w : World) (h1 : 1 ≤ b) (h2 : b ≤ 31) (x1 : -2147483648 ≤ x) (x2 : x ≤ 2147483647) (y1 : -2147483648 ≤ y) (y2 : y ≤ 2147483647)  (hf : fitsB s b (x - y) = true) :
    Calls Try.prog 39 #[.int .i64 6, .agg #[.bool s, .int .i64 b], .int .i64 x, .int .i64 y] w fun e w' => e = .returned (.tuple #[.int .i64 (x - y), .int .i64 0]) ∧ Q w w' := by
  have i0 : ∀ w, (Instr.index 68 (.agg opsV) (.int .i64 6)).run Try.prog w = .ok (.agg #[.func (.func 72) #[] #[], .nilFunc]) w := fun _ => by kernel_rfl
  have i1 := neq_nil
  have i2 := neq_wrap
  have i3 := neq_near
  obtain ⟨c, hc⟩ : ∃ c : Bool, (y == 0) = c := ⟨_, rfl⟩
  cases c
  all_goals go_enter Try.func39, Try.ntmps39
  all_goals go_wp2_with (first | (go_at_call 63; refine (operations_any _).mono ?_; rintro e w1 ⟨rfl, hq1⟩; obtain ⟨hc1, hf1, hz1⟩ := hq1.facts; try simp at hz1; try have hs01 : w.heap.size < w1.heap.size := by omega; try have hs11 : w.heap.size + 1 < w1.heap.size := by omega) | (go_at_call 72; refine (op2_any _ _ _ x1 x2 y1 y2).mono ?_; rintro e w1 ⟨rfl, rfl⟩))
  all_goals (
    have hxc := ext_cell
    refine wp_region_ext (by kernel_rfl) (by kernel_rfl) ?_
    repeat (go_big_quiet_step ((first | (go_at_call 44; exact ext_call (fits_any _ _ _ _ h1 h2)))))
    clear hxc
    refine wpQuiet_nil ?_
    intro w2 hww2
    have hqw2 := q_of_ext hww2
    clear hww2
    obtain ⟨hcw2, hfw2, hzw2⟩ := hqw2.facts
    try simp at hzw2
    try have hs0w2 : w.heap.size < w2.heap.size := by omega
    try have hs1w2 : w.heap.size + 1 < w2.heap.size := by omega)
  all_goals go_wp2_with (first | (go_at_call 50; refine (wrap_any _ _ _ _ h1 h2).mono ?_; rintro e w1 ⟨rfl, hq1⟩; obtain ⟨hc1, hf1, hz1⟩ := hq1.facts; try simp at hz1; try have hs01 : w.heap.size < w1.heap.size := by omega; try have hs11 : w.heap.size + 1 < w1.heap.size := by omega))
  all_goals (go_ret2; exact ⟨rfl, (by repeat (first | exact Q.refl _ | assumption | refine Q.drew ?_ | refine Q.drewN ?_ _ | refine Q.alloc ?_ _ | refine Q.set ?_ (by first | (simp; done) | (simp; omega) | omega) _ | refine Q.trans ?_ (by assumption)))⟩)
theorem do_6_no (s : Bool) (b x y : Int) (w : World) (h1 : 1 ≤ b) (h2 : b ≤ 31) (x1 : -2147483648 ≤ x) (x2 : x ≤ 2147483647) (y1 : -2147483648 ≤ y) (y2 : y ≤ 2147483647)  (hf : fitsB s b (x - y) = false) :
    Calls Try.prog 39 #[.int .i64 6, .agg #[.bool s, .int .i64 b], .int .i64 x, .int .i64 y] w fun e w' => e = .returned (.tuple #[.int .i64 (wrapS s b (x - y)), .int .i64 1]) ∧ Q w w' := by
  have i0 : ∀ w, (Instr.index 68 (.agg opsV) (.int .i64 6)).run Try.prog w = .ok (.agg #[.func (.func 72) #[] #[], .nilFunc]) w := fun _ => by kernel_rfl
  have i1 := neq_nil
  have i2 := neq_wrap
  have i3 := neq_near
  obtain ⟨c, hc⟩ : ∃ c : Bool, (y == 0) = c := ⟨_, rfl⟩
  cases c
  all_goals go_enter Try.func39, Try.ntmps39
  all_goals go_wp2_with (first | (go_at_call 63; refine (operations_any _).mono ?_; rintro e w1 ⟨rfl, hq1⟩; obtain ⟨hc1, hf1, hz1⟩ := hq1.facts; try simp at hz1; try have hs01 : w.heap.size < w1.heap.size := by omega; try have hs11 : w.heap.size + 1 < w1.heap.size := by omega) | (go_at_call 72; refine (op2_any _ _ _ x1 x2 y1 y2).mono ?_; rintro e w1 ⟨rfl, rfl⟩))
  all_goals (
    have hxc := ext_cell
    refine wp_region_ext (by kernel_rfl) (by kernel_rfl) ?_
    repeat (go_big_quiet_step ((first | (go_at_call 44; exact ext_call (fits_any _ _ _ _ h1 h2)))))
    clear hxc
    refine wpQuiet_nil ?_
    intro w2 hww2
    have hqw2 := q_of_ext hww2
    clear hww2
    obtain ⟨hcw2, hfw2, hzw2⟩ := hqw2.facts
    try simp at hzw2
    try have hs0w2 : w.heap.size < w2.heap.size := by omega
    try have hs1w2 : w.heap.size + 1 < w2.heap.size := by omega)
  all_goals go_wp2_with (first | (go_at_call 50; refine (wrap_any _ _ _ _ h1 h2).mono ?_; rintro e w1 ⟨rfl, hq1⟩; obtain ⟨hc1, hf1, hz1⟩ := hq1.facts; try simp at hz1; try have hs01 : w.heap.size < w1.heap.size := by omega; try have hs11 : w.heap.size + 1 < w1.heap.size := by omega))
  all_goals (go_ret2; exact ⟨rfl, (by repeat (first | exact Q.refl _ | assumption | refine Q.drew ?_ | refine Q.drewN ?_ _ | refine Q.alloc ?_ _ | refine Q.set ?_ (by first | (simp; done) | (simp; omega) | omega) _ | refine Q.trans ?_ (by assumption)))⟩)
theorem do_7_fit (s : Bool) (b x y : Int) (w : World) (h1 : 1 ≤ b) (h2 : b ≤ 31) (x1 : -2147483648 ≤ x) (x2 : x ≤ 2147483647) (y1 : -2147483648 ≤ y) (y2 : y ≤ 2147483647)  (hf : fitsB s b (x * y) = true) :
    Calls Try.prog 39 #[.int .i64 7, .agg #[.bool s, .int .i64 b], .int .i64 x, .int .i64 y] w fun e w' => e = .returned (.tuple #[.int .i64 (x * y), .int .i64 0]) ∧ Q w w' := by
  have i0 : ∀ w, (Instr.index 68 (.agg opsV) (.int .i64 7)).run Try.prog w = .ok (.agg #[.func (.func 73) #[] #[], .nilFunc]) w := fun _ => by kernel_rfl
  have i1 := neq_nil
  have i2 := neq_wrap
  have i3 := neq_near
  obtain ⟨m1, m2⟩ := mul_bd x y x1 x2 y1 y2
  obtain ⟨c, hc⟩ : ∃ c : Bool, (y == 0) = c := ⟨_, rfl⟩
  cases c
  all_goals go_enter Try.func39, Try.ntmps39
  all_goals go_wp2_with (first | (go_at_call 63; refine (operations_any _).mono ?_; rintro e w1 ⟨rfl, hq1⟩; obtain ⟨hc1, hf1, hz1⟩ := hq1.facts; try simp at hz1; try have hs01 : w.heap.size < w1.heap.size := by omega; try have hs11 : w.heap.size + 1 < w1.heap.size := by omega) | (go_at_call 73; refine (op3_any _ _ _ x1 x2 y1 y2).mono ?_; rintro e w1 ⟨rfl, rfl⟩))
  all_goals (
    have hxc := ext_cell
    refine wp_region_ext (by kernel_rfl) (by kernel_rfl) ?_
    repeat (go_big_quiet_step ((first | (go_at_call 44; exact ext_call (fits_any _ _ _ _ h1 h2)))))
    clear hxc
    refine wpQuiet_nil ?_
    intro w2 hww2
    have hqw2 := q_of_ext hww2
    clear hww2
    obtain ⟨hcw2, hfw2, hzw2⟩ := hqw2.facts
    try simp at hzw2
    try have hs0w2 : w.heap.size < w2.heap.size := by omega
    try have hs1w2 : w.heap.size + 1 < w2.heap.size := by omega)
  all_goals go_wp2_with (first | (go_at_call 50; refine (wrap_any _ _ _ _ h1 h2).mono ?_; rintro e w1 ⟨rfl, hq1⟩; obtain ⟨hc1, hf1, hz1⟩ := hq1.facts; try simp at hz1; try have hs01 : w.heap.size < w1.heap.size := by omega; try have hs11 : w.heap.size + 1 < w1.heap.size := by omega))
  all_goals (go_ret2; exact ⟨rfl, (by repeat (first | exact Q.refl _ | assumption | refine Q.drew ?_ | refine Q.drewN ?_ _ | refine Q.alloc ?_ _ | refine Q.set ?_ (by first | (simp; done) | (simp; omega) | omega) _ | refine Q.trans ?_ (by assumption)))⟩)
theorem do_7_no (s : Bool) (b x y : Int) (w : World) (h1 : 1 ≤ b) (h2 : b ≤ 31) (x1 : -2147483648 ≤ x) (x2 : x ≤ 2147483647) (y1 : -2147483648 ≤ y) (y2 : y ≤ 2147483647)  (hf : fitsB s b (x * y) = false) :
    Calls Try.prog 39 #[.int .i64 7, .agg #[.bool s, .int .i64 b], .int .i64 x, .int .i64 y] w fun e w' => e = .returned (.tuple #[.int .i64 (wrapS s b (x * y)), .int .i64 1]) ∧ Q w w' := by
  have i0 : ∀ w, (Instr.index 68 (.agg opsV) (.int .i64 7)).run Try.prog w = .ok (.agg #[.func (.func 73) #[] #[], .nilFunc]) w := fun _ => by kernel_rfl
  have i1 := neq_nil
  have i2 := neq_wrap
  have i3 := neq_near
  obtain ⟨m1, m2⟩ := mul_bd x y x1 x2 y1 y2
  obtain ⟨c, hc⟩ : ∃ c : Bool, (y == 0) = c := ⟨_, rfl⟩
  cases c
  all_goals go_enter Try.func39, Try.ntmps39
  all_goals go_wp2_with (first | (go_at_call 63; refine (operations_any _).mono ?_; rintro e w1 ⟨rfl, hq1⟩; obtain ⟨hc1, hf1, hz1⟩ := hq1.facts; try simp at hz1; try have hs01 : w.heap.size < w1.heap.size := by omega; try have hs11 : w.heap.size + 1 < w1.heap.size := by omega) | (go_at_call 73; refine (op3_any _ _ _ x1 x2 y1 y2).mono ?_; rintro e w1 ⟨rfl, rfl⟩))
  all_goals (
    have hxc := ext_cell
    refine wp_region_ext (by kernel_rfl) (by kernel_rfl) ?_
    repeat (go_big_quiet_step ((first | (go_at_call 44; exact ext_call (fits_any _ _ _ _ h1 h2)))))
    clear hxc
    refine wpQuiet_nil ?_
    intro w2 hww2
    have hqw2 := q_of_ext hww2
    clear hww2
    obtain ⟨hcw2, hfw2, hzw2⟩ := hqw2.facts
    try simp at hzw2
    try have hs0w2 : w.heap.size < w2.heap.size := by omega
    try have hs1w2 : w.heap.size + 1 < w2.heap.size := by omega)
  all_goals go_wp2_with (first | (go_at_call 50; refine (wrap_any _ _ _ _ h1 h2).mono ?_; rintro e w1 ⟨rfl, hq1⟩; obtain ⟨hc1, hf1, hz1⟩ := hq1.facts; try simp at hz1; try have hs01 : w.heap.size < w1.heap.size := by omega; try have hs11 : w.heap.size + 1 < w1.heap.size := by omega))
  all_goals (go_ret2; exact ⟨rfl, (by repeat (first | exact Q.refl _ | assumption | refine Q.drew ?_ | refine Q.drewN ?_ _ | refine Q.alloc ?_ _ | refine Q.set ?_ (by first | (simp; done) | (simp; omega) | omega) _ | refine Q.trans ?_ (by assumption)))⟩)
theorem do_8_z (s : Bool) (b x y : Int) (w : World) (h1 : 1 ≤ b) (h2 : b ≤ 31) (x1 : -2147483648 ≤ x) (x2 : x ≤ 2147483647) (y1 : -2147483648 ≤ y) (y2 : y ≤ 2147483647) (hy : y = 0) :
    Calls Try.prog 39 #[.int .i64 8, .agg #[.bool s, .int .i64 b], .int .i64 x, .int .i64 y] w fun e w' => e = .returned (.tuple #[.int .i64 0, .int .i64 2]) ∧ Q w w' := by
  subst hy
  go_enter Try.func39, Try.ntmps39
  go_wp2_with fail
  go_ret2
  exact ⟨rfl, (by repeat (first | exact Q.refl _ | assumption | refine Q.drew ?_ | refine Q.drewN ?_ _ | refine Q.alloc ?_ _ | refine Q.set ?_ (by first | (simp; done) | (simp; omega) | omega) _ | refine Q.trans ?_ (by assumption)))⟩
theorem do_8_fit (s : Bool) (b x y : Int) (w : World) (h1 : 1 ≤ b) (h2 : b ≤ 31) (x1 : -2147483648 ≤ x) (x2 : x ≤ 2147483647) (y1 : -2147483648 ≤ y) (y2 : y ≤ 2147483647) (hy : ¬ y = 0) (hf : fitsB s b (x.tdiv y) = true) :
    Calls Try.prog 39 #[.int .i64 8, .agg #[.bool s, .int .i64 b], .int .i64 x, .int .i64 y] w fun e w' => e = .returned (.tuple #[.int .i64 (x.tdiv y), .int .i64 0]) ∧ Q w w' := by
  have i0 : ∀ w, (Instr.index 68 (.agg opsV) (.int .i64 8)).run Try.prog w = .ok (.agg #[.func (.func 74) #[] #[], .nilFunc]) w := fun _ => by kernel_rfl
  have i1 := neq_nil
  have i2 := neq_wrap
  have i3 := neq_near
  obtain ⟨m1, m2⟩ := tdiv_bd x y x1 x2
  all_goals go_enter Try.func39, Try.ntmps39
  all_goals go_wp2_with (first | (go_at_call 63; refine (operations_any _).mono ?_; rintro e w1 ⟨rfl, hq1⟩; obtain ⟨hc1, hf1, hz1⟩ := hq1.facts; try simp at hz1; try have hs01 : w.heap.size < w1.heap.size := by omega; try have hs11 : w.heap.size + 1 < w1.heap.size := by omega) | (go_at_call 74; refine (op4_any _ _ _ x1 x2 y1 y2 hy).mono ?_; rintro e w1 ⟨rfl, rfl⟩))
  all_goals (
    have hxc := ext_cell
    refine wp_region_ext (by kernel_rfl) (by kernel_rfl) ?_
    repeat (go_big_quiet_step ((first | (go_at_call 44; exact ext_call (fits_any _ _ _ _ h1 h2)))))
    clear hxc
    refine wpQuiet_nil ?_
    intro w2 hww2
    have hqw2 := q_of_ext hww2
    clear hww2
    obtain ⟨hcw2, hfw2, hzw2⟩ := hqw2.facts
    try simp at hzw2
    try have hs0w2 : w.heap.size < w2.heap.size := by omega
    try have hs1w2 : w.heap.size + 1 < w2.heap.size := by omega)
  all_goals go_wp2_with (first | (go_at_call 50; refine (wrap_any _ _ _ _ h1 h2).mono ?_; rintro e w1 ⟨rfl, hq1⟩; obtain ⟨hc1, hf1, hz1⟩ := hq1.facts; try simp at hz1; try have hs01 : w.heap.size < w1.heap.size := by omega; try have hs11 : w.heap.size + 1 < w1.heap.size := by omega))
  all_goals (go_ret2; exact ⟨rfl, (by repeat (first | exact Q.refl _ | assumption | refine Q.drew ?_ | refine Q.drewN ?_ _ | refine Q.alloc ?_ _ | refine Q.set ?_ (by first | (simp; done) | (simp; omega) | omega) _ | refine Q.trans ?_ (by assumption)))⟩)
theorem do_8_no (s : Bool) (b x y : Int) (w : World) (h1 : 1 ≤ b) (h2 : b ≤ 31) (x1 : -2147483648 ≤ x) (x2 : x ≤ 2147483647) (y1 : -2147483648 ≤ y) (y2 : y ≤ 2147483647) (hy : ¬ y = 0) (hf : fitsB s b (x.tdiv y) = false) :
    Calls Try.prog 39 #[.int .i64 8, .agg #[.bool s, .int .i64 b], .int .i64 x, .int .i64 y] w fun e w' => e = .returned (.tuple #[.int .i64 (wrapS s b (x.tdiv y)), .int .i64 1]) ∧ Q w w' := by
  have i0 : ∀ w, (Instr.index 68 (.agg opsV) (.int .i64 8)).run Try.prog w = .ok (.agg #[.func (.func 74) #[] #[], .nilFunc]) w := fun _ => by kernel_rfl
  have i1 := neq_nil
  have i2 := neq_wrap
  have i3 := neq_near
  obtain ⟨m1, m2⟩ := tdiv_bd x y x1 x2
  all_goals go_enter Try.func39, Try.ntmps39
  all_goals go_wp2_with (first | (go_at_call 63; refine (operations_any _).mono ?_; rintro e w1 ⟨rfl, hq1⟩; obtain ⟨hc1, hf1, hz1⟩ := hq1.facts; try simp at hz1; try have hs01 : w.heap.size < w1.heap.size := by omega; try have hs11 : w.heap.size + 1 < w1.heap.size := by omega) | (go_at_call 74; refine (op4_any _ _ _ x1 x2 y1 y2 hy).mono ?_; rintro e w1 ⟨rfl, rfl⟩))
  all_goals (
    have hxc := ext_cell
    refine wp_region_ext (by kernel_rfl) (by kernel_rfl) ?_
    repeat (go_big_quiet_step ((first | (go_at_call 44; exact ext_call (fits_any _ _ _ _ h1 h2)))))
    clear hxc
    refine wpQuiet_nil ?_
    intro w2 hww2
    have hqw2 := q_of_ext hww2
    clear hww2
    obtain ⟨hcw2, hfw2, hzw2⟩ := hqw2.facts
    try simp at hzw2
    try have hs0w2 : w.heap.size < w2.heap.size := by omega
    try have hs1w2 : w.heap.size + 1 < w2.heap.size := by omega)
  all_goals go_wp2_with (first | (go_at_call 50; refine (wrap_any _ _ _ _ h1 h2).mono ?_; rintro e w1 ⟨rfl, hq1⟩; obtain ⟨hc1, hf1, hz1⟩ := hq1.facts; try simp at hz1; try have hs01 : w.heap.size < w1.heap.size := by omega; try have hs11 : w.heap.size + 1 < w1.heap.size := by omega))
  all_goals (go_ret2; exact ⟨rfl, (by repeat (first | exact Q.refl _ | assumption | refine Q.drew ?_ | refine Q.drewN ?_ _ | refine Q.alloc ?_ _ | refine Q.set ?_ (by first | (simp; done) | (simp; omega) | omega) _ | refine Q.trans ?_ (by assumption)))⟩)
theorem do_9_z (s : Bool) (b x y : Int) (w : World) (h1 : 1 ≤ b) (h2 : b ≤ 31) (x1 : -2147483648 ≤ x) (x2 : x ≤ 2147483647) (y1 : -2147483648 ≤ y) (y2 : y ≤ 2147483647) (hy : y = 0) :
    Calls Try.prog 39 #[.int .i64 9, .agg #[.bool s, .int .i64 b], .int .i64 x, .int .i64 y] w fun e w' => e = .returned (.tuple #[.int .i64 x, .int .i64 2]) ∧ Q w w' := by
  subst hy
  go_enter Try.func39, Try.ntmps39
  go_wp2_with fail
  go_ret2
  exact ⟨rfl, (by repeat (first | exact Q.refl _ | assumption | refine Q.drew ?_ | refine Q.drewN ?_ _ | refine Q.alloc ?_ _ | refine Q.set ?_ (by first | (simp; done) | (simp; omega) | omega) _ | refine Q.trans ?_ (by assumption)))⟩
theorem do_9_fit (s : Bool) (b x y : Int) (w : World) (h1 : 1 ≤ b) (h2 : b ≤ 31) (x1 : -2147483648 ≤ x) (x2 : x ≤ 2147483647) (y1 : -2147483648 ≤ y) (y2 : y ≤ 2147483647) (hy : ¬ y = 0) (hf : fitsB s b (x.tmod y) = true) (hq : fitsB s b (x.tdiv y) = true) :
    Calls Try.prog 39 #[.int .i64 9, .agg #[.bool s, .int .i64 b], .int .i64 x, .int .i64 y] w fun e w' => e = .returned (.tuple #[.int .i64 (x.tmod y), .int .i64 0]) ∧ Q w w' := by
  have i0 : ∀ w, (Instr.index 68 (.agg opsV) (.int .i64 9)).run Try.prog w = .ok (.agg #[.func (.func 75) #[] #[], .nilFunc]) w := fun _ => by kernel_rfl
  have i1 := neq_nil
  have i2 := neq_wrap
  have i3 := neq_near
  obtain ⟨m1, m2⟩ := tdiv_bd x y x1 x2
  all_goals go_enter Try.func39, Try.ntmps39
  all_goals go_wp2_with (first | (go_at_call 63; refine (operations_any _).mono ?_; rintro e w1 ⟨rfl, hq1⟩; obtain ⟨hc1, hf1, hz1⟩ := hq1.facts; try simp at hz1; try have hs01 : w.heap.size < w1.heap.size := by omega; try have hs11 : w.heap.size + 1 < w1.heap.size := by omega) | (go_at_call 75; refine (op5_any _ _ _ x1 x2 y1 y2 hy).mono ?_; rintro e w1 ⟨rfl, rfl⟩))
  all_goals (
    have hxc := ext_cell
    refine wp_region_ext (by kernel_rfl) (by kernel_rfl) ?_
    repeat (go_big_quiet_step ((first | (go_at_call 44; exact ext_call (fits_any _ _ _ _ h1 h2)))))
    clear hxc
    refine wpQuiet_nil ?_
    intro w2 hww2
    have hqw2 := q_of_ext hww2
    clear hww2
    obtain ⟨hcw2, hfw2, hzw2⟩ := hqw2.facts
    try simp at hzw2
    try have hs0w2 : w.heap.size < w2.heap.size := by omega
    try have hs1w2 : w.heap.size + 1 < w2.heap.size := by omega)
  all_goals go_wp2_with (first | (go_at_call 50; refine (wrap_any _ _ _ _ h1 h2).mono ?_; rintro e w1 ⟨rfl, hq1⟩; obtain ⟨hc1, hf1, hz1⟩ := hq1.facts; try simp at hz1; try have hs01 : w.heap.size < w1.heap.size := by omega; try have hs11 : w.heap.size + 1 < w1.heap.size := by omega))
  all_goals (go_ret2; exact ⟨rfl, (by repeat (first | exact Q.refl _ | assumption | refine Q.drew ?_ | refine Q.drewN ?_ _ | refine Q.alloc ?_ _ | refine Q.set ?_ (by first | (simp; done) | (simp; omega) | omega) _ | refine Q.trans ?_ (by assumption)))⟩)
theorem do_9_no (s : Bool) (b x y : Int) (w : World) (h1 : 1 ≤ b) (h2 : b ≤ 31) (x1 : -2147483648 ≤ x) (x2 : x ≤ 2147483647) (y1 : -2147483648 ≤ y) (y2 : y ≤ 2147483647) (hy : ¬ y = 0) (hf : fitsB s b (x.tmod y) = false) :
    Calls Try.prog 39 #[.int .i64 9, .agg #[.bool s, .int .i64 b], .int .i64 x, .int .i64 y] w fun e w' => e = .returned (.tuple #[.int .i64 (wrapS s b (x.tmod y)), .int .i64 1]) ∧ Q w w' := by
  have i0 : ∀ w, (Instr.index 68 (.agg opsV) (.int .i64 9)).run Try.prog w = .ok (.agg #[.func (.func 75) #[] #[], .nilFunc]) w := fun _ => by kernel_rfl
  have i1 := neq_nil
  have i2 := neq_wrap
  have i3 := neq_near
  obtain ⟨m1, m2⟩ := tdiv_bd x y x1 x2
  all_goals go_enter Try.func39, Try.ntmps39
  all_goals go_wp2_with (first | (go_at_call 63; refine (operations_any _).mono ?_; rintro e w1 ⟨rfl, hq1⟩; obtain ⟨hc1, hf1, hz1⟩ := hq1.facts; try simp at hz1; try have hs01 : w.heap.size < w1.heap.size := by omega; try have hs11 : w.heap.size + 1 < w1.heap.size := by omega) | (go_at_call 75; refine (op5_any _ _ _ x1 x2 y1 y2 hy).mono ?_; rintro e w1 ⟨rfl, rfl⟩))
  all_goals (
    have hxc := ext_cell
    refine wp_region_ext (by kernel_rfl) (by kernel_rfl) ?_
    repeat (go_big_quiet_step ((first | (go_at_call 44; exact ext_call (fits_any _ _ _ _ h1 h2)))))
    clear hxc
    refine wpQuiet_nil ?_
    intro w2 hww2
    have hqw2 := q_of_ext hww2
    clear hww2
    obtain ⟨hcw2, hfw2, hzw2⟩ := hqw2.facts
    try simp at hzw2
    try have hs0w2 : w.heap.size < w2.heap.size := by omega
    try have hs1w2 : w.heap.size + 1 < w2.heap.size := by omega)
  all_goals go_wp2_with (first | (go_at_call 50; refine (wrap_any _ _ _ _ h1 h2).mono ?_; rintro e w1 ⟨rfl, hq1⟩; obtain ⟨hc1, hf1, hz1⟩ := hq1.facts; try simp at hz1; try have hs01 : w.heap.size < w1.heap.size := by omega; try have hs11 : w.heap.size + 1 < w1.heap.size := by omega))
  all_goals (go_ret2; exact ⟨rfl, (by repeat (first | exact Q.refl _ | assumption | refine Q.drew ?_ | refine Q.drewN ?_ _ | refine Q.alloc ?_ _ | refine Q.set ?_ (by first | (simp; done) | (simp; omega) | omega) _ | refine Q.trans ?_ (by assumption)))⟩)
theorem do_9_quo (s : Bool) (b x y : Int) (w : World) (h1 : 1 ≤ b) (h2 : b ≤ 31) (x1 : -2147483648 ≤ x) (x2 : x ≤ 2147483647) (y1 : -2147483648 ≤ y) (y2 : y ≤ 2147483647) (hy : ¬ y = 0) (hf : fitsB s b (x.tmod y) = true) (hq : fitsB s b (x.tdiv y) = false) :
    Calls Try.prog 39 #[.int .i64 9, .agg #[.bool s, .int .i64 b], .int .i64 x, .int .i64 y] w fun e w' => e = .returned (.tuple #[.int .i64 (wrapS s b (x.tmod y)), .int .i64 1]) ∧ Q w w' := by
  have i0 : ∀ w, (Instr.index 68 (.agg opsV) (.int .i64 9)).run Try.prog w = .ok (.agg #[.func (.func 75) #[] #[], .nilFunc]) w := fun _ => by kernel_rfl
  have i1 := neq_nil
  have i2 := neq_wrap
  have i3 := neq_near
  obtain ⟨m1, m2⟩ := tdiv_bd x y x1 x2
  all_goals go_enter Try.func39, Try.ntmps39
  all_goals go_wp2_with (first | (go_at_call 63; refine (operations_any _).mono ?_; rintro e w1 ⟨rfl, hq1⟩; obtain ⟨hc1, hf1, hz1⟩ := hq1.facts; try simp at hz1; try have hs01 : w.heap.size < w1.heap.size := by omega; try have hs11 : w.heap.size + 1 < w1.heap.size := by omega) | (go_at_call 75; refine (op5_any _ _ _ x1 x2 y1 y2 hy).mono ?_; rintro e w1 ⟨rfl, rfl⟩))
  all_goals (
    have hxc := ext_cell
    refine wp_region_ext (by kernel_rfl) (by kernel_rfl) ?_
    repeat (go_big_quiet_step ((first | (go_at_call 44; exact ext_call (fits_any _ _ _ _ h1 h2)))))
    clear hxc
    refine wpQuiet_nil ?_
    intro w2 hww2
    have hqw2 := q_of_ext hww2
    clear hww2
    obtain ⟨hcw2, hfw2, hzw2⟩ := hqw2.facts
    try simp at hzw2
    try have hs0w2 : w.heap.size < w2.heap.size := by omega
    try have hs1w2 : w.heap.size + 1 < w2.heap.size := by omega)
  all_goals go_wp2_with (first | (go_at_call 50; refine (wrap_any _ _ _ _ h1 h2).mono ?_; rintro e w1 ⟨rfl, hq1⟩; obtain ⟨hc1, hf1, hz1⟩ := hq1.facts; try simp at hz1; try have hs01 : w.heap.size < w1.heap.size := by omega; try have hs11 : w.heap.size + 1 < w1.heap.size := by omega))
  all_goals (go_ret2; exact ⟨rfl, (by repeat (first | exact Q.refl _ | assumption | refine Q.drew ?_ | refine Q.drewN ?_ _ | refine Q.alloc ?_ _ | refine Q.set ?_ (by first | (simp; done) | (simp; omega) | omega) _ | refine Q.trans ?_ (by assumption)))⟩)
theorem do_10 (s : Bool) (b x y : Int) (w : World) (h1 : 1 ≤ b) (h2 : b ≤ 31) (x1 : -2147483648 ≤ x) (x2 : x ≤ 2147483647) (y1 : -2147483648 ≤ y) (y2 : y ≤ 2147483647)  :
    Calls Try.prog 39 #[.int .i64 10, .agg #[.bool s, .int .i64 b], .int .i64 x, .int .i64 y] w fun e w' => e = .returned (.tuple #[.int .i64 (wrapS s b (x + y)), .int .i64 0]) ∧ Q w w' := by
  have i0 : ∀ w, (Instr.index 68 (.agg opsV) (.int .i64 10)).run Try.prog w = .ok (.agg #[.func (.func 71) #[] #[], .func (.func 50) #[] #[]]) w := fun _ => by kernel_rfl
  have i1 := neq_nil
  have i2 := neq_wrap
  have i3 := neq_near
  obtain ⟨c, hc⟩ : ∃ c : Bool, (y == 0) = c := ⟨_, rfl⟩
  cases c
  all_goals go_enter Try.func39, Try.ntmps39
  all_goals go_wp2_with (first | (go_at_call 63; refine (operations_any _).mono ?_; rintro e w1 ⟨rfl, hq1⟩; obtain ⟨hc1, hf1, hz1⟩ := hq1.facts; try simp at hz1; try have hs01 : w.heap.size < w1.heap.size := by omega; try have hs11 : w.heap.size + 1 < w1.heap.size := by omega) | (go_at_call 71; refine (op1_any _ _ _ x1 x2 y1 y2).mono ?_; rintro e w1 ⟨rfl, rfl⟩) | (go_at_call 50; refine (wrap_any _ _ _ _ h1 h2).mono ?_; rintro e w1 ⟨rfl, hq1⟩; obtain ⟨hc1, hf1, hz1⟩ := hq1.facts; try simp at hz1; try have hs01 : w.heap.size < w1.heap.size := by omega; try have hs11 : w.heap.size + 1 < w1.heap.size := by omega))
  all_goals (go_ret2; exact ⟨rfl, (by repeat (first | exact Q.refl _ | assumption | refine Q.drew ?_ | refine Q.drewN ?_ _ | refine Q.alloc ?_ _ | refine Q.set ?_ (by first | (simp; done) | (simp; omega) | omega) _ | refine Q.trans ?_ (by assumption)))⟩)
theorem do_11 (s : Bool) (b x y : Int) (w : World) (h1 : 1 ≤ b) (h2 : b ≤ 31) (x1 : -2147483648 ≤ x) (x2 : x ≤ 2147483647) (y1 : -2147483648 ≤ y) (y2 : y ≤ 2147483647)  :
    Calls Try.prog 39 #[.int .i64 11, .agg #[.bool s, .int .i64 b], .int .i64 x, .int .i64 y] w fun e w' => e = .returned (.tuple #[.int .i64 (wrapS s b (x - y)), .int .i64 0]) ∧ Q w w' := by
  have i0 : ∀ w, (Instr.index 68 (.agg opsV) (.int .i64 11)).run Try.prog w = .ok (.agg #[.func (.func 72) #[] #[], .func (.func 50) #[] #[]]) w := fun _ => by kernel_rfl
  have i1 := neq_nil
  have i2 := neq_wrap
  have i3 := neq_near
  obtain ⟨c, hc⟩ : ∃ c : Bool, (y == 0) = c := ⟨_, rfl⟩
  cases c
  all_goals go_enter Try.func39, Try.ntmps39
  all_goals go_wp2_with (first | (go_at_call 63; refine (operations_any _).mono ?_; rintro e w1 ⟨rfl, hq1⟩; obtain ⟨hc1, hf1, hz1⟩ := hq1.facts; try simp at hz1; try have hs01 : w.heap.size < w1.heap.size := by omega; try have hs11 : w.heap.size + 1 < w1.heap.size := by omega) | (go_at_call 72; refine (op2_any _ _ _ x1 x2 y1 y2).mono ?_; rintro e w1 ⟨rfl, rfl⟩) | (go_at_call 50; refine (wrap_any _ _ _ _ h1 h2).mono ?_; rintro e w1 ⟨rfl, hq1⟩; obtain ⟨hc1, hf1, hz1⟩ := hq1.facts; try simp at hz1; try have hs01 : w.heap.size < w1.heap.size := by omega; try have hs11 : w.heap.size + 1 < w1.heap.size := by omega))
  all_goals (go_ret2; exact ⟨rfl, (by repeat (first | exact Q.refl _ | assumption | refine Q.drew ?_ | refine Q.drewN ?_ _ | refine Q.alloc ?_ _ | refine Q.set ?_ (by first | (simp; done) | (simp; omega) | omega) _ | refine Q.trans ?_ (by assumption)))⟩)
theorem do_12 (s : Bool) (b x y : Int) (w : World) (h1 : 1 ≤ b) (h2 : b ≤ 31) (x1 : -2147483648 ≤ x) (x2 : x ≤ 2147483647) (y1 : -2147483648 ≤ y) (y2 : y ≤ 2147483647)  :
    Calls Try.prog 39 #[.int .i64 12, .agg #[.bool s, .int .i64 b], .int .i64 x, .int .i64 y] w fun e w' => e = .returned (.tuple #[.int .i64 (wrapS s b (x * y)), .int .i64 0]) ∧ Q w w' := by
  have i0 : ∀ w, (Instr.index 68 (.agg opsV) (.int .i64 12)).run Try.prog w = .ok (.agg #[.func (.func 73) #[] #[], .func (.func 50) #[] #[]]) w := fun _ => by kernel_rfl
  have i1 := neq_nil
  have i2 := neq_wrap
  have i3 := neq_near
  obtain ⟨m1, m2⟩ := mul_bd x y x1 x2 y1 y2
  obtain ⟨c, hc⟩ : ∃ c : Bool, (y == 0) = c := ⟨_, rfl⟩
  cases c
  all_goals go_enter Try.func39, Try.ntmps39
  all_goals go_wp2_with (first | (go_at_call 63; refine (operations_any _).mono ?_; rintro e w1 ⟨rfl, hq1⟩; obtain ⟨hc1, hf1, hz1⟩ := hq1.facts; try simp at hz1; try have hs01 : w.heap.size < w1.heap.size := by omega; try have hs11 : w.heap.size + 1 < w1.heap.size := by omega) | (go_at_call 73; refine (op3_any _ _ _ x1 x2 y1 y2).mono ?_; rintro e w1 ⟨rfl, rfl⟩) | (go_at_call 50; refine (wrap_any _ _ _ _ h1 h2).mono ?_; rintro e w1 ⟨rfl, hq1⟩; obtain ⟨hc1, hf1, hz1⟩ := hq1.facts; try simp at hz1; try have hs01 : w.heap.size < w1.heap.size := by omega; try have hs11 : w.heap.size + 1 < w1.heap.size := by omega))
  all_goals (go_ret2; exact ⟨rfl, (by repeat (first | exact Q.refl _ | assumption | refine Q.drew ?_ | refine Q.drewN ?_ _ | refine Q.alloc ?_ _ | refine Q.set ?_ (by first | (simp; done) | (simp; omega) | omega) _ | refine Q.trans ?_ (by assumption)))⟩)
theorem do_13 (s : Bool) (b x y : Int) (w : World) (h1 : 1 ≤ b) (h2 : b ≤ 31) (x1 : -2147483648 ≤ x) (x2 : x ≤ 2147483647) (y1 : -2147483648 ≤ y) (y2 : y ≤ 2147483647)  :
    Calls Try.prog 39 #[.int .i64 13, .agg #[.bool s, .int .i64 b], .int .i64 x, .int .i64 y] w fun e w' => e = .returned (.tuple #[.int .i64 (nearS s b (x + y)), .int .i64 0]) ∧ Q w w' := by
  have i0 : ∀ w, (Instr.index 68 (.agg opsV) (.int .i64 13)).run Try.prog w = .ok (.agg #[.func (.func 71) #[] #[], .func (.func 52) #[] #[]]) w := fun _ => by kernel_rfl
  have i1 := neq_nil
  have i2 := neq_wrap
  have i3 := neq_near
  obtain ⟨c, hc⟩ : ∃ c : Bool, (y == 0) = c := ⟨_, rfl⟩
  cases c
  all_goals go_enter Try.func39, Try.ntmps39
  all_goals go_wp2_with (first | (go_at_call 63; refine (operations_any _).mono ?_; rintro e w1 ⟨rfl, hq1⟩; obtain ⟨hc1, hf1, hz1⟩ := hq1.facts; try simp at hz1; try have hs01 : w.heap.size < w1.heap.size := by omega; try have hs11 : w.heap.size + 1 < w1.heap.size := by omega) | (go_at_call 71; refine (op1_any _ _ _ x1 x2 y1 y2).mono ?_; rintro e w1 ⟨rfl, rfl⟩) | (go_at_call 52; refine (near_any _ _ _ _ h1 h2).mono ?_; rintro e w1 ⟨rfl, hq1⟩; obtain ⟨hc1, hf1, hz1⟩ := hq1.facts; try simp at hz1; try have hs01 : w.heap.size < w1.heap.size := by omega; try have hs11 : w.heap.size + 1 < w1.heap.size := by omega))
  all_goals (go_ret2; exact ⟨rfl, (by repeat (first | exact Q.refl _ | assumption | refine Q.drew ?_ | refine Q.drewN ?_ _ | refine Q.alloc ?_ _ | refine Q.set ?_ (by first | (simp; done) | (simp; omega) | omega) _ | refine Q.trans ?_ (by assumption)))⟩)
theorem do_14 (s : Bool) (b x y : Int) (w : World) (h1 : 1 ≤ b) (h2 : b ≤ 31) (x1 : -2147483648 ≤ x) (x2 : x ≤ 2147483647) (y1 : -2147483648 ≤ y) (y2 : y ≤ 2147483647)  :
    Calls Try.prog 39 #[.int .i64 14, .agg #[.bool s, .int .i64 b], .int .i64 x, .int .i64 y] w fun e w' => e = .returned (.tuple #[.int .i64 (nearS s b (x - y)), .int .i64 0]) ∧ Q w w' := by
  have i0 : ∀ w, (Instr.index 68 (.agg opsV) (.int .i64 14)).run Try.prog w = .ok (.agg #[.func (.func 72) #[] #[], .func (.func 52) #[] #[]]) w := fun _ => by kernel_rfl
  have i1 := neq_nil
  have i2 := neq_wrap
  have i3 := neq_near
  obtain ⟨c, hc⟩ : ∃ c : Bool, (y == 0) = c := ⟨_, rfl⟩
  cases c
  all_goals go_enter Try.func39, Try.ntmps39
  all_goals go_wp2_with (first | (go_at_call 63; refine (operations_any _).mono ?_; rintro e w1 ⟨rfl, hq1⟩; obtain ⟨hc1, hf1, hz1⟩ := hq1.facts; try simp at hz1; try have hs01 : w.heap.size < w1.heap.size := by omega; try have hs11 : w.heap.size + 1 < w1.heap.size := by omega) | (go_at_call 72; refine (op2_any _ _ _ x1 x2 y1 y2).mono ?_; rintro e w1 ⟨rfl, rfl⟩) | (go_at_call 52; refine (near_any _ _ _ _ h1 h2).mono ?_; rintro e w1 ⟨rfl, hq1⟩; obtain ⟨hc1, hf1, hz1⟩ := hq1.facts; try simp at hz1; try have hs01 : w.heap.size < w1.heap.size := by omega; try have hs11 : w.heap.size + 1 < w1.heap.size := by omega))
  all_goals (go_ret2; exact ⟨rfl, (by repeat (first | exact Q.refl _ | assumption | refine Q.drew ?_ | refine Q.drewN ?_ _ | refine Q.alloc ?_ _ | refine Q.set ?_ (by first | (simp; done) | (simp; omega) | omega) _ | refine Q.trans ?_ (by assumption)))⟩)
theorem do_15 (s : Bool) (b x y : Int) (w : World) (h1 : 1 ≤ b) (h2 : b ≤ 31) (x1 : -2147483648 ≤ x) (x2 : x ≤ 2147483647) (y1 : -2147483648 ≤ y) (y2 : y ≤ 2147483647)  :
    Calls Try.prog 39 #[.int .i64 15, .agg #[.bool s, .int .i64 b], .int .i64 x, .int .i64 y] w fun e w' => e = .returned (.tuple #[.int .i64 (wrapS s b (bits .and .i64 x y)), .int .i64 0]) ∧ Q w w' := by
  have i0 : ∀ w, (Instr.index 68 (.agg opsV) (.int .i64 15)).run Try.prog w = .ok (.agg #[.func (.func 76) #[] #[], .func (.func 50) #[] #[]]) w := fun _ => by kernel_rfl
  have i1 := neq_nil
  have i2 := neq_wrap
  have i3 := neq_near
  obtain ⟨c, hc⟩ : ∃ c : Bool, (y == 0) = c := ⟨_, rfl⟩
  cases c
  all_goals go_enter Try.func39, Try.ntmps39
  all_goals go_wp2_with (first | (go_at_call 63; refine (operations_any _).mono ?_; rintro e w1 ⟨rfl, hq1⟩; obtain ⟨hc1, hf1, hz1⟩ := hq1.facts; try simp at hz1; try have hs01 : w.heap.size < w1.heap.size := by omega; try have hs11 : w.heap.size + 1 < w1.heap.size := by omega) | (go_at_call 76; refine (op6_any _ _ _ x1 x2 y1 y2).mono ?_; rintro e w1 ⟨rfl, rfl⟩) | (go_at_call 50; refine (wrap_any _ _ _ _ h1 h2).mono ?_; rintro e w1 ⟨rfl, hq1⟩; obtain ⟨hc1, hf1, hz1⟩ := hq1.facts; try simp at hz1; try have hs01 : w.heap.size < w1.heap.size := by omega; try have hs11 : w.heap.size + 1 < w1.heap.size := by omega))
  all_goals (go_ret2; exact ⟨rfl, (by repeat (first | exact Q.refl _ | assumption | refine Q.drew ?_ | refine Q.drewN ?_ _ | refine Q.alloc ?_ _ | refine Q.set ?_ (by first | (simp; done) | (simp; omega) | omega) _ | refine Q.trans ?_ (by assumption)))⟩)
theorem do_16 (s : Bool) (b x y : Int) (w : World) (h1 : 1 ≤ b) (h2 : b ≤ 31) (x1 : -2147483648 ≤ x) (x2 : x ≤ 2147483647) (y1 : -2147483648 ≤ y) (y2 : y ≤ 2147483647)  :
    Calls Try.prog 39 #[.int .i64 16, .agg #[.bool s, .int .i64 b], .int .i64 x, .int .i64 y] w fun e w' => e = .returned (.tuple #[.int .i64 (wrapS s b (bits .or .i64 x y)), .int .i64 0]) ∧ Q w w' := by
  have i0 : ∀ w, (Instr.index 68 (.agg opsV) (.int .i64 16)).run Try.prog w = .ok (.agg #[.func (.func 77) #[] #[], .func (.func 50) #[] #[]]) w := fun _ => by kernel_rfl
  have i1 := neq_nil
  have i2 := neq_wrap
  have i3 := neq_near
  obtain ⟨c, hc⟩ : ∃ c : Bool, (y == 0) = c := ⟨_, rfl⟩
  cases c
  all_goals go_enter Try.func39, Try.ntmps39
  all_goals go_wp2_with (first | (go_at_call 63; refine (operations_any _).mono ?_; rintro e w1 ⟨rfl, hq1⟩; obtain ⟨hc1, hf1, hz1⟩ := hq1.facts; try simp at hz1; try have hs01 : w.heap.size < w1.heap.size := by omega; try have hs11 : w.heap.size + 1 < w1.heap.size := by omega) | (go_at_call 77; refine (op7_any _ _ _ x1 x2 y1 y2).mono ?_; rintro e w1 ⟨rfl, rfl⟩) | (go_at_call 50; refine (wrap_any _ _ _ _ h1 h2).mono ?_; rintro e w1 ⟨rfl, hq1⟩; obtain ⟨hc1, hf1, hz1⟩ := hq1.facts; try simp at hz1; try have hs01 : w.heap.size < w1.heap.size := by omega; try have hs11 : w.heap.size + 1 < w1.heap.size := by omega))
  all_goals (go_ret2; exact ⟨rfl, (by repeat (first | exact Q.refl _ | assumption | refine Q.drew ?_ | refine Q.drewN ?_ _ | refine Q.alloc ?_ _ | refine Q.set ?_ (by first | (simp; done) | (simp; omega) | omega) _ | refine Q.trans ?_ (by assumption)))⟩)
theorem do_17 (s : Bool) (b x y : Int) (w : World) (h1 : 1 ≤ b) (h2 : b ≤ 31) (x1 : -2147483648 ≤ x) (x2 : x ≤ 2147483647) (y1 : -2147483648 ≤ y) (y2 : y ≤ 2147483647)  :
    Calls Try.prog 39 #[.int .i64 17, .agg #[.bool s, .int .i64 b], .int .i64 x, .int .i64 y] w fun e w' => e = .returned (.tuple #[.int .i64 (wrapS s b (bits .xor .i64 x y)), .int .i64 0]) ∧ Q w w' := by
  have i0 : ∀ w, (Instr.index 68 (.agg opsV) (.int .i64 17)).run Try.prog w = .ok (.agg #[.func (.func 78) #[] #[], .func (.func 50) #[] #[]]) w := fun _ => by kernel_rfl
  have i1 := neq_nil
  have i2 := neq_wrap
  have i3 := neq_near
  obtain ⟨c, hc⟩ : ∃ c : Bool, (y == 0) = c := ⟨_, rfl⟩
  cases c
  all_goals go_enter Try.func39, Try.ntmps39
  all_goals go_wp2_with (first | (go_at_call 63; refine (operations_any _).mono ?_; rintro e w1 ⟨rfl, hq1⟩; obtain ⟨hc1, hf1, hz1⟩ := hq1.facts; try simp at hz1; try have hs01 : w.heap.size < w1.heap.size := by omega; try have hs11 : w.heap.size + 1 < w1.heap.size := by omega) | (go_at_call 78; refine (op8_any _ _ _ x1 x2 y1 y2).mono ?_; rintro e w1 ⟨rfl, rfl⟩) | (go_at_call 50; refine (wrap_any _ _ _ _ h1 h2).mono ?_; rintro e w1 ⟨rfl, hq1⟩; obtain ⟨hc1, hf1, hz1⟩ := hq1.facts; try simp at hz1; try have hs01 : w.heap.size < w1.heap.size := by omega; try have hs11 : w.heap.size + 1 < w1.heap.size := by omega))
  all_goals (go_ret2; exact ⟨rfl, (by repeat (first | exact Q.refl _ | assumption | refine Q.drew ?_ | refine Q.drewN ?_ _ | refine Q.alloc ?_ _ | refine Q.set ?_ (by first | (simp; done) | (simp; omega) | omega) _ | refine Q.trans ?_ (by assumption)))⟩)
end Go.Proofs.Ytcjljmegppnlcaa
