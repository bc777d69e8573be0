/- The walk of package num's 'do', operation by operation. Conditions: the type is valid, the numbers are in 32 bits, the case is as each theorem says. -/
import Derived.Test.YtcjljmegppnlcaaDoorNumD
import Derived.Deep.RegionHeld3
namespace Go.Proofs.YtcjljmegppnlcaaDoor
open Go.RowKit NP
set_option linter.unusedVariables false
theorem neq_nil (w : World) : (binOp .neq 50 .nilFunc .nilFunc).run Tryd.prog w = .ok (.bool false) w := by kernel_rfl
theorem neq_wrap (w : World) : (binOp .neq 50 (.func (.func 31) #[] #[]) .nilFunc).run Tryd.prog w = .ok (.bool true) w := by kernel_rfl
theorem neq_near (w : World) : (binOp .neq 50 (.func (.func 45) #[] #[]) .nilFunc).run Tryd.prog w = .ok (.bool true) w := by kernel_rfl
theorem do_5_fit (s : Bool) (b x y : Int) (w : World) (h1 : 1 ≤ b) (h2 : b ≤ 31) (x1 : -2147483648 ≤ x) (x2 : x ≤ 2147483647) (y1 : -2147483648 ≤ y) (y2 : y ≤ 2147483647)  (hf : fitsB s b (x + y) = true) :
    Calls Tryd.prog 24 #[.int .i64 5, .agg #[.bool s, .int .i64 b], .int .i64 x, .int .i64 y] w fun e w' => e = .returned (.tuple #[.int .i64 (x + y), .int .i64 0]) ∧ Q w w' := by
  have i0 : ∀ w, (Instr.index 53 (.agg opsV) (.int .i64 5)).run Tryd.prog w = .ok (.agg #[.func (.func 40) #[] #[], .nilFunc]) w := fun _ => by kernel_rfl
  have i1 := neq_nil
  have i2 := neq_wrap
  have i3 := neq_near
  obtain ⟨c, hc⟩ : ∃ c : Bool, (y == 0) = c := ⟨_, rfl⟩
  cases c
  all_goals go_enter Tryd.func24, Tryd.ntmps24
  all_goals go_wp2_with (first | (go_at_call 30; refine (operations_any _).mono ?_; rintro e w1 ⟨rfl, hq1⟩; obtain ⟨hc1, hf1, hz1⟩ := hq1.facts; try simp at hz1; try have hs01 : w.heap.size < w1.heap.size := by omega; try have hs11 : w.heap.size + 1 < w1.heap.size := by omega) | (go_at_call 40; refine (op1_any _ _ _ x1 x2 y1 y2).mono ?_; rintro e w1 ⟨rfl, rfl⟩))
  all_goals (
    have hxc := ext_cell
    refine wp_region_ext (by kernel_rfl) (by kernel_rfl) ?_
    repeat (go_big_quiet_step ((first | (go_at_call 29; exact ext_call (fits_any _ _ _ _ h1 h2)))))
    clear hxc
    refine wpQuiet_nil ?_
    intro w2 hww2
    have hqw2 := q_of_ext hww2
    clear hww2
    obtain ⟨hcw2, hfw2, hzw2⟩ := hqw2.facts
    try simp at hzw2
    try have hs0w2 : w.heap.size < w2.heap.size := by omega
    try have hs1w2 : w.heap.size + 1 < w2.heap.size := by omega)
  all_goals go_wp2_with (first | (go_at_call 31; refine (wrap_any _ _ _ _ h1 h2).mono ?_; rintro e w1 ⟨rfl, hq1⟩; obtain ⟨hc1, hf1, hz1⟩ := hq1.facts; try simp at hz1; try have hs01 : w.heap.size < w1.heap.size := by omega; try have hs11 : w.heap.size + 1 < w1.heap.size := by omega))
  all_goals (go_ret2; exact ⟨rfl, (by repeat (first | exact Q.refl _ | assumption | refine Q.drew ?_ | refine Q.drewN ?_ _ | refine Q.alloc ?_ _ | refine Q.set ?_ (by first | (simp; done) | (simp; omega) | omega) _ | refine Q.trans ?_ (by assumption)))⟩)
theorem do_5_no (s : Bool) (b x y : Int) (w : World) (h1 : 1 ≤ b) (h2 : b ≤ 31) (x1 : -2147483648 ≤ x) (x2 : x ≤ 2147483647) (y1 : -2147483648 ≤ y) (y2 : y ≤ 2147483647)  (hf : fitsB s b (x + y) = false) :
    Calls Tryd.prog 24 #[.int .i64 5, .agg #[.bool s, .int .i64 b], .int .i64 x, .int .i64 y] w fun e w' => e = .returned (.tuple #[.int .i64 (wrapS s b (x + y)), .int .i64 1]) ∧ Q w w' := by
  have i0 : ∀ w, (Instr.index 53 (.agg opsV) (.int .i64 5)).run Tryd.prog w = .ok (.agg #[.func (.func 40) #[] #[], .nilFunc]) w := fun _ => by kernel_rfl
  have i1 := neq_nil
  have i2 := neq_wrap
  have i3 := neq_near
  obtain ⟨c, hc⟩ : ∃ c : Bool, (y == 0) = c := ⟨_, rfl⟩
  cases c
  all_goals go_enter Tryd.func24, Tryd.ntmps24
  all_goals go_wp2_with (first | (go_at_call 30; refine (operations_any _).mono ?_; rintro e w1 ⟨rfl, hq1⟩; obtain ⟨hc1, hf1, hz1⟩ := hq1.facts; try simp at hz1; try have hs01 : w.heap.size < w1.heap.size := by omega; try have hs11 : w.heap.size + 1 < w1.heap.size := by omega) | (go_at_call 40; refine (op1_any _ _ _ x1 x2 y1 y2).mono ?_; rintro e w1 ⟨rfl, rfl⟩))
  all_goals (
    have hxc := ext_cell
    refine wp_region_ext (by kernel_rfl) (by kernel_rfl) ?_
    repeat (go_big_quiet_step ((first | (go_at_call 29; exact ext_call (fits_any _ _ _ _ h1 h2)))))
    clear hxc
    refine wpQuiet_nil ?_
    intro w2 hww2
    have hqw2 := q_of_ext hww2
    clear hww2
    obtain ⟨hcw2, hfw2, hzw2⟩ := hqw2.facts
    try simp at hzw2
    try have hs0w2 : w.heap.size < w2.heap.size := by omega
    try have hs1w2 : w.heap.size + 1 < w2.heap.size := by omega)
  all_goals go_wp2_with (first | (go_at_call 31; refine (wrap_any _ _ _ _ h1 h2).mono ?_; rintro e w1 ⟨rfl, hq1⟩; obtain ⟨hc1, hf1, hz1⟩ := hq1.facts; try simp at hz1; try have hs01 : w.heap.size < w1.heap.size := by omega; try have hs11 : w.heap.size + 1 < w1.heap.size := by omega))
  all_goals (go_ret2; exact ⟨rfl, (by repeat (first | exact Q.refl _ | assumption | refine Q.drew ?_ | refine Q.drewN ?_ _ | refine Q.alloc ?_ _ | refine Q.set ?_ (by first | (simp; done) | (simp; omega) | omega) _ | refine Q.trans ?_ (by assumption)))⟩)
theorem do_6_fit (s : Bool) (b x y : Int) (w : World) (h1 : 1 ≤ b) (h2 : b ≤ 31) (x1 : -2147483648 ≤ x) (x2 : x ≤ 2147483647) (y1 : -2147483648 ≤ y) (y2 : y ≤ 2147483647)  (hf : fitsB s b (x - y) = true) :
    Calls Tryd.prog 24 #[.int .i64 6, .agg #[.bool s, .int .i64 b], .int .i64 x, .int .i64 y] w fun e w' => e = .returned (.tuple #[.int .i64 (x - y), .int .i64 0]) ∧ Q w w' := by
  have i0 : ∀ w, (Instr.index 53 (.agg opsV) (.int .i64 6)).run Tryd.prog w = .ok (.agg #[.func (.func 41) #[] #[], .nilFunc]) w := fun _ => by kernel_rfl
  have i1 := neq_nil
  have i2 := neq_wrap
  have i3 := neq_near
  obtain ⟨c, hc⟩ : ∃ c : Bool, (y == 0) = c := ⟨_, rfl⟩
  cases c
  all_goals go_enter Tryd.func24, Tryd.ntmps24
  all_goals go_wp2_with (first | (go_at_call 30; refine (operations_any _).mono ?_; rintro e w1 ⟨rfl, hq1⟩; obtain ⟨hc1, hf1, hz1⟩ := hq1.facts; try simp at hz1; try have hs01 : w.heap.size < w1.heap.size := by omega; try have hs11 : w.heap.size + 1 < w1.heap.size := by omega) | (go_at_call 41; refine (op2_any _ _ _ x1 x2 y1 y2).mono ?_; rintro e w1 ⟨rfl, rfl⟩))
  all_goals (
    have hxc := ext_cell
    refine wp_region_ext (by kernel_rfl) (by kernel_rfl) ?_
    repeat (go_big_quiet_step ((first | (go_at_call 29; exact ext_call (fits_any _ _ _ _ h1 h2)))))
    clear hxc
    refine wpQuiet_nil ?_
    intro w2 hww2
    have hqw2 := q_of_ext hww2
    clear hww2
    obtain ⟨hcw2, hfw2, hzw2⟩ := hqw2.facts
    try simp at hzw2
    try have hs0w2 : w.heap.size < w2.heap.size := by omega
    try have hs1w2 : w.heap.size + 1 < w2.heap.size := by omega)
  all_goals go_wp2_with (first | (go_at_call 31; refine (wrap_any _ _ _ _ h1 h2).mono ?_; rintro e w1 ⟨rfl, hq1⟩; obtain ⟨hc1, hf1, hz1⟩ := hq1.facts; try simp at hz1; try have hs01 : w.heap.size < w1.heap.size := by omega; try have hs11 : w.heap.size + 1 < w1.heap.size := by omega))
  all_goals (go_ret2; exact ⟨rfl, (by repeat (first | exact Q.refl _ | assumption | refine Q.drew ?_ | refine Q.drewN ?_ _ | refine Q.alloc ?_ _ | refine Q.set ?_ (by first | (simp; done) | (simp; omega) | omega) _ | refine Q.trans ?_ (by assumption)))⟩)
theorem do_6_no (s : Bool) (b x y : Int) (w : World) (h1 : 1 ≤ b) (h2 : b ≤ 31) (x1 : -2147483648 ≤ x) (x2 : x ≤ 2147483647) (y1 : -2147483648 ≤ y) (y2 : y ≤ 2147483647)  (hf : fitsB s b (x - y) = false) :
    Calls Tryd.prog 24 #[.int .i64 6, .agg #[.bool s, .int .i64 b], .int .i64 x, .int .i64 y] w fun e w' => e = .returned (.tuple #[.int .i64 (wrapS s b (x - y)), .int .i64 1]) ∧ Q w w' := by
  have i0 : ∀ w, (Instr.index 53 (.agg opsV) (.int .i64 6)).run Tryd.prog w = .ok (.agg #[.func (.func 41) #[] #[], .nilFunc]) w := fun _ => by kernel_rfl
  have i1 := neq_nil
  have i2 := neq_wrap
  have i3 := neq_near
  obtain ⟨c, hc⟩ : ∃ c : Bool, (y == 0) = c := ⟨_, rfl⟩
  cases c
  all_goals go_enter Tryd.func24, Tryd.ntmps24
  all_goals go_wp2_with (first | (go_at_call 30; refine (operations_any _).mono ?_; rintro e w1 ⟨rfl, hq1⟩; obtain ⟨hc1, hf1, hz1⟩ := hq1.facts; try simp at hz1; try have hs01 : w.heap.size < w1.heap.size := by omega; try have hs11 : w.heap.size + 1 < w1.heap.size := by omega) | (go_at_call 41; refine (op2_any _ _ _ x1 x2 y1 y2).mono ?_; rintro e w1 ⟨rfl, rfl⟩))
  all_goals (
    have hxc := ext_cell
    refine wp_region_ext (by kernel_rfl) (by kernel_rfl) ?_
    repeat (go_big_quiet_step ((first | (go_at_call 29; exact ext_call (fits_any _ _ _ _ h1 h2)))))
    clear hxc
    refine wpQuiet_nil ?_
    intro w2 hww2
    have hqw2 := q_of_ext hww2
    clear hww2
    obtain ⟨hcw2, hfw2, hzw2⟩ := hqw2.facts
    try simp at hzw2
    try have hs0w2 : w.heap.size < w2.heap.size := by omega
    try have hs1w2 : w.heap.size + 1 < w2.heap.size := by omega)
  all_goals go_wp2_with (first | (go_at_call 31; refine (wrap_any _ _ _ _ h1 h2).mono ?_; rintro e w1 ⟨rfl, hq1⟩; obtain ⟨hc1, hf1, hz1⟩ := hq1.facts; try simp at hz1; try have hs01 : w.heap.size < w1.heap.size := by omega; try have hs11 : w.heap.size + 1 < w1.heap.size := by omega))
  all_goals (go_ret2; exact ⟨rfl, (by repeat (first | exact Q.refl _ | assumption | refine Q.drew ?_ | refine Q.drewN ?_ _ | refine Q.alloc ?_ _ | refine Q.set ?_ (by first | (simp; done) | (simp; omega) | omega) _ | refine Q.trans ?_ (by assumption)))⟩)
theorem do_7_fit (s : Bool) (b x y : Int) (w : World) (h1 : 1 ≤ b) (h2 : b ≤ 31) (x1 : -2147483648 ≤ x) (x2 : x ≤ 2147483647) (y1 : -2147483648 ≤ y) (y2 : y ≤ 2147483647)  (hf : fitsB s b (x * y) = true) :
    Calls Tryd.prog 24 #[.int .i64 7, .agg #[.bool s, .int .i64 b], .int .i64 x, .int .i64 y] w fun e w' => e = .returned (.tuple #[.int .i64 (x * y), .int .i64 0]) ∧ Q w w' := by
  have i0 : ∀ w, (Instr.index 53 (.agg opsV) (.int .i64 7)).run Tryd.prog w = .ok (.agg #[.func (.func 42) #[] #[], .nilFunc]) w := fun _ => by kernel_rfl
  have i1 := neq_nil
  have i2 := neq_wrap
  have i3 := neq_near
  obtain ⟨m1, m2⟩ := mul_bd x y x1 x2 y1 y2
  obtain ⟨c, hc⟩ : ∃ c : Bool, (y == 0) = c := ⟨_, rfl⟩
  cases c
  all_goals go_enter Tryd.func24, Tryd.ntmps24
  all_goals go_wp2_with (first | (go_at_call 30; refine (operations_any _).mono ?_; rintro e w1 ⟨rfl, hq1⟩; obtain ⟨hc1, hf1, hz1⟩ := hq1.facts; try simp at hz1; try have hs01 : w.heap.size < w1.heap.size := by omega; try have hs11 : w.heap.size + 1 < w1.heap.size := by omega) | (go_at_call 42; refine (op3_any _ _ _ x1 x2 y1 y2).mono ?_; rintro e w1 ⟨rfl, rfl⟩))
  all_goals (
    have hxc := ext_cell
    refine wp_region_ext (by kernel_rfl) (by kernel_rfl) ?_
    repeat (go_big_quiet_step ((first | (go_at_call 29; exact ext_call (fits_any _ _ _ _ h1 h2)))))
    clear hxc
    refine wpQuiet_nil ?_
    intro w2 hww2
    have hqw2 := q_of_ext hww2
    clear hww2
    obtain ⟨hcw2, hfw2, hzw2⟩ := hqw2.facts
    try simp at hzw2
    try have hs0w2 : w.heap.size < w2.heap.size := by omega
    try have hs1w2 : w.heap.size + 1 < w2.heap.size := by omega)
  all_goals go_wp2_with (first | (go_at_call 31; refine (wrap_any _ _ _ _ h1 h2).mono ?_; rintro e w1 ⟨rfl, hq1⟩; obtain ⟨hc1, hf1, hz1⟩ := hq1.facts; try simp at hz1; try have hs01 : w.heap.size < w1.heap.size := by omega; try have hs11 : w.heap.size + 1 < w1.heap.size := by omega))
  all_goals (go_ret2; exact ⟨rfl, (by repeat (first | exact Q.refl _ | assumption | refine Q.drew ?_ | refine Q.drewN ?_ _ | refine Q.alloc ?_ _ | refine Q.set ?_ (by first | (simp; done) | (simp; omega) | omega) _ | refine Q.trans ?_ (by assumption)))⟩)
theorem do_7_no (s : Bool) (b x y : Int) (w : World) (h1 : 1 ≤ b) (h2 : b ≤ 31) (x1 : -2147483648 ≤ x) (x2 : x ≤ 2147483647) (y1 : -2147483648 ≤ y) (y2 : y ≤ 2147483647)  (hf : fitsB s b (x * y) = false) :
    Calls Tryd.prog 24 #[.int .i64 7, .agg #[.bool s, .int .i64 b], .int .i64 x, .int .i64 y] w fun e w' => e = .returned (.tuple #[.int .i64 (wrapS s b (x * y)), .int .i64 1]) ∧ Q w w' := by
  have i0 : ∀ w, (Instr.index 53 (.agg opsV) (.int .i64 7)).run Tryd.prog w = .ok (.agg #[.func (.func 42) #[] #[], .nilFunc]) w := fun _ => by kernel_rfl
  have i1 := neq_nil
  have i2 := neq_wrap
  have i3 := neq_near
  obtain ⟨m1, m2⟩ := mul_bd x y x1 x2 y1 y2
  obtain ⟨c, hc⟩ : ∃ c : Bool, (y == 0) = c := ⟨_, rfl⟩
  cases c
  all_goals go_enter Tryd.func24, Tryd.ntmps24
  all_goals go_wp2_with (first | (go_at_call 30; refine (operations_any _).mono ?_; rintro e w1 ⟨rfl, hq1⟩; obtain ⟨hc1, hf1, hz1⟩ := hq1.facts; try simp at hz1; try have hs01 : w.heap.size < w1.heap.size := by omega; try have hs11 : w.heap.size + 1 < w1.heap.size := by omega) | (go_at_call 42; refine (op3_any _ _ _ x1 x2 y1 y2).mono ?_; rintro e w1 ⟨rfl, rfl⟩))
  all_goals (
    have hxc := ext_cell
    refine wp_region_ext (by kernel_rfl) (by kernel_rfl) ?_
    repeat (go_big_quiet_step ((first | (go_at_call 29; exact ext_call (fits_any _ _ _ _ h1 h2)))))
    clear hxc
    refine wpQuiet_nil ?_
    intro w2 hww2
    have hqw2 := q_of_ext hww2
    clear hww2
    obtain ⟨hcw2, hfw2, hzw2⟩ := hqw2.facts
    try simp at hzw2
    try have hs0w2 : w.heap.size < w2.heap.size := by omega
    try have hs1w2 : w.heap.size + 1 < w2.heap.size := by omega)
  all_goals go_wp2_with (first | (go_at_call 31; refine (wrap_any _ _ _ _ h1 h2).mono ?_; rintro e w1 ⟨rfl, hq1⟩; obtain ⟨hc1, hf1, hz1⟩ := hq1.facts; try simp at hz1; try have hs01 : w.heap.size < w1.heap.size := by omega; try have hs11 : w.heap.size + 1 < w1.heap.size := by omega))
  all_goals (go_ret2; exact ⟨rfl, (by repeat (first | exact Q.refl _ | assumption | refine Q.drew ?_ | refine Q.drewN ?_ _ | refine Q.alloc ?_ _ | refine Q.set ?_ (by first | (simp; done) | (simp; omega) | omega) _ | refine Q.trans ?_ (by assumption)))⟩)
theorem do_8_z (s : Bool) (b x y : Int) (w : World) (h1 : 1 ≤ b) (h2 : b ≤ 31) (x1 : -2147483648 ≤ x) (x2 : x ≤ 2147483647) (y1 : -2147483648 ≤ y) (y2 : y ≤ 2147483647) (hy : y = 0) :
    Calls Tryd.prog 24 #[.int .i64 8, .agg #[.bool s, .int .i64 b], .int .i64 x, .int .i64 y] w fun e w' => e = .returned (.tuple #[.int .i64 0, .int .i64 2]) ∧ Q w w' := by
  subst hy
  go_enter Tryd.func24, Tryd.ntmps24
  go_wp2_with fail
  go_ret2
  exact ⟨rfl, (by repeat (first | exact Q.refl _ | assumption | refine Q.drew ?_ | refine Q.drewN ?_ _ | refine Q.alloc ?_ _ | refine Q.set ?_ (by first | (simp; done) | (simp; omega) | omega) _ | refine Q.trans ?_ (by assumption)))⟩
theorem do_8_fit (s : Bool) (b x y : Int) (w : World) (h1 : 1 ≤ b) (h2 : b ≤ 31) (x1 : -2147483648 ≤ x) (x2 : x ≤ 2147483647) (y1 : -2147483648 ≤ y) (y2 : y ≤ 2147483647) (hy : ¬ y = 0) (hf : fitsB s b (x.tdiv y) = true) :
    Calls Tryd.prog 24 #[.int .i64 8, .agg #[.bool s, .int .i64 b], .int .i64 x, .int .i64 y] w fun e w' => e = .returned (.tuple #[.int .i64 (x.tdiv y), .int .i64 0]) ∧ Q w w' := by
  have i0 : ∀ w, (Instr.index 53 (.agg opsV) (.int .i64 8)).run Tryd.prog w = .ok (.agg #[.func (.func 43) #[] #[], .nilFunc]) w := fun _ => by kernel_rfl
  have i1 := neq_nil
  have i2 := neq_wrap
  have i3 := neq_near
  obtain ⟨m1, m2⟩ := tdiv_bd x y x1 x2
  all_goals go_enter Tryd.func24, Tryd.ntmps24
  all_goals go_wp2_with (first | (go_at_call 30; refine (operations_any _).mono ?_; rintro e w1 ⟨rfl, hq1⟩; obtain ⟨hc1, hf1, hz1⟩ := hq1.facts; try simp at hz1; try have hs01 : w.heap.size < w1.heap.size := by omega; try have hs11 : w.heap.size + 1 < w1.heap.size := by omega) | (go_at_call 43; refine (op4_any _ _ _ x1 x2 y1 y2 hy).mono ?_; rintro e w1 ⟨rfl, rfl⟩))
  all_goals (
    have hxc := ext_cell
    refine wp_region_ext (by kernel_rfl) (by kernel_rfl) ?_
    repeat (go_big_quiet_step ((first | (go_at_call 29; exact ext_call (fits_any _ _ _ _ h1 h2)))))
    clear hxc
    refine wpQuiet_nil ?_
    intro w2 hww2
    have hqw2 := q_of_ext hww2
    clear hww2
    obtain ⟨hcw2, hfw2, hzw2⟩ := hqw2.facts
    try simp at hzw2
    try have hs0w2 : w.heap.size < w2.heap.size := by omega
    try have hs1w2 : w.heap.size + 1 < w2.heap.size := by omega)
  all_goals go_wp2_with (first | (go_at_call 31; refine (wrap_any _ _ _ _ h1 h2).mono ?_; rintro e w1 ⟨rfl, hq1⟩; obtain ⟨hc1, hf1, hz1⟩ := hq1.facts; try simp at hz1; try have hs01 : w.heap.size < w1.heap.size := by omega; try have hs11 : w.heap.size + 1 < w1.heap.size := by omega))
  all_goals (go_ret2; exact ⟨rfl, (by repeat (first | exact Q.refl _ | assumption | refine Q.drew ?_ | refine Q.drewN ?_ _ | refine Q.alloc ?_ _ | refine Q.set ?_ (by first | (simp; done) | (simp; omega) | omega) _ | refine Q.trans ?_ (by assumption)))⟩)
theorem do_8_no (s : Bool) (b x y : Int) (w : World) (h1 : 1 ≤ b) (h2 : b ≤ 31) (x1 : -2147483648 ≤ x) (x2 : x ≤ 2147483647) (y1 : -2147483648 ≤ y) (y2 : y ≤ 2147483647) (hy : ¬ y = 0) (hf : fitsB s b (x.tdiv y) = false) :
    Calls Tryd.prog 24 #[.int .i64 8, .agg #[.bool s, .int .i64 b], .int .i64 x, .int .i64 y] w fun e w' => e = .returned (.tuple #[.int .i64 (wrapS s b (x.tdiv y)), .int .i64 1]) ∧ Q w w' := by
  have i0 : ∀ w, (Instr.index 53 (.agg opsV) (.int .i64 8)).run Tryd.prog w = .ok (.agg #[.func (.func 43) #[] #[], .nilFunc]) w := fun _ => by kernel_rfl
  have i1 := neq_nil
  have i2 := neq_wrap
  have i3 := neq_near
  obtain ⟨m1, m2⟩ := tdiv_bd x y x1 x2
  all_goals go_enter Tryd.func24, Tryd.ntmps24
  all_goals go_wp2_with (first | (go_at_call 30; refine (operations_any _).mono ?_; rintro e w1 ⟨rfl, hq1⟩; obtain ⟨hc1, hf1, hz1⟩ := hq1.facts; try simp at hz1; try have hs01 : w.heap.size < w1.heap.size := by omega; try have hs11 : w.heap.size + 1 < w1.heap.size := by omega) | (go_at_call 43; refine (op4_any _ _ _ x1 x2 y1 y2 hy).mono ?_; rintro e w1 ⟨rfl, rfl⟩))
  all_goals (
    have hxc := ext_cell
    refine wp_region_ext (by kernel_rfl) (by kernel_rfl) ?_
    repeat (go_big_quiet_step ((first | (go_at_call 29; exact ext_call (fits_any _ _ _ _ h1 h2)))))
    clear hxc
    refine wpQuiet_nil ?_
    intro w2 hww2
    have hqw2 := q_of_ext hww2
    clear hww2
    obtain ⟨hcw2, hfw2, hzw2⟩ := hqw2.facts
    try simp at hzw2
    try have hs0w2 : w.heap.size < w2.heap.size := by omega
    try have hs1w2 : w.heap.size + 1 < w2.heap.size := by omega)
  all_goals go_wp2_with (first | (go_at_call 31; refine (wrap_any _ _ _ _ h1 h2).mono ?_; rintro e w1 ⟨rfl, hq1⟩; obtain ⟨hc1, hf1, hz1⟩ := hq1.facts; try simp at hz1; try have hs01 : w.heap.size < w1.heap.size := by omega; try have hs11 : w.heap.size + 1 < w1.heap.size := by omega))
  all_goals (go_ret2; exact ⟨rfl, (by repeat (first | exact Q.refl _ | assumption | refine Q.drew ?_ | refine Q.drewN ?_ _ | refine Q.alloc ?_ _ | refine Q.set ?_ (by first | (simp; done) | (simp; omega) | omega) _ | refine Q.trans ?_ (by assumption)))⟩)
theorem do_9_z (s : Bool) (b x y : Int) (w : World) (h1 : 1 ≤ b) (h2 : b ≤ 31) (x1 : -2147483648 ≤ x) (x2 : x ≤ 2147483647) (y1 : -2147483648 ≤ y) (y2 : y ≤ 2147483647) (hy : y = 0) :
    Calls Tryd.prog 24 #[.int .i64 9, .agg #[.bool s, .int .i64 b], .int .i64 x, .int .i64 y] w fun e w' => e = .returned (.tuple #[.int .i64 x, .int .i64 2]) ∧ Q w w' := by
  subst hy
  go_enter Tryd.func24, Tryd.ntmps24
  go_wp2_with fail
  go_ret2
  exact ⟨rfl, (by repeat (first | exact Q.refl _ | assumption | refine Q.drew ?_ | refine Q.drewN ?_ _ | refine Q.alloc ?_ _ | refine Q.set ?_ (by first | (simp; done) | (simp; omega) | omega) _ | refine Q.trans ?_ (by assumption)))⟩
theorem do_9_fit (s : Bool) (b x y : Int) (w : World) (h1 : 1 ≤ b) (h2 : b ≤ 31) (x1 : -2147483648 ≤ x) (x2 : x ≤ 2147483647) (y1 : -2147483648 ≤ y) (y2 : y ≤ 2147483647) (hy : ¬ y = 0) (hf : fitsB s b (x.tmod y) = true) (hq : fitsB s b (x.tdiv y) = true) :
    Calls Tryd.prog 24 #[.int .i64 9, .agg #[.bool s, .int .i64 b], .int .i64 x, .int .i64 y] w fun e w' => e = .returned (.tuple #[.int .i64 (x.tmod y), .int .i64 0]) ∧ Q w w' := by
  have i0 : ∀ w, (Instr.index 53 (.agg opsV) (.int .i64 9)).run Tryd.prog w = .ok (.agg #[.func (.func 44) #[] #[], .nilFunc]) w := fun _ => by kernel_rfl
  have i1 := neq_nil
  have i2 := neq_wrap
  have i3 := neq_near
  obtain ⟨m1, m2⟩ := tdiv_bd x y x1 x2
  all_goals go_enter Tryd.func24, Tryd.ntmps24
  all_goals go_wp2_with (first | (go_at_call 30; refine (operations_any _).mono ?_; rintro e w1 ⟨rfl, hq1⟩; obtain ⟨hc1, hf1, hz1⟩ := hq1.facts; try simp at hz1; try have hs01 : w.heap.size < w1.heap.size := by omega; try have hs11 : w.heap.size + 1 < w1.heap.size := by omega) | (go_at_call 44; refine (op5_any _ _ _ x1 x2 y1 y2 hy).mono ?_; rintro e w1 ⟨rfl, rfl⟩))
  all_goals (
    have hxc := ext_cell
    refine wp_region_ext (by kernel_rfl) (by kernel_rfl) ?_
    repeat (go_big_quiet_step ((first | (go_at_call 29; exact ext_call (fits_any _ _ _ _ h1 h2)))))
    clear hxc
    refine wpQuiet_nil ?_
    intro w2 hww2
    have hqw2 := q_of_ext hww2
    clear hww2
    obtain ⟨hcw2, hfw2, hzw2⟩ := hqw2.facts
    try simp at hzw2
    try have hs0w2 : w.heap.size < w2.heap.size := by omega
    try have hs1w2 : w.heap.size + 1 < w2.heap.size := by omega)
  all_goals go_wp2_with (first | (go_at_call 31; refine (wrap_any _ _ _ _ h1 h2).mono ?_; rintro e w1 ⟨rfl, hq1⟩; obtain ⟨hc1, hf1, hz1⟩ := hq1.facts; try simp at hz1; try have hs01 : w.heap.size < w1.heap.size := by omega; try have hs11 : w.heap.size + 1 < w1.heap.size := by omega))
  all_goals (go_ret2; exact ⟨rfl, (by repeat (first | exact Q.refl _ | assumption | refine Q.drew ?_ | refine Q.drewN ?_ _ | refine Q.alloc ?_ _ | refine Q.set ?_ (by first | (simp; done) | (simp; omega) | omega) _ | refine Q.trans ?_ (by assumption)))⟩)
theorem do_9_no (s : Bool) (b x y : Int) (w : World) (h1 : 1 ≤ b) (h2 : b ≤ 31) (x1 : -2147483648 ≤ x) (x2 : x ≤ 2147483647) (y1 : -2147483648 ≤ y) (y2 : y ≤ 2147483647) (hy : ¬ y = 0) (hf : fitsB s b (x.tmod y) = false) :
    Calls Tryd.prog 24 #[.int .i64 9, .agg #[.bool s, .int .i64 b], .int .i64 x, .int .i64 y] w fun e w' => e = .returned (.tuple #[.int .i64 (wrapS s b (x.tmod y)), .int .i64 1]) ∧ Q w w' := by
  have i0 : ∀ w, (Instr.index 53 (.agg opsV) (.int .i64 9)).run Tryd.prog w = .ok (.agg #[.func (.func 44) #[] #[], .nilFunc]) w := fun _ => by kernel_rfl
  have i1 := neq_nil
  have i2 := neq_wrap
  have i3 := neq_near
  obtain ⟨m1, m2⟩ := tdiv_bd x y x1 x2
  all_goals go_enter Tryd.func24, Tryd.ntmps24
  all_goals go_wp2_with (first | (go_at_call 30; refine (operations_any _).mono ?_; rintro e w1 ⟨rfl, hq1⟩; obtain ⟨hc1, hf1, hz1⟩ := hq1.facts; try simp at hz1; try have hs01 : w.heap.size < w1.heap.size := by omega; try have hs11 : w.heap.size + 1 < w1.heap.size := by omega) | (go_at_call 44; refine (op5_any _ _ _ x1 x2 y1 y2 hy).mono ?_; rintro e w1 ⟨rfl, rfl⟩))
  all_goals (
    have hxc := ext_cell
    refine wp_region_ext (by kernel_rfl) (by kernel_rfl) ?_
    repeat (go_big_quiet_step ((first | (go_at_call 29; exact ext_call (fits_any _ _ _ _ h1 h2)))))
    clear hxc
    refine wpQuiet_nil ?_
    intro w2 hww2
    have hqw2 := q_of_ext hww2
    clear hww2
    obtain ⟨hcw2, hfw2, hzw2⟩ := hqw2.facts
    try simp at hzw2
    try have hs0w2 : w.heap.size < w2.heap.size := by omega
    try have hs1w2 : w.heap.size + 1 < w2.heap.size := by omega)
  all_goals go_wp2_with (first | (go_at_call 31; refine (wrap_any _ _ _ _ h1 h2).mono ?_; rintro e w1 ⟨rfl, hq1⟩; obtain ⟨hc1, hf1, hz1⟩ := hq1.facts; try simp at hz1; try have hs01 : w.heap.size < w1.heap.size := by omega; try have hs11 : w.heap.size + 1 < w1.heap.size := by omega))
  all_goals (go_ret2; exact ⟨rfl, (by repeat (first | exact Q.refl _ | assumption | refine Q.drew ?_ | refine Q.drewN ?_ _ | refine Q.alloc ?_ _ | refine Q.set ?_ (by first | (simp; done) | (simp; omega) | omega) _ | refine Q.trans ?_ (by assumption)))⟩)
theorem do_9_quo (s : Bool) (b x y : Int) (w : World) (h1 : 1 ≤ b) (h2 : b ≤ 31) (x1 : -2147483648 ≤ x) (x2 : x ≤ 2147483647) (y1 : -2147483648 ≤ y) (y2 : y ≤ 2147483647) (hy : ¬ y = 0) (hf : fitsB s b (x.tmod y) = true) (hq : fitsB s b (x.tdiv y) = false) :
    Calls Tryd.prog 24 #[.int .i64 9, .agg #[.bool s, .int .i64 b], .int .i64 x, .int .i64 y] w fun e w' => e = .returned (.tuple #[.int .i64 (wrapS s b (x.tmod y)), .int .i64 1]) ∧ Q w w' := by
  have i0 : ∀ w, (Instr.index 53 (.agg opsV) (.int .i64 9)).run Tryd.prog w = .ok (.agg #[.func (.func 44) #[] #[], .nilFunc]) w := fun _ => by kernel_rfl
  have i1 := neq_nil
  have i2 := neq_wrap
  have i3 := neq_near
  obtain ⟨m1, m2⟩ := tdiv_bd x y x1 x2
  all_goals go_enter Tryd.func24, Tryd.ntmps24
  all_goals go_wp2_with (first | (go_at_call 30; refine (operations_any _).mono ?_; rintro e w1 ⟨rfl, hq1⟩; obtain ⟨hc1, hf1, hz1⟩ := hq1.facts; try simp at hz1; try have hs01 : w.heap.size < w1.heap.size := by omega; try have hs11 : w.heap.size + 1 < w1.heap.size := by omega) | (go_at_call 44; refine (op5_any _ _ _ x1 x2 y1 y2 hy).mono ?_; rintro e w1 ⟨rfl, rfl⟩))
  all_goals (
    have hxc := ext_cell
    refine wp_region_ext (by kernel_rfl) (by kernel_rfl) ?_
    repeat (go_big_quiet_step ((first | (go_at_call 29; exact ext_call (fits_any _ _ _ _ h1 h2)))))
    clear hxc
    refine wpQuiet_nil ?_
    intro w2 hww2
    have hqw2 := q_of_ext hww2
    clear hww2
    obtain ⟨hcw2, hfw2, hzw2⟩ := hqw2.facts
    try simp at hzw2
    try have hs0w2 : w.heap.size < w2.heap.size := by omega
    try have hs1w2 : w.heap.size + 1 < w2.heap.size := by omega)
  all_goals go_wp2_with (first | (go_at_call 31; refine (wrap_any _ _ _ _ h1 h2).mono ?_; rintro e w1 ⟨rfl, hq1⟩; obtain ⟨hc1, hf1, hz1⟩ := hq1.facts; try simp at hz1; try have hs01 : w.heap.size < w1.heap.size := by omega; try have hs11 : w.heap.size + 1 < w1.heap.size := by omega))
  all_goals (go_ret2; exact ⟨rfl, (by repeat (first | exact Q.refl _ | assumption | refine Q.drew ?_ | refine Q.drewN ?_ _ | refine Q.alloc ?_ _ | refine Q.set ?_ (by first | (simp; done) | (simp; omega) | omega) _ | refine Q.trans ?_ (by assumption)))⟩)
theorem do_10 (s : Bool) (b x y : Int) (w : World) (h1 : 1 ≤ b) (h2 : b ≤ 31) (x1 : -2147483648 ≤ x) (x2 : x ≤ 2147483647) (y1 : -2147483648 ≤ y) (y2 : y ≤ 2147483647)  :
    Calls Tryd.prog 24 #[.int .i64 10, .agg #[.bool s, .int .i64 b], .int .i64 x, .int .i64 y] w fun e w' => e = .returned (.tuple #[.int .i64 (wrapS s b (x + y)), .int .i64 0]) ∧ Q w w' := by
  have i0 : ∀ w, (Instr.index 53 (.agg opsV) (.int .i64 10)).run Tryd.prog w = .ok (.agg #[.func (.func 40) #[] #[], .func (.func 31) #[] #[]]) w := fun _ => by kernel_rfl
  have i1 := neq_nil
  have i2 := neq_wrap
  have i3 := neq_near
  obtain ⟨c, hc⟩ : ∃ c : Bool, (y == 0) = c := ⟨_, rfl⟩
  cases c
  all_goals go_enter Tryd.func24, Tryd.ntmps24
  all_goals go_wp2_with (first | (go_at_call 30; refine (operations_any _).mono ?_; rintro e w1 ⟨rfl, hq1⟩; obtain ⟨hc1, hf1, hz1⟩ := hq1.facts; try simp at hz1; try have hs01 : w.heap.size < w1.heap.size := by omega; try have hs11 : w.heap.size + 1 < w1.heap.size := by omega) | (go_at_call 40; refine (op1_any _ _ _ x1 x2 y1 y2).mono ?_; rintro e w1 ⟨rfl, rfl⟩) | (go_at_call 31; refine (wrap_any _ _ _ _ h1 h2).mono ?_; rintro e w1 ⟨rfl, hq1⟩; obtain ⟨hc1, hf1, hz1⟩ := hq1.facts; try simp at hz1; try have hs01 : w.heap.size < w1.heap.size := by omega; try have hs11 : w.heap.size + 1 < w1.heap.size := by omega))
  all_goals (go_ret2; exact ⟨rfl, (by repeat (first | exact Q.refl _ | assumption | refine Q.drew ?_ | refine Q.drewN ?_ _ | refine Q.alloc ?_ _ | refine Q.set ?_ (by first | (simp; done) | (simp; omega) | omega) _ | refine Q.trans ?_ (by assumption)))⟩)
theorem do_11 (s : Bool) (b x y : Int) (w : World) (h1 : 1 ≤ b) (h2 : b ≤ 31) (x1 : -2147483648 ≤ x) (x2 : x ≤ 2147483647) (y1 : -2147483648 ≤ y) (y2 : y ≤ 2147483647)  :
    Calls Tryd.prog 24 #[.int .i64 11, .agg #[.bool s, .int .i64 b], .int .i64 x, .int .i64 y] w fun e w' => e = .returned (.tuple #[.int .i64 (wrapS s b (x - y)), .int .i64 0]) ∧ Q w w' := by
  have i0 : ∀ w, (Instr.index 53 (.agg opsV) (.int .i64 11)).run Tryd.prog w = .ok (.agg #[.func (.func 41) #[] #[], .func (.func 31) #[] #[]]) w := fun _ => by kernel_rfl
  have i1 := neq_nil
  have i2 := neq_wrap
  have i3 := neq_near
  obtain ⟨c, hc⟩ : ∃ c : Bool, (y == 0) = c := ⟨_, rfl⟩
  cases c
  all_goals go_enter Tryd.func24, Tryd.ntmps24
  all_goals go_wp2_with (first | (go_at_call 30; refine (operations_any _).mono ?_; rintro e w1 ⟨rfl, hq1⟩; obtain ⟨hc1, hf1, hz1⟩ := hq1.facts; try simp at hz1; try have hs01 : w.heap.size < w1.heap.size := by omega; try have hs11 : w.heap.size + 1 < w1.heap.size := by omega) | (go_at_call 41; refine (op2_any _ _ _ x1 x2 y1 y2).mono ?_; rintro e w1 ⟨rfl, rfl⟩) | (go_at_call 31; refine (wrap_any _ _ _ _ h1 h2).mono ?_; rintro e w1 ⟨rfl, hq1⟩; obtain ⟨hc1, hf1, hz1⟩ := hq1.facts; try simp at hz1; try have hs01 : w.heap.size < w1.heap.size := by omega; try have hs11 : w.heap.size + 1 < w1.heap.size := by omega))
  all_goals (go_ret2; exact ⟨rfl, (by repeat (first | exact Q.refl _ | assumption | refine Q.drew ?_ | refine Q.drewN ?_ _ | refine Q.alloc ?_ _ | refine Q.set ?_ (by first | (simp; done) | (simp; omega) | omega) _ | refine Q.trans ?_ (by assumption)))⟩)
theorem do_12 (s : Bool) (b x y : Int) (w : World) (h1 : 1 ≤ b) (h2 : b ≤ 31) (x1 : -2147483648 ≤ x) (x2 : x ≤ 2147483647) (y1 : -2147483648 ≤ y) (y2 : y ≤ 2147483647)  :
    Calls Tryd.prog 24 #[.int .i64 12, .agg #[.bool s, .int .i64 b], .int .i64 x, .int .i64 y] w fun e w' => e = .returned (.tuple #[.int .i64 (wrapS s b (x * y)), .int .i64 0]) ∧ Q w w' := by
  have i0 : ∀ w, (Instr.index 53 (.agg opsV) (.int .i64 12)).run Tryd.prog w = .ok (.agg #[.func (.func 42) #[] #[], .func (.func 31) #[] #[]]) w := fun _ => by kernel_rfl
  have i1 := neq_nil
  have i2 := neq_wrap
  have i3 := neq_near
  obtain ⟨m1, m2⟩ := mul_bd x y x1 x2 y1 y2
  obtain ⟨c, hc⟩ : ∃ c : Bool, (y == 0) = c := ⟨_, rfl⟩
  cases c
  all_goals go_enter Tryd.func24, Tryd.ntmps24
  all_goals go_wp2_with (first | (go_at_call 30; refine (operations_any _).mono ?_; rintro e w1 ⟨rfl, hq1⟩; obtain ⟨hc1, hf1, hz1⟩ := hq1.facts; try simp at hz1; try have hs01 : w.heap.size < w1.heap.size := by omega; try have hs11 : w.heap.size + 1 < w1.heap.size := by omega) | (go_at_call 42; refine (op3_any _ _ _ x1 x2 y1 y2).mono ?_; rintro e w1 ⟨rfl, rfl⟩) | (go_at_call 31; refine (wrap_any _ _ _ _ h1 h2).mono ?_; rintro e w1 ⟨rfl, hq1⟩; obtain ⟨hc1, hf1, hz1⟩ := hq1.facts; try simp at hz1; try have hs01 : w.heap.size < w1.heap.size := by omega; try have hs11 : w.heap.size + 1 < w1.heap.size := by omega))
  all_goals (go_ret2; exact ⟨rfl, (by repeat (first | exact Q.refl _ | assumption | refine Q.drew ?_ | refine Q.drewN ?_ _ | refine Q.alloc ?_ _ | refine Q.set ?_ (by first | (simp; done) | (simp; omega) | omega) _ | refine Q.trans ?_ (by assumption)))⟩)
theorem do_13 (s : Bool) (b x y : Int) (w : World) (h1 : 1 ≤ b) (h2 : b ≤ 31) (x1 : -2147483648 ≤ x) (x2 : x ≤ 2147483647) (y1 : -2147483648 ≤ y) (y2 : y ≤ 2147483647)  :
    Calls Tryd.prog 24 #[.int .i64 13, .agg #[.bool s, .int .i64 b], .int .i64 x, .int .i64 y] w fun e w' => e = .returned (.tuple #[.int .i64 (nearS s b (x + y)), .int .i64 0]) ∧ Q w w' := by
  have i0 : ∀ w, (Instr.index 53 (.agg opsV) (.int .i64 13)).run Tryd.prog w = .ok (.agg #[.func (.func 40) #[] #[], .func (.func 45) #[] #[]]) w := fun _ => by kernel_rfl
  have i1 := neq_nil
  have i2 := neq_wrap
  have i3 := neq_near
  obtain ⟨c, hc⟩ : ∃ c : Bool, (y == 0) = c := ⟨_, rfl⟩
  cases c
  all_goals go_enter Tryd.func24, Tryd.ntmps24
  all_goals go_wp2_with (first | (go_at_call 30; refine (operations_any _).mono ?_; rintro e w1 ⟨rfl, hq1⟩; obtain ⟨hc1, hf1, hz1⟩ := hq1.facts; try simp at hz1; try have hs01 : w.heap.size < w1.heap.size := by omega; try have hs11 : w.heap.size + 1 < w1.heap.size := by omega) | (go_at_call 40; refine (op1_any _ _ _ x1 x2 y1 y2).mono ?_; rintro e w1 ⟨rfl, rfl⟩) | (go_at_call 45; refine (near_any _ _ _ _ h1 h2).mono ?_; rintro e w1 ⟨rfl, hq1⟩; obtain ⟨hc1, hf1, hz1⟩ := hq1.facts; try simp at hz1; try have hs01 : w.heap.size < w1.heap.size := by omega; try have hs11 : w.heap.size + 1 < w1.heap.size := by omega))
  all_goals (go_ret2; exact ⟨rfl, (by repeat (first | exact Q.refl _ | assumption | refine Q.drew ?_ | refine Q.drewN ?_ _ | refine Q.alloc ?_ _ | refine Q.set ?_ (by first | (simp; done) | (simp; omega) | omega) _ | refine Q.trans ?_ (by assumption)))⟩)
theorem do_14 (s : Bool) (b x y : Int) (w : World) (h1 : 1 ≤ b) (h2 : b ≤ 31) (x1 : -2147483648 ≤ x) (x2 : x ≤ 2147483647) (y1 : -2147483648 ≤ y) (y2 : y ≤ 2147483647)  :
    Calls Tryd.prog 24 #[.int .i64 14, .agg #[.bool s, .int .i64 b], .int .i64 x, .int .i64 y] w fun e w' => e = .returned (.tuple #[.int .i64 (nearS s b (x - y)), .int .i64 0]) ∧ Q w w' := by
  have i0 : ∀ w, (Instr.index 53 (.agg opsV) (.int .i64 14)).run Tryd.prog w = .ok (.agg #[.func (.func 41) #[] #[], .func (.func 45) #[] #[]]) w := fun _ => by kernel_rfl
  have i1 := neq_nil
  have i2 := neq_wrap
  have i3 := neq_near
  obtain ⟨c, hc⟩ : ∃ c : Bool, (y == 0) = c := ⟨_, rfl⟩
  cases c
  all_goals go_enter Tryd.func24, Tryd.ntmps24
  all_goals go_wp2_with (first | (go_at_call 30; refine (operations_any _).mono ?_; rintro e w1 ⟨rfl, hq1⟩; obtain ⟨hc1, hf1, hz1⟩ := hq1.facts; try simp at hz1; try have hs01 : w.heap.size < w1.heap.size := by omega; try have hs11 : w.heap.size + 1 < w1.heap.size := by omega) | (go_at_call 41; refine (op2_any _ _ _ x1 x2 y1 y2).mono ?_; rintro e w1 ⟨rfl, rfl⟩) | (go_at_call 45; refine (near_any _ _ _ _ h1 h2).mono ?_; rintro e w1 ⟨rfl, hq1⟩; obtain ⟨hc1, hf1, hz1⟩ := hq1.facts; try simp at hz1; try have hs01 : w.heap.size < w1.heap.size := by omega; try have hs11 : w.heap.size + 1 < w1.heap.size := by omega))
  all_goals (go_ret2; exact ⟨rfl, (by repeat (first | exact Q.refl _ | assumption | refine Q.drew ?_ | refine Q.drewN ?_ _ | refine Q.alloc ?_ _ | refine Q.set ?_ (by first | (simp; done) | (simp; omega) | omega) _ | refine Q.trans ?_ (by assumption)))⟩)
theorem do_15 (s : Bool) (b x y : Int) (w : World) (h1 : 1 ≤ b) (h2 : b ≤ 31) (x1 : -2147483648 ≤ x) (x2 : x ≤ 2147483647) (y1 : -2147483648 ≤ y) (y2 : y ≤ 2147483647)  :
    Calls Tryd.prog 24 #[.int .i64 15, .agg #[.bool s, .int .i64 b], .int .i64 x, .int .i64 y] w fun e w' => e = .returned (.tuple #[.int .i64 (wrapS s b (bits .and .i64 x y)), .int .i64 0]) ∧ Q w w' := by
  have i0 : ∀ w, (Instr.index 53 (.agg opsV) (.int .i64 15)).run Tryd.prog w = .ok (.agg #[.func (.func 46) #[] #[], .func (.func 31) #[] #[]]) w := fun _ => by kernel_rfl
  have i1 := neq_nil
  have i2 := neq_wrap
  have i3 := neq_near
  obtain ⟨c, hc⟩ : ∃ c : Bool, (y == 0) = c := ⟨_, rfl⟩
  cases c
  all_goals go_enter Tryd.func24, Tryd.ntmps24
  all_goals go_wp2_with (first | (go_at_call 30; refine (operations_any _).mono ?_; rintro e w1 ⟨rfl, hq1⟩; obtain ⟨hc1, hf1, hz1⟩ := hq1.facts; try simp at hz1; try have hs01 : w.heap.size < w1.heap.size := by omega; try have hs11 : w.heap.size + 1 < w1.heap.size := by omega) | (go_at_call 46; refine (op6_any _ _ _ x1 x2 y1 y2).mono ?_; rintro e w1 ⟨rfl, rfl⟩) | (go_at_call 31; refine (wrap_any _ _ _ _ h1 h2).mono ?_; rintro e w1 ⟨rfl, hq1⟩; obtain ⟨hc1, hf1, hz1⟩ := hq1.facts; try simp at hz1; try have hs01 : w.heap.size < w1.heap.size := by omega; try have hs11 : w.heap.size + 1 < w1.heap.size := by omega))
  all_goals (go_ret2; exact ⟨rfl, (by repeat (first | exact Q.refl _ | assumption | refine Q.drew ?_ | refine Q.drewN ?_ _ | refine Q.alloc ?_ _ | refine Q.set ?_ (by first | (simp; done) | (simp; omega) | omega) _ | refine Q.trans ?_ (by assumption)))⟩)
theorem do_16 (s : Bool) (b x y : Int) (w : World) (h1 : 1 ≤ b) (h2 : b ≤ 31) (x1 : -2147483648 ≤ x) (x2 : x ≤ 2147483647) (y1 : -2147483648 ≤ y) (y2 : y ≤ 2147483647)  :
    Calls Tryd.prog 24 #[.int .i64 16, .agg #[.bool s, .int .i64 b], .int .i64 x, .int .i64 y] w fun e w' => e = .returned (.tuple #[.int .i64 (wrapS s b (bits .or .i64 x y)), .int .i64 0]) ∧ Q w w' := by
  have i0 : ∀ w, (Instr.index 53 (.agg opsV) (.int .i64 16)).run Tryd.prog w = .ok (.agg #[.func (.func 47) #[] #[], .func (.func 31) #[] #[]]) w := fun _ => by kernel_rfl
  have i1 := neq_nil
  have i2 := neq_wrap
  have i3 := neq_near
  obtain ⟨c, hc⟩ : ∃ c : Bool, (y == 0) = c := ⟨_, rfl⟩
  cases c
  all_goals go_enter Tryd.func24, Tryd.ntmps24
  all_goals go_wp2_with (first | (go_at_call 30; refine (operations_any _).mono ?_; rintro e w1 ⟨rfl, hq1⟩; obtain ⟨hc1, hf1, hz1⟩ := hq1.facts; try simp at hz1; try have hs01 : w.heap.size < w1.heap.size := by omega; try have hs11 : w.heap.size + 1 < w1.heap.size := by omega) | (go_at_call 47; refine (op7_any _ _ _ x1 x2 y1 y2).mono ?_; rintro e w1 ⟨rfl, rfl⟩) | (go_at_call 31; refine (wrap_any _ _ _ _ h1 h2).mono ?_; rintro e w1 ⟨rfl, hq1⟩; obtain ⟨hc1, hf1, hz1⟩ := hq1.facts; try simp at hz1; try have hs01 : w.heap.size < w1.heap.size := by omega; try have hs11 : w.heap.size + 1 < w1.heap.size := by omega))
  all_goals (go_ret2; exact ⟨rfl, (by repeat (first | exact Q.refl _ | assumption | refine Q.drew ?_ | refine Q.drewN ?_ _ | refine Q.alloc ?_ _ | refine Q.set ?_ (by first | (simp; done) | (simp; omega) | omega) _ | refine Q.trans ?_ (by assumption)))⟩)
theorem do_17 (s : Bool) (b x y : Int) (w : World) (h1 : 1 ≤ b) (h2 : b ≤ 31) (x1 : -2147483648 ≤ x) (x2 : x ≤ 2147483647) (y1 : -2147483648 ≤ y) (y2 : y ≤ 2147483647)  :
    Calls Tryd.prog 24 #[.int .i64 17, .agg #[.bool s, .int .i64 b], .int .i64 x, .int .i64 y] w fun e w' => e = .returned (.tuple #[.int .i64 (wrapS s b (bits .xor .i64 x y)), .int .i64 0]) ∧ Q w w' := by
  have i0 : ∀ w, (Instr.index 53 (.agg opsV) (.int .i64 17)).run Tryd.prog w = .ok (.agg #[.func (.func 48) #[] #[], .func (.func 31) #[] #[]]) w := fun _ => by kernel_rfl
  have i1 := neq_nil
  have i2 := neq_wrap
  have i3 := neq_near
  obtain ⟨c, hc⟩ : ∃ c : Bool, (y == 0) = c := ⟨_, rfl⟩
  cases c
  all_goals go_enter Tryd.func24, Tryd.ntmps24
  all_goals go_wp2_with (first | (go_at_call 30; refine (operations_any _).mono ?_; rintro e w1 ⟨rfl, hq1⟩; obtain ⟨hc1, hf1, hz1⟩ := hq1.facts; try simp at hz1; try have hs01 : w.heap.size < w1.heap.size := by omega; try have hs11 : w.heap.size + 1 < w1.heap.size := by omega) | (go_at_call 48; refine (op8_any _ _ _ x1 x2 y1 y2).mono ?_; rintro e w1 ⟨rfl, rfl⟩) | (go_at_call 31; refine (wrap_any _ _ _ _ h1 h2).mono ?_; rintro e w1 ⟨rfl, hq1⟩; obtain ⟨hc1, hf1, hz1⟩ := hq1.facts; try simp at hz1; try have hs01 : w.heap.size < w1.heap.size := by omega; try have hs11 : w.heap.size + 1 < w1.heap.size := by omega))
  all_goals (go_ret2; exact ⟨rfl, (by repeat (first | exact Q.refl _ | assumption | refine Q.drew ?_ | refine Q.drewN ?_ _ | refine Q.alloc ?_ _ | refine Q.set ?_ (by first | (simp; done) | (simp; omega) | omega) _ | refine Q.trans ?_ (by assumption)))⟩)
end Go.Proofs.YtcjljmegppnlcaaDoor
