/- The walk of the law NumTypes: it returns true. Conditions: none. -/
import Derived.Test.YtcjljmegppnlcaaNumY
namespace Go.Proofs.Ytcjljmegppnlcaa
open Go.RowKit NP
set_option linter.unusedVariables false
theorem wrapS_fit (s : Bool) (b n : Int) (h1 : 1 ≤ b) (h2 : b ≤ 31) (h : fitsB s b n = true) : wrapS s b n = n := by
  have hb := p2_bd b h1 h2
  rw [fits_iff] at h
  unfold wrapS
  by_cases h0 : 0 ≤ n
  · have : n % p2 b = n := Int.emod_eq_of_lt h0 (by have := lo_hi s b h1 h2; omega)
    rw [this, if_neg (by omega)]
  · have e : n % p2 b = n + p2 b := by
      rw [← Int.add_emod_right]; exact Int.emod_eq_of_lt (by have := lo_hi s b h1 h2; omega) (by omega)
    rw [e, if_pos (by cases s <;> simp [lo, hi] at h ⊢ <;> omega)]
    omega
theorem nearS_fit (s : Bool) (b n : Int) (h : fitsB s b n = true) : nearS s b n = n := by
  rw [fits_iff] at h
  unfold nearS
  rw [if_neg (by omega), if_neg (by omega)]
theorem NumTypes_bad (s : Bool) (b n : Int) (w : World) (hv : ¬ (1 ≤ b ∧ b ≤ 31)) :
    Calls Try.prog 8 #[.agg #[.bool s, .int .i64 b], .int .i64 n] w fun e w' => e = .returned (.bool true) ∧ Q w w' := by
  have cnumLeast := numLeast_any s b
  have crefLeast := refLeast_any s b
  have cnumGreatest := numGreatest_any s b
  have crefGreatest := refGreatest_any s b
  have cnumFits := numFits_any s b n
  have crefFits := refFits_any s b n
  have cnumWrap := numWrap_any s b n
  have crefWrap := refWrap_any s b n
  have cnumNear := numNear_any s b n
  have crefNear := refNear_any s b n
  rw [show typI s b (lo s b) = (0, 1) by simp only [typI, if_neg hv]] at cnumLeast crefLeast
  rw [show typI s b (hi s b) = (0, 1) by simp only [typI, if_neg hv]] at cnumGreatest crefGreatest
  rw [show typB b (fitsB s b n) = (false, 1) by simp only [typB, if_neg hv]] at cnumFits crefFits
  rw [show typI s b (wrapS s b n) = (0, 1) by simp only [typI, if_neg hv]] at cnumWrap crefWrap
  rw [show typI s b (nearS s b n) = (0, 1) by simp only [typI, if_neg hv]] at cnumNear crefNear
  have CnumLeast := hide cnumLeast
  have CrefLeast := hide crefLeast
  have CnumGreatest := hide cnumGreatest
  have CrefGreatest := hide crefGreatest
  have CnumFits := hide cnumFits
  have CrefFits := hide crefFits
  have CnumWrap := hide cnumWrap
  have CrefWrap := hide crefWrap
  have CnumNear := hide cnumNear
  have CrefNear := hide crefNear
  clear cnumLeast crefLeast cnumGreatest crefGreatest cnumFits crefFits cnumWrap crefWrap cnumNear crefNear
  go_enter Try.func8, Try.ntmps8
  go_wp2_with fail
  refine (CnumLeast.out _).mono ?_
  rintro e w1 ⟨rfl, hqw1⟩
  obtain ⟨hcw1, hfw1, hzw1⟩ := hqw1.facts
  try simp at hzw1
  try have hs0w1 : w.heap.size < w1.heap.size := by omega
  try have hs1w1 : w.heap.size + 1 < w1.heap.size := by omega
  go_wp2_with fail
  refine (CrefLeast.out _).mono ?_
  rintro e w2 ⟨rfl, hqw2⟩
  obtain ⟨hcw2, hfw2, hzw2⟩ := hqw2.facts
  try simp at hzw2
  try have hs0w2 : w.heap.size < w2.heap.size := by omega
  try have hs1w2 : w.heap.size + 1 < w2.heap.size := by omega
  go_wp2_with fail
  refine (CnumGreatest.out _).mono ?_
  rintro e w3 ⟨rfl, hqw3⟩
  obtain ⟨hcw3, hfw3, hzw3⟩ := hqw3.facts
  try simp at hzw3
  try have hs0w3 : w.heap.size < w3.heap.size := by omega
  try have hs1w3 : w.heap.size + 1 < w3.heap.size := by omega
  go_wp2_with fail
  refine (CrefGreatest.out _).mono ?_
  rintro e w4 ⟨rfl, hqw4⟩
  obtain ⟨hcw4, hfw4, hzw4⟩ := hqw4.facts
  try simp at hzw4
  try have hs0w4 : w.heap.size < w4.heap.size := by omega
  try have hs1w4 : w.heap.size + 1 < w4.heap.size := by omega
  go_wp2_with fail
  refine (CnumFits.out _).mono ?_
  rintro e w5 ⟨rfl, hqw5⟩
  obtain ⟨hcw5, hfw5, hzw5⟩ := hqw5.facts
  try simp at hzw5
  try have hs0w5 : w.heap.size < w5.heap.size := by omega
  try have hs1w5 : w.heap.size + 1 < w5.heap.size := by omega
  go_wp2_with fail
  refine (CrefFits.out _).mono ?_
  rintro e w6 ⟨rfl, hqw6⟩
  obtain ⟨hcw6, hfw6, hzw6⟩ := hqw6.facts
  try simp at hzw6
  try have hs0w6 : w.heap.size < w6.heap.size := by omega
  try have hs1w6 : w.heap.size + 1 < w6.heap.size := by omega
  go_wp2_with fail
  have hxc := ext_cell
  refine wp_region_ext (by kernel_rfl) (by kernel_rfl) ?_
  repeat (go_big_quiet_step ((first | (go_at_call 24; exact ext_call (validate_bad _ _ _ hv)) | (go_at_call 25; exact ext_call (rValidate_bad _ _ _ hv)))))
  clear hxc
  refine wpQuiet_nil ?_
  intro w7 hww7
  have hqw7 := q_of_ext hww7
  clear hww7
  obtain ⟨hcw7, hfw7, hzw7⟩ := hqw7.facts
  try simp at hzw7
  try have hs0w7 : w.heap.size < w7.heap.size := by omega
  try have hs1w7 : w.heap.size + 1 < w7.heap.size := by omega
  go_wp2_with fail
  refine (CnumWrap.out _).mono ?_
  rintro e w8 ⟨rfl, hqw8⟩
  obtain ⟨hcw8, hfw8, hzw8⟩ := hqw8.facts
  try simp at hzw8
  try have hs0w8 : w.heap.size < w8.heap.size := by omega
  try have hs1w8 : w.heap.size + 1 < w8.heap.size := by omega
  go_wp2_with fail
  refine (CrefWrap.out _).mono ?_
  rintro e w9 ⟨rfl, hqw9⟩
  obtain ⟨hcw9, hfw9, hzw9⟩ := hqw9.facts
  try simp at hzw9
  try have hs0w9 : w.heap.size < w9.heap.size := by omega
  try have hs1w9 : w.heap.size + 1 < w9.heap.size := by omega
  go_wp2_with fail
  refine (CnumNear.out _).mono ?_
  rintro e w10 ⟨rfl, hqw10⟩
  obtain ⟨hcw10, hfw10, hzw10⟩ := hqw10.facts
  try simp at hzw10
  try have hs0w10 : w.heap.size < w10.heap.size := by omega
  try have hs1w10 : w.heap.size + 1 < w10.heap.size := by omega
  go_wp2_with fail
  refine (CrefNear.out _).mono ?_
  rintro e w11 ⟨rfl, hqw11⟩
  obtain ⟨hcw11, hfw11, hzw11⟩ := hqw11.facts
  try simp at hzw11
  try have hs0w11 : w.heap.size < w11.heap.size := by omega
  try have hs1w11 : w.heap.size + 1 < w11.heap.size := by omega
  go_wp2_with fail
  refine (known_any _).mono ?_
  rintro e w12 ⟨rfl, hqw12⟩
  obtain ⟨hcw12, hfw12, hzw12⟩ := hqw12.facts
  try simp at hzw12
  try have hs0w12 : w.heap.size < w12.heap.size := by omega
  try have hs1w12 : w.heap.size + 1 < w12.heap.size := by omega
  go_wp2_with fail
  go_ret
  exact ⟨rfl, (by repeat (first | exact Q.refl _ | assumption | refine Q.drew ?_ | refine Q.drewN ?_ _ | refine Q.alloc ?_ _ | refine Q.set ?_ (by first | (simp; done) | (simp; omega) | omega) _ | refine Q.trans ?_ (by assumption)))⟩
theorem NumTypes_fit (s : Bool) (b n : Int) (w : World) (h1 : 1 ≤ b) (h2 : b ≤ 31) (hf : fitsB s b n = true) :
    Calls Try.prog 8 #[.agg #[.bool s, .int .i64 b], .int .i64 n] w fun e w' => e = .returned (.bool true) ∧ Q w w' := by
  have cnumLeast := numLeast_any s b
  have crefLeast := refLeast_any s b
  have cnumGreatest := numGreatest_any s b
  have crefGreatest := refGreatest_any s b
  have cnumFits := numFits_any s b n
  have crefFits := refFits_any s b n
  have cnumWrap := numWrap_any s b n
  have crefWrap := refWrap_any s b n
  have cnumNear := numNear_any s b n
  have crefNear := refNear_any s b n
  rw [show typI s b (lo s b) = (lo s b, 0) by simp only [typI, if_pos (And.intro h1 h2)]] at cnumLeast crefLeast
  rw [show typI s b (hi s b) = (hi s b, 0) by simp only [typI, if_pos (And.intro h1 h2)]] at cnumGreatest crefGreatest
  rw [show typB b (fitsB s b n) = (true, 0) by simp only [typB, if_pos (And.intro h1 h2), hf]] at cnumFits crefFits
  rw [show typI s b (wrapS s b n) = (n, 0) by simp only [typI, if_pos (And.intro h1 h2), wrapS_fit s b n h1 h2 hf]] at cnumWrap crefWrap
  rw [show typI s b (nearS s b n) = (n, 0) by simp only [typI, if_pos (And.intro h1 h2), nearS_fit s b n hf]] at cnumNear crefNear
  have CnumLeast := hide cnumLeast
  have CrefLeast := hide crefLeast
  have CnumGreatest := hide cnumGreatest
  have CrefGreatest := hide crefGreatest
  have CnumFits := hide cnumFits
  have CrefFits := hide crefFits
  have CnumWrap := hide cnumWrap
  have CrefWrap := hide crefWrap
  have CnumNear := hide cnumNear
  have CrefNear := hide crefNear
  clear cnumLeast crefLeast cnumGreatest crefGreatest cnumFits crefFits cnumWrap crefWrap cnumNear crefNear
  go_enter Try.func8, Try.ntmps8
  go_wp2_with fail
  refine (CnumLeast.out _).mono ?_
  rintro e w1 ⟨rfl, hqw1⟩
  obtain ⟨hcw1, hfw1, hzw1⟩ := hqw1.facts
  try simp at hzw1
  try have hs0w1 : w.heap.size < w1.heap.size := by omega
  try have hs1w1 : w.heap.size + 1 < w1.heap.size := by omega
  go_wp2_with fail
  refine (CrefLeast.out _).mono ?_
  rintro e w2 ⟨rfl, hqw2⟩
  obtain ⟨hcw2, hfw2, hzw2⟩ := hqw2.facts
  try simp at hzw2
  try have hs0w2 : w.heap.size < w2.heap.size := by omega
  try have hs1w2 : w.heap.size + 1 < w2.heap.size := by omega
  go_wp2_with fail
  refine (CnumGreatest.out _).mono ?_
  rintro e w3 ⟨rfl, hqw3⟩
  obtain ⟨hcw3, hfw3, hzw3⟩ := hqw3.facts
  try simp at hzw3
  try have hs0w3 : w.heap.size < w3.heap.size := by omega
  try have hs1w3 : w.heap.size + 1 < w3.heap.size := by omega
  go_wp2_with fail
  refine (CrefGreatest.out _).mono ?_
  rintro e w4 ⟨rfl, hqw4⟩
  obtain ⟨hcw4, hfw4, hzw4⟩ := hqw4.facts
  try simp at hzw4
  try have hs0w4 : w.heap.size < w4.heap.size := by omega
  try have hs1w4 : w.heap.size + 1 < w4.heap.size := by omega
  go_wp2_with fail
  refine (CnumFits.out _).mono ?_
  rintro e w5 ⟨rfl, hqw5⟩
  obtain ⟨hcw5, hfw5, hzw5⟩ := hqw5.facts
  try simp at hzw5
  try have hs0w5 : w.heap.size < w5.heap.size := by omega
  try have hs1w5 : w.heap.size + 1 < w5.heap.size := by omega
  go_wp2_with fail
  refine (CrefFits.out _).mono ?_
  rintro e w6 ⟨rfl, hqw6⟩
  obtain ⟨hcw6, hfw6, hzw6⟩ := hqw6.facts
  try simp at hzw6
  try have hs0w6 : w.heap.size < w6.heap.size := by omega
  try have hs1w6 : w.heap.size + 1 < w6.heap.size := by omega
  go_wp2_with fail
  have hxc := ext_cell
  refine wp_region_ext (by kernel_rfl) (by kernel_rfl) ?_
  repeat (go_big_quiet_step ((first | (go_at_call 24; exact ext_call (validate_ok _ _ _ h1 h2)) | (go_at_call 25; exact ext_call (rValidate_ok _ _ _ h1 h2)))))
  clear hxc
  refine wpQuiet_nil ?_
  intro w7 hww7
  have hqw7 := q_of_ext hww7
  clear hww7
  obtain ⟨hcw7, hfw7, hzw7⟩ := hqw7.facts
  try simp at hzw7
  try have hs0w7 : w.heap.size < w7.heap.size := by omega
  try have hs1w7 : w.heap.size + 1 < w7.heap.size := by omega
  go_wp2_with fail
  refine (CnumWrap.out _).mono ?_
  rintro e w8 ⟨rfl, hqw8⟩
  obtain ⟨hcw8, hfw8, hzw8⟩ := hqw8.facts
  try simp at hzw8
  try have hs0w8 : w.heap.size < w8.heap.size := by omega
  try have hs1w8 : w.heap.size + 1 < w8.heap.size := by omega
  go_wp2_with fail
  refine (CrefWrap.out _).mono ?_
  rintro e w9 ⟨rfl, hqw9⟩
  obtain ⟨hcw9, hfw9, hzw9⟩ := hqw9.facts
  try simp at hzw9
  try have hs0w9 : w.heap.size < w9.heap.size := by omega
  try have hs1w9 : w.heap.size + 1 < w9.heap.size := by omega
  go_wp2_with fail
  refine (CnumNear.out _).mono ?_
  rintro e w10 ⟨rfl, hqw10⟩
  obtain ⟨hcw10, hfw10, hzw10⟩ := hqw10.facts
  try simp at hzw10
  try have hs0w10 : w.heap.size < w10.heap.size := by omega
  try have hs1w10 : w.heap.size + 1 < w10.heap.size := by omega
  go_wp2_with fail
  refine (CrefNear.out _).mono ?_
  rintro e w11 ⟨rfl, hqw11⟩
  obtain ⟨hcw11, hfw11, hzw11⟩ := hqw11.facts
  try simp at hzw11
  try have hs0w11 : w.heap.size < w11.heap.size := by omega
  try have hs1w11 : w.heap.size + 1 < w11.heap.size := by omega
  go_wp2_with fail
  refine (known_any _).mono ?_
  rintro e w12 ⟨rfl, hqw12⟩
  obtain ⟨hcw12, hfw12, hzw12⟩ := hqw12.facts
  try simp at hzw12
  try have hs0w12 : w.heap.size < w12.heap.size := by omega
  try have hs1w12 : w.heap.size + 1 < w12.heap.size := by omega
  go_wp2_with fail
  go_ret
  exact ⟨rfl, (by repeat (first | exact Q.refl _ | assumption | refine Q.drew ?_ | refine Q.drewN ?_ _ | refine Q.alloc ?_ _ | refine Q.set ?_ (by first | (simp; done) | (simp; omega) | omega) _ | refine Q.trans ?_ (by assumption)))⟩
theorem NumTypes_not (s : Bool) (b n : Int) (w : World) (h1 : 1 ≤ b) (h2 : b ≤ 31) (hf : fitsB s b n = false) :
    Calls Try.prog 8 #[.agg #[.bool s, .int .i64 b], .int .i64 n] w fun e w' => e = .returned (.bool true) ∧ Q w w' := by
  have cnumLeast := numLeast_any s b
  have crefLeast := refLeast_any s b
  have cnumGreatest := numGreatest_any s b
  have crefGreatest := refGreatest_any s b
  have cnumFits := numFits_any s b n
  have crefFits := refFits_any s b n
  have cnumWrap := numWrap_any s b n
  have crefWrap := refWrap_any s b n
  have cnumNear := numNear_any s b n
  have crefNear := refNear_any s b n
  rw [show typI s b (lo s b) = (lo s b, 0) by simp only [typI, if_pos (And.intro h1 h2)]] at cnumLeast crefLeast
  rw [show typI s b (hi s b) = (hi s b, 0) by simp only [typI, if_pos (And.intro h1 h2)]] at cnumGreatest crefGreatest
  rw [show typB b (fitsB s b n) = (false, 0) by simp only [typB, if_pos (And.intro h1 h2), hf]] at cnumFits crefFits
  rw [show typI s b (wrapS s b n) = (wrapS s b n, 0) by simp only [typI, if_pos (And.intro h1 h2)]] at cnumWrap crefWrap
  rw [show typI s b (nearS s b n) = (nearS s b n, 0) by simp only [typI, if_pos (And.intro h1 h2)]] at cnumNear crefNear
  have CnumLeast := hide cnumLeast
  have CrefLeast := hide crefLeast
  have CnumGreatest := hide cnumGreatest
  have CrefGreatest := hide crefGreatest
  have CnumFits := hide cnumFits
  have CrefFits := hide crefFits
  have CnumWrap := hide cnumWrap
  have CrefWrap := hide crefWrap
  have CnumNear := hide cnumNear
  have CrefNear := hide crefNear
  clear cnumLeast crefLeast cnumGreatest crefGreatest cnumFits crefFits cnumWrap crefWrap cnumNear crefNear
  go_enter Try.func8, Try.ntmps8
  go_wp2_with fail
  refine (CnumLeast.out _).mono ?_
  rintro e w1 ⟨rfl, hqw1⟩
  obtain ⟨hcw1, hfw1, hzw1⟩ := hqw1.facts
  try simp at hzw1
  try have hs0w1 : w.heap.size < w1.heap.size := by omega
  try have hs1w1 : w.heap.size + 1 < w1.heap.size := by omega
  go_wp2_with fail
  refine (CrefLeast.out _).mono ?_
  rintro e w2 ⟨rfl, hqw2⟩
  obtain ⟨hcw2, hfw2, hzw2⟩ := hqw2.facts
  try simp at hzw2
  try have hs0w2 : w.heap.size < w2.heap.size := by omega
  try have hs1w2 : w.heap.size + 1 < w2.heap.size := by omega
  go_wp2_with fail
  refine (CnumGreatest.out _).mono ?_
  rintro e w3 ⟨rfl, hqw3⟩
  obtain ⟨hcw3, hfw3, hzw3⟩ := hqw3.facts
  try simp at hzw3
  try have hs0w3 : w.heap.size < w3.heap.size := by omega
  try have hs1w3 : w.heap.size + 1 < w3.heap.size := by omega
  go_wp2_with fail
  refine (CrefGreatest.out _).mono ?_
  rintro e w4 ⟨rfl, hqw4⟩
  obtain ⟨hcw4, hfw4, hzw4⟩ := hqw4.facts
  try simp at hzw4
  try have hs0w4 : w.heap.size < w4.heap.size := by omega
  try have hs1w4 : w.heap.size + 1 < w4.heap.size := by omega
  go_wp2_with fail
  refine (CnumFits.out _).mono ?_
  rintro e w5 ⟨rfl, hqw5⟩
  obtain ⟨hcw5, hfw5, hzw5⟩ := hqw5.facts
  try simp at hzw5
  try have hs0w5 : w.heap.size < w5.heap.size := by omega
  try have hs1w5 : w.heap.size + 1 < w5.heap.size := by omega
  go_wp2_with fail
  refine (CrefFits.out _).mono ?_
  rintro e w6 ⟨rfl, hqw6⟩
  obtain ⟨hcw6, hfw6, hzw6⟩ := hqw6.facts
  try simp at hzw6
  try have hs0w6 : w.heap.size < w6.heap.size := by omega
  try have hs1w6 : w.heap.size + 1 < w6.heap.size := by omega
  go_wp2_with fail
  have hxc := ext_cell
  refine wp_region_ext (by kernel_rfl) (by kernel_rfl) ?_
  repeat (go_big_quiet_step ((first | (go_at_call 24; exact ext_call (validate_ok _ _ _ h1 h2)) | (go_at_call 25; exact ext_call (rValidate_ok _ _ _ h1 h2)))))
  clear hxc
  refine wpQuiet_nil ?_
  intro w7 hww7
  have hqw7 := q_of_ext hww7
  clear hww7
  obtain ⟨hcw7, hfw7, hzw7⟩ := hqw7.facts
  try simp at hzw7
  try have hs0w7 : w.heap.size < w7.heap.size := by omega
  try have hs1w7 : w.heap.size + 1 < w7.heap.size := by omega
  go_wp2_with fail
  refine (CnumWrap.out _).mono ?_
  rintro e w8 ⟨rfl, hqw8⟩
  obtain ⟨hcw8, hfw8, hzw8⟩ := hqw8.facts
  try simp at hzw8
  try have hs0w8 : w.heap.size < w8.heap.size := by omega
  try have hs1w8 : w.heap.size + 1 < w8.heap.size := by omega
  go_wp2_with fail
  refine (CrefWrap.out _).mono ?_
  rintro e w9 ⟨rfl, hqw9⟩
  obtain ⟨hcw9, hfw9, hzw9⟩ := hqw9.facts
  try simp at hzw9
  try have hs0w9 : w.heap.size < w9.heap.size := by omega
  try have hs1w9 : w.heap.size + 1 < w9.heap.size := by omega
  go_wp2_with fail
  refine (CnumNear.out _).mono ?_
  rintro e w10 ⟨rfl, hqw10⟩
  obtain ⟨hcw10, hfw10, hzw10⟩ := hqw10.facts
  try simp at hzw10
  try have hs0w10 : w.heap.size < w10.heap.size := by omega
  try have hs1w10 : w.heap.size + 1 < w10.heap.size := by omega
  go_wp2_with fail
  refine (CrefNear.out _).mono ?_
  rintro e w11 ⟨rfl, hqw11⟩
  obtain ⟨hcw11, hfw11, hzw11⟩ := hqw11.facts
  try simp at hzw11
  try have hs0w11 : w.heap.size < w11.heap.size := by omega
  try have hs1w11 : w.heap.size + 1 < w11.heap.size := by omega
  go_wp2_with fail
  refine (known_any _).mono ?_
  rintro e w12 ⟨rfl, hqw12⟩
  obtain ⟨hcw12, hfw12, hzw12⟩ := hqw12.facts
  try simp at hzw12
  try have hs0w12 : w.heap.size < w12.heap.size := by omega
  try have hs1w12 : w.heap.size + 1 < w12.heap.size := by omega
  go_wp2_with fail
  go_ret
  exact ⟨rfl, (by repeat (first | exact Q.refl _ | assumption | refine Q.drew ?_ | refine Q.drewN ?_ _ | refine Q.alloc ?_ _ | refine Q.set ?_ (by first | (simp; done) | (simp; omega) | omega) _ | refine Q.trans ?_ (by assumption)))⟩
theorem NumTypes_walk (s : Bool) (b n : Int) (w : World) :
    Calls Try.prog 8 #[.agg #[.bool s, .int .i64 b], .int .i64 n] w fun e w' => e = .returned (.bool true) ∧ Q w w' := by
  by_cases hv : 1 ≤ b ∧ b ≤ 31
  · cases hf : fitsB s b n
    · exact NumTypes_not s b n w hv.1 hv.2 hf
    · exact NumTypes_fit s b n w hv.1 hv.2 hf
  · exact NumTypes_bad s b n w hv
end Go.Proofs.Ytcjljmegppnlcaa
