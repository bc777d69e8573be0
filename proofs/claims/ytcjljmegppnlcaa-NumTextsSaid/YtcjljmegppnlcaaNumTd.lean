/- The walks of Text, of the program and of the reference. Conditions: none. -/
import Derived.Test.YtcjljmegppnlcaaNumTc
import Derived.Test.YtcjljmegppnlcaaNumR
namespace Go.Proofs.Ytcjljmegppnlcaa
open Go.RowKit NP
set_option linter.unusedVariables false
theorem isBase_ok (b : Int) (h1 : 2 ≤ b) (h2 : b ≤ 16) (w : World) : Calls Try.prog 54 #[.int .i64 b] w fun e w' => e = .returned (.bool true) ∧ Q w w' := by
  have d1 : decide ((2 : Int) ≤ b) = true := by simp; omega
  have d2 : decide (b ≤ 16) = true := by simp; omega
  go_enter Try.func54, Try.ntmps54
  go_wp2_with fail
  go_ret
  exact ⟨rfl, Q.refl _⟩
theorem isBase_bad (b : Int) (h : ¬ (2 ≤ b ∧ b ≤ 16)) (w : World) : Calls Try.prog 54 #[.int .i64 b] w fun e w' => e = .returned (.bool false) ∧ Q w w' := by
  by_cases h1 : 2 ≤ b
  · have d1 : decide ((2 : Int) ≤ b) = true := by simp; omega
    have d2 : decide (b ≤ 16) = false := by simp; omega
    clear h
    go_enter Try.func54, Try.ntmps54
    go_wp2_with fail
    go_ret
    exact ⟨rfl, Q.refl _⟩
  · have d1 : decide ((2 : Int) ≤ b) = false := by simp; omega
    clear h
    go_enter Try.func54, Try.ntmps54
    go_wp2_with fail
    go_ret
    exact ⟨rfl, Q.refl _⟩
def okT (n b : Int) : Prop := 2 ≤ b ∧ b ≤ 16 ∧ -1099511627776 ≤ n ∧ n ≤ 1099511627776
instance (n b : Int) : Decidable (okT n b) := by unfold okT; infer_instance
theorem Text_bad (n b : Int) (h : ¬ okT n b) (w : World) : Calls Try.prog 30 #[.int .i64 n, .int .i64 b] w fun e w' => e = .returned (.tuple #[.string ByteArray.empty, .int .i64 1]) ∧ Q w w' := by
  unfold okT at h
  by_cases hb : 2 ≤ b ∧ b ≤ 16
  · have C := hide (isBase_ok b hb.1 hb.2 w)
    by_cases h1 : n < -1099511627776
    · have d1 : decide (n < -1099511627776) = true := by simp; omega
      clear h hb
      go_enter Try.func30, Try.ntmps30
      go_wp2_with fail
      refine C.out.mono ?_
      rintro e w1 ⟨rfl, hq⟩
      go_wp2_with fail
      go_ret2
      exact ⟨rfl, hq⟩
    · have d1 : decide (n < -1099511627776) = false := by simp; omega
      have d2 : decide (1099511627776 < n) = true := by simp; omega
      clear h hb
      go_enter Try.func30, Try.ntmps30
      go_wp2_with fail
      refine C.out.mono ?_
      rintro e w1 ⟨rfl, hq⟩
      go_wp2_with fail
      go_ret2
      exact ⟨rfl, hq⟩
  · have C := hide (isBase_bad b hb w)
    clear h hb
    go_enter Try.func30, Try.ntmps30
    go_wp2_with fail
    refine C.out.mono ?_
    rintro e w1 ⟨rfl, hq⟩
    go_wp2_with fail
    go_ret2
    exact ⟨rfl, hq⟩
theorem Text_ok (n : Int) (b : Nat) (h : okT n b) (w : World) : Calls Try.prog 30 #[.int .i64 n, .int .i64 (b : Nat)] w fun e w' => e = .returned (.tuple #[.string (strB (txtI b n)), .int .i64 0]) ∧ Q w w' := by
  obtain ⟨h1, h2, h3, h4⟩ := h
  have C := hide (isBase_ok b h1 h2 w)
  have C2 := hide (fun w => written_any b n (by omega) (by omega) h3 h4 w)
  have d1 : decide (n < -1099511627776) = false := by simp; omega
  have d2 : decide (1099511627776 < n) = false := by simp; omega
  clear h1 h2 h3 h4
  go_enter Try.func30, Try.ntmps30
  go_wp2_with fail
  refine C.out.mono ?_
  rintro e w1 ⟨rfl, hq⟩
  go_wp2_with fail
  refine (C2.out _).mono ?_
  rintro e w2 ⟨rfl, hq2⟩
  go_wp2_with fail
  go_ret2
  exact ⟨rfl, hq.trans hq2⟩
theorem rText_bad (n b : Int) (h : ¬ okT n b) (w : World) : Calls Try.prog 31 #[.int .i64 n, .int .i64 b] w fun e w' => e = .returned (.tuple #[.string ByteArray.empty, .int .i64 1]) ∧ Q w w' := by
  unfold okT at h
  by_cases hb : 2 ≤ b ∧ b ≤ 16
  · have C := hide (show Calls Try.prog 49 #[.int .i64 b, .int .i64 2, .int .i64 16] w fun e w' => e = .returned (.bool true) ∧ w = w' from by have h := Within_any b 2 16 w; rw [show withinB b 2 16 = true by unfold withinB; simp; omega] at h; exact h)
    have C2 := hide (show ∀ w, Calls Try.prog 49 #[.int .i64 n, .int .i64 (-1099511627776), .int .i64 1099511627776] w fun e w' => e = .returned (.bool false) ∧ w = w' from fun w => by have h := Within_any n (-1099511627776) 1099511627776 w; rw [show withinB n (-1099511627776) 1099511627776 = false by unfold withinB; simp; omega] at h; exact h)
    clear h hb
    go_enter Try.func31, Try.ntmps31
    go_wp2_with fail
    refine C.out.mono ?_
    rintro e w1 ⟨rfl, rfl⟩
    go_wp2_with fail
    refine (C2.out _).mono ?_
    rintro e w1 ⟨rfl, rfl⟩
    go_wp2_with fail
    go_ret2
    exact ⟨rfl, Q.refl _⟩
  · have C := hide (show Calls Try.prog 49 #[.int .i64 b, .int .i64 2, .int .i64 16] w fun e w' => e = .returned (.bool false) ∧ w = w' from by have h2 := Within_any b 2 16 w; rw [show withinB b 2 16 = false by unfold withinB; simp; omega] at h2; exact h2)
    clear h hb
    go_enter Try.func31, Try.ntmps31
    go_wp2_with fail
    refine C.out.mono ?_
    rintro e w1 ⟨rfl, rfl⟩
    go_wp2_with fail
    go_ret2
    exact ⟨rfl, Q.refl _⟩
theorem rText_ok (n : Int) (b : Nat) (h : okT n b) (w : World) : Calls Try.prog 31 #[.int .i64 n, .int .i64 (b : Nat)] w fun e w' => e = .returned (.tuple #[.string (strB (txtI b n)), .int .i64 0]) ∧ Q w w' := by
  obtain ⟨h1, h2, h3, h4⟩ := h
  have C := hide (show Calls Try.prog 49 #[.int .i64 (b : Nat), .int .i64 2, .int .i64 16] w fun e w' => e = .returned (.bool true) ∧ w = w' from by have h := Within_any b 2 16 w; rw [show withinB b 2 16 = true by unfold withinB; simp; omega] at h; exact h)
  have C2 := hide (show ∀ w, Calls Try.prog 49 #[.int .i64 n, .int .i64 (-1099511627776), .int .i64 1099511627776] w fun e w' => e = .returned (.bool true) ∧ w = w' from fun w => by have h := Within_any n (-1099511627776) 1099511627776 w; rw [show withinB n (-1099511627776) 1099511627776 = true by unfold withinB; simp; omega] at h; exact h)
  have C3 := hide (fun w => based_any b n (by omega) (by omega) h3 h4 w)
  clear h1 h2 h3 h4
  go_enter Try.func31, Try.ntmps31
  go_wp2_with fail
  refine C.out.mono ?_
  rintro e w1 ⟨rfl, rfl⟩
  go_wp2_with fail
  refine (C2.out _).mono ?_
  rintro e w1 ⟨rfl, rfl⟩
  go_wp2_with fail
  refine (C3.out _).mono ?_
  rintro e w2 ⟨rfl, hq2⟩
  go_wp2_with fail
  go_ret2
  exact ⟨rfl, hq2⟩
end Go.Proofs.Ytcjljmegppnlcaa
