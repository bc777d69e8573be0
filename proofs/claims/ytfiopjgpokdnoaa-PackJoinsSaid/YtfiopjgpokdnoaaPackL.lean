/- The walks of the laws PackSums, PackDiffers, PackUnpacks. Conditions: the slice reads as bytes. -/
import Derived.Test.YtfiopjgpokdnoaaPackK
namespace Go.Proofs.Ytfiopjgpokdnoaa
open Go.RowKit PP
set_option linter.unusedVariables false
theorem Sum_big (A : Option Addr) (n c : Nat) (w : World) (hn : 4096 < n) : Calls Try.prog 12 #[.slice A n c] w fun e w' => e = .returned (.tuple #[.int .u32 0, .int .i64 3]) ∧ w = w' := by
  have hn' : 4096 < (n : Int) := by omega
  go_enter Try.func12, Try.ntmps12
  go_wp2_with fail
  go_ret2
  exact ⟨rfl, rfl⟩
theorem rSum_big (A : Option Addr) (n c : Nat) (w : World) (hn : 4096 < n) : Calls Try.prog 13 #[.slice A n c] w fun e w' => e = .returned (.tuple #[.int .u32 0, .int .i64 3]) ∧ w = w' := by
  go_enter Try.func13, Try.ntmps13
  go_wp2_with fail
  refine (fits_big _ _ _ _ hn).mono ?_
  rintro e w1 ⟨rfl, rfl⟩
  go_wp2_with fail
  go_ret2
  exact ⟨rfl, rfl⟩
theorem Cyclic_big (A : Option Addr) (n c : Nat) (w : World) (hn : 4096 < n) : Calls Try.prog 14 #[.slice A n c] w fun e w' => e = .returned (.tuple #[.int .u32 0, .int .i64 3]) ∧ w = w' := by
  have hn' : 4096 < (n : Int) := by omega
  go_enter Try.func14, Try.ntmps14
  go_wp2_with fail
  go_ret2
  exact ⟨rfl, rfl⟩
theorem rCyclic_big (A : Option Addr) (n c : Nat) (w : World) (hn : 4096 < n) : Calls Try.prog 15 #[.slice A n c] w fun e w' => e = .returned (.tuple #[.int .u32 0, .int .i64 3]) ∧ w = w' := by
  go_enter Try.func15, Try.ntmps15
  go_wp2_with fail
  refine (fits_big _ _ _ _ hn).mono ?_
  rintro e w1 ⟨rfl, rfl⟩
  go_wp2_with fail
  go_ret2
  exact ⟨rfl, rfl⟩
theorem Mix_big (A : Option Addr) (n c : Nat) (w : World) (hn : 4096 < n) : Calls Try.prog 16 #[.slice A n c] w fun e w' => e = .returned (.tuple #[.int .u32 0, .int .i64 3]) ∧ w = w' := by
  have hn' : 4096 < (n : Int) := by omega
  go_enter Try.func16, Try.ntmps16
  go_wp2_with fail
  go_ret2
  exact ⟨rfl, rfl⟩
theorem rMix_big (A : Option Addr) (n c : Nat) (w : World) (hn : 4096 < n) : Calls Try.prog 17 #[.slice A n c] w fun e w' => e = .returned (.tuple #[.int .u32 0, .int .i64 3]) ∧ w = w' := by
  go_enter Try.func17, Try.ntmps17
  go_wp2_with fail
  refine (fits_big _ _ _ _ hn).mono ?_
  rintro e w1 ⟨rfl, rfl⟩
  go_wp2_with fail
  go_ret2
  exact ⟨rfl, rfl⟩
theorem PackSums_true (A : Option Addr) (n c : Nat) (bs : List Nat) (w : World) (h : Bytes w A n c bs) : Calls Try.prog 3 #[.slice A n c] w fun e w' => e = .returned (.bool true) ∧ Q w w' := by
  have H := hide h
  clear h
  by_cases h2 : 20000 < n
  · have h2' : 20000 < (n : Int) := by omega
    go_enter Try.func3, Try.ntmps3
    go_wp2_with fail
    refine (known_any _).mono ?_
    rintro e w1 ⟨rfl, hq⟩
    go_wp2_with fail
    go_ret
    exact ⟨rfl, hq⟩
  · have h2' : ¬ 20000 < (n : Int) := by omega
    by_cases h4 : n ≤ 4096
    · go_enter Try.func3, Try.ntmps3
      go_wp2_with fail
      refine (Sum_any A n c bs _ H.out h4).mono ?_
      rintro e w1 ⟨rfl, rfl⟩
      go_wp2_with fail
      refine (rSum_any A n c bs _ H.out h4).mono ?_
      rintro e w1 ⟨rfl, rfl⟩
      go_wp2_with fail
      refine (Cyclic_any A n c bs _ H.out h4).mono ?_
      rintro e w1 ⟨rfl, rfl⟩
      go_wp2_with fail
      refine (rCyclic_any A n c bs _ H.out h4).mono ?_
      rintro e w1 ⟨rfl, rfl⟩
      go_wp2_with fail
      refine (Mix_any A n c bs _ H.out h4).mono ?_
      rintro e w1 ⟨rfl, rfl⟩
      go_wp2_with fail
      refine (rMix_any A n c bs _ H.out h4).mono ?_
      rintro e w1 ⟨rfl, rfl⟩
      go_wp2_with fail
      refine (known_any _).mono ?_
      rintro e w1 ⟨rfl, hq⟩
      go_wp2_with fail
      go_ret
      exact ⟨rfl, hq⟩
    · go_enter Try.func3, Try.ntmps3
      go_wp2_with fail
      refine (Sum_big A n c _ (by omega)).mono ?_
      rintro e w1 ⟨rfl, rfl⟩
      go_wp2_with fail
      refine (rSum_big A n c _ (by omega)).mono ?_
      rintro e w1 ⟨rfl, rfl⟩
      go_wp2_with fail
      refine (Cyclic_big A n c _ (by omega)).mono ?_
      rintro e w1 ⟨rfl, rfl⟩
      go_wp2_with fail
      refine (rCyclic_big A n c _ (by omega)).mono ?_
      rintro e w1 ⟨rfl, rfl⟩
      go_wp2_with fail
      refine (Mix_big A n c _ (by omega)).mono ?_
      rintro e w1 ⟨rfl, rfl⟩
      go_wp2_with fail
      refine (rMix_big A n c _ (by omega)).mono ?_
      rintro e w1 ⟨rfl, rfl⟩
      go_wp2_with fail
      refine (known_any _).mono ?_
      rintro e w1 ⟨rfl, hq⟩
      go_wp2_with fail
      go_ret
      exact ⟨rfl, hq⟩
end Go.Proofs.Ytfiopjgpokdnoaa
