/- The walk of the laws' known. Conditions: none. -/
import Derived.Test.YtfiopjgpokdnoaaPackY
import Derived.Lib.SlBytesConst
namespace Go.Proofs.Ytfiopjgpokdnoaa
open Go.RowKit PP
set_option linter.unusedVariables false
theorem known_any (w : World) : Calls Try.prog 11 #[] w fun e w' => e = .returned (.bool true) ∧ Q w w' := by
  have kc : ∀ (w : World) (C : Array Value) (n c k : Nat), k = w.heap.size → (convert 22 22 (.slice (some ⟨k, 0, none⟩) n c)).run Try.prog (w.alloc (.cells C 5)) = .ok (.slice (some ⟨k, 0, none⟩) n c) (w.alloc (.cells C 5 (C.size, C.size + 1))) :=
    fun w C n c k hk => by subst hk; exact Lib.run_convert_bytes_const (P := Try.prog) w 22 5 C n c Try.underlying22 Try.underlying5
  go_enter Try.func11, Try.ntmps11
  go_wp2_with fail
  refine (Sum_any _ _ _ [97, 98, 99] _ (bytes_lit _ _ _ _ _ _ _ (by simp) rfl rfl (by decide) (by decide)) (by decide)).mono ?_
  rintro e w1 ⟨rfl, rfl⟩
  rw [show ((sumF [97, 98, 99]).2 * 65536 + (sumF [97, 98, 99]).1 : Nat) = 38600999 from by decide +kernel]
  go_wp2_with fail
  refine (Cyclic_any _ _ _ [97, 98, 99] _ (bytes_lit _ _ _ _ _ _ _ (by simp) rfl rfl (by decide) (by decide)) (by decide)).mono ?_
  rintro e w1 ⟨rfl, rfl⟩
  rw [show (cycF [97, 98, 99] ^^^ 4294967295 : Nat) = 891568578 from by decide +kernel]
  go_wp2_with fail
  refine (Mix_any _ _ _ [97, 98, 99] _ (bytes_lit _ _ _ _ _ _ _ (by simp) rfl rfl (by decide) (by decide)) (by decide)).mono ?_
  rintro e w1 ⟨rfl, rfl⟩
  rw [show (mixF [97, 98, 99] : Nat) = 440920331 from by decide +kernel]
  go_wp2_with fail
  refine (Unpack_any _ _ _ [0, 65, 128, 1, 0] _ (bytes_lit _ _ _ _ _ _ _ (by simp) rfl rfl (by decide) (by decide))).mono ?_
  rintro e w1 ⟨v, rfl, hown, hq⟩
  rw [show unpackF [0, 65, 128, 1, 0] = ([65, 65, 65, 65], 2, 0) from by decide +kernel] at hown ⊢
  obtain ⟨A, c, rfl, h1, h2, h3, hrd⟩ := own_form hown
  have hcv := conv_rd Try.underlying22 Try.underlying5 Try.underlying9 hrd (by decide) 4 c rfl
  have e4 : strN [65, 65, 65, 65] = ⟨#[65, 65, 65, 65]⟩ := rfl
  rw [e4] at hcv
  clear h3 hrd hown kc e4
  go_wp2_with fail
  go_ret
  exact ⟨rfl, ((((Q.refl _).alloc _).alloc _).alloc _ |>.alloc _).trans hq⟩
end Go.Proofs.Ytfiopjgpokdnoaa
