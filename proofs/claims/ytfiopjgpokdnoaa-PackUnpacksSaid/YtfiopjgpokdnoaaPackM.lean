/- The walk of the law PackUnpacks. Conditions: the slice reads as bytes. -/
import Derived.Test.YtfiopjgpokdnoaaPackK
namespace Go.Proofs.Ytfiopjgpokdnoaa
open Go.RowKit PP
set_option linter.unusedVariables false
theorem PackUnpacks_true (A : Option Addr) (n c : Nat) (bs : List Nat) (w : World) (h : Bytes w A n c bs) : Calls Try.prog 5 #[.slice A n c] w fun e w' => e = .returned (.bool true) ∧ Q w w' := by
  have hsm := unpackF_small h.small
  have hu1 := Unpack_any A n c bs
  have hu2 := rUnpack_any A n c bs
  have hi1 := Items_any A n c bs
  have hi2 := rItems_any A n c bs
  have H := hide h
  clear h
  by_cases h2 : 20000 < n
  · have h2' : 20000 < (n : Int) := by omega
    go_enter Try.func5, Try.ntmps5
    go_wp2_with fail
    refine (known_any _).mono ?_
    rintro e w1 ⟨rfl, hq⟩
    go_wp2_with fail
    go_ret
    exact ⟨rfl, hq⟩
  · have h2' : ¬ 20000 < (n : Int) := by omega
    obtain ⟨U, hU⟩ : ∃ U, unpackF bs = U := ⟨_, rfl⟩
    unfold UnpackPost at hu1 hu2
    rw [hU] at hsm
    simp only [hU] at hu1 hu2 hi1 hi2
    obtain ⟨ub, un, ue⟩ := U
    dsimp only at hu1 hu2 hi1 hi2 hsm
    have HS := hide hsm
    have U1 := hide hu1
    have U2 := hide hu2
    have I1 := hide hi1
    have I2 := hide hi2
    clear hsm hU hu1 hu2 hi1 hi2
    go_enter Try.func5, Try.ntmps5
    go_wp2_with fail
    refine (U1.out w H.out).mono ?_
    rintro e w1 ⟨v1, rfl, hown1, hq1⟩
    go_wp2_with fail
    refine (U2.out _ (H.out.up hq1)).mono ?_
    rintro e w2 ⟨v2, rfl, hown2, hq2⟩
    go_wp2_with fail
    refine (I1.out _ (H.out.up (hq1.trans hq2))).mono ?_
    rintro e w3 ⟨rfl, hq3⟩
    go_wp2_with fail
    refine (I2.out _ (H.out.up ((hq1.trans hq2).trans hq3))).mono ?_
    rintro e w4 ⟨rfl, hq4⟩
    obtain ⟨A1, c1, rfl, h11, h12, h13, hr1⟩ := own_form hown1
    obtain ⟨A2, c2, rfl, h21, h22, h23, hr2⟩ := own_form hown2
    have k1 := conv_rd Try.underlying22 Try.underlying5 Try.underlying9 (hr1.up ((hq2.trans hq3).trans hq4)) HS.out ub.length c1 rfl
    have k2 := conv_rd Try.underlying22 Try.underlying5 Try.underlying9 (hr2.up (hq3.trans hq4)) HS.out ub.length c2 rfl
    clear hown1 hown2 h13 hr1 h23 hr2 h11 h12 h21 h22
    go_wp2_with fail
    refine (known_any _).mono ?_
    rintro e w5 ⟨rfl, hq5⟩
    go_wp2_with fail
    go_ret
    exact ⟨rfl, (((hq1.trans hq2).trans hq3).trans hq4).trans hq5⟩
end Go.Proofs.Ytfiopjgpokdnoaa
