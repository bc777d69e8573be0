/- The walks of package num's small functions: validity, ends, fitting, wrapping, the nearest number. Conditions: as each theorem says. -/
import Derived.Test.YtcjljmegppnlcaaDoorRows
import Derived.Test.YtcjljmegppnlcaaDoorQ
import Derived.Test.YtcjljmegppnlcaaDoorNumPlain
import Derived.WalkLawsBesides
import Derived.WalkSpells
import Derived.Outline
import Derived.BigQuiet
import Derived.Deep.QuietTactic
import Derived.Deep.RegionWith
namespace Go.Proofs.YtcjljmegppnlcaaDoor
open Go.RowKit NP

theorem validate_ok (s : Bool) (b : Int) (w : World) (h1 : 1 ≤ b) (h2 : b ≤ 31) :
    Calls Tryd.prog 9 #[.agg #[.bool s, .int .i64 b]] w fun e w' => e = .returned (.int .i64 0) ∧ Q w w' := by
  go_enter Tryd.func9, Tryd.ntmps9
  go_wp2
  go_ret
  exact ⟨rfl, (Q.refl _).alloc _⟩

theorem validate_bad (s : Bool) (b : Int) (w : World) (h : ¬ (1 ≤ b ∧ b ≤ 31)) :
    Calls Tryd.prog 9 #[.agg #[.bool s, .int .i64 b]] w fun e w' => e = .returned (.int .i64 1) ∧ Q w w' := by
  by_cases h1 : b < 1
  · go_enter Tryd.func9, Tryd.ntmps9
    go_wp2
    go_ret
    exact ⟨rfl, (Q.refl _).alloc _⟩
  · have h' : 31 < b := by omega
    go_enter Tryd.func9, Tryd.ntmps9
    go_wp2
    go_ret
    exact ⟨rfl, (Q.refl _).alloc _⟩

theorem least_any (s : Bool) (b : Int) (w : World) (h1 : 1 ≤ b) (h2 : b ≤ 31) :
    Calls Tryd.prog 38 #[.agg #[.bool s, .int .i64 b]] w fun e w' => e = .returned (.int .i64 (lo s b)) ∧ Q w w' := by
  cases s
  · go_enter Tryd.func38, Tryd.ntmps38
    go_wp2
    go_ret
    exact ⟨rfl, (Q.refl _).alloc _⟩
  · go_enter Tryd.func38, Tryd.ntmps38
    go_wp2
    go_ret
    exact ⟨ret_int (sh3 b h1 h2), (Q.refl _).alloc _⟩

theorem greatest_any (s : Bool) (b : Int) (w : World) (h1 : 1 ≤ b) (h2 : b ≤ 31) :
    Calls Tryd.prog 39 #[.agg #[.bool s, .int .i64 b]] w fun e w' => e = .returned (.int .i64 (hi s b)) ∧ Q w w' := by
  obtain ⟨b1, b2, b3⟩ := p2_bd b h1 h2
  cases s
  · have e1 := sh1 b h1 h2
    have b4 : 1 ≤ p2 b := by omega
    clear b1
    go_enter Tryd.func39, Tryd.ntmps39
    go_wp2
    go_ret
    exact ⟨rfl, (Q.refl _).alloc _⟩
  · have e2 := sh2 b h1 h2
    have b4 : p2 (b - 1) ≤ 1073741824 := by omega
    clear b1
    go_enter Tryd.func39, Tryd.ntmps39
    go_wp2
    go_ret
    exact ⟨rfl, (Q.refl _).alloc _⟩

theorem fits_any (s : Bool) (b n : Int) (w : World) (h1 : 1 ≤ b) (h2 : b ≤ 31) :
    Calls Tryd.prog 29 #[.agg #[.bool s, .int .i64 b], .int .i64 n] w fun e w' => e = .returned (.bool (fitsB s b n)) ∧ Q w w' := by
  by_cases hl : lo s b ≤ n
  · go_enter Tryd.func29, Tryd.ntmps29
    go_wp2_with fail
    refine (least_any _ _ _ h1 h2).mono ?_
    rintro e w1 ⟨rfl, hq1⟩
    obtain ⟨hc1, hf1, hz1⟩ := hq1.facts
    go_wp2_with fail
    refine (greatest_any _ _ _ h1 h2).mono ?_
    rintro e w2 ⟨rfl, hq2⟩
    go_wp2_with fail
    go_ret
    exact ⟨by simp [fitsB, hl], (((Q.refl _).alloc _).trans hq1).trans hq2⟩
  · go_enter Tryd.func29, Tryd.ntmps29
    go_wp2_with fail
    refine (least_any _ _ _ h1 h2).mono ?_
    rintro e w1 ⟨rfl, hq1⟩
    obtain ⟨hc1, hf1, hz1⟩ := hq1.facts
    go_wp2_with fail
    go_ret
    exact ⟨by simp [fitsB]; omega, (((Q.refl _).alloc _).trans hq1)⟩

theorem wrap_any (s : Bool) (b n : Int) (w : World) (h1 : 1 ≤ b) (h2 : b ≤ 31) :
    Calls Tryd.prog 31 #[.agg #[.bool s, .int .i64 b], .int .i64 n] w fun e w' => e = .returned (.int .i64 (wrapS s b n)) ∧ Q w w' := by
  obtain ⟨b1, b2, b3⟩ := p2_bd b h1 h2
  have e1 := sh1 b h1 h2
  have b4 : 1 ≤ p2 b := by omega
  have em := and_mask b n h1 h2
  have b5 : 0 ≤ n % p2 b := Int.emod_nonneg _ (by omega)
  have b6 : n % p2 b < p2 b := Int.emod_lt_of_pos _ (by omega)
  clear b1
  have hfin : wrapS s b n = if hi s b < n % p2 b then n % p2 b - p2 b else n % p2 b := rfl
  have Hfin := hide hfin
  clear hfin
  by_cases hl : hi s b < n % p2 b
  · go_enter Tryd.func31, Tryd.ntmps31
    go_wp2_with fail
    refine (greatest_any _ _ _ h1 h2).mono ?_
    rintro e w1 ⟨rfl, hq1⟩
    obtain ⟨hc1, hf1, hz1⟩ := hq1.facts
    go_wp2_with fail
    go_ret
    exact ⟨by rw [Hfin.out, if_pos hl]; rfl, (((Q.refl _).alloc _).trans hq1)⟩
  · go_enter Tryd.func31, Tryd.ntmps31
    go_wp2_with fail
    refine (greatest_any _ _ _ h1 h2).mono ?_
    rintro e w1 ⟨rfl, hq1⟩
    obtain ⟨hc1, hf1, hz1⟩ := hq1.facts
    go_wp2_with fail
    go_ret
    exact ⟨by rw [Hfin.out, if_neg (by omega)]; rfl, (((Q.refl _).alloc _).trans hq1)⟩
end Go.Proofs.YtcjljmegppnlcaaDoor
