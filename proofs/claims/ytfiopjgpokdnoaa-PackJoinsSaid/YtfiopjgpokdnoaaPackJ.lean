/- The walks of Join, of the program and of the reference, and of the law PackJoins. Conditions: as each theorem says. -/
import Derived.Test.YtfiopjgpokdnoaaPackD
namespace Go.Proofs.Ytfiopjgpokdnoaa
open Go.RowKit PP
set_option linter.unusedVariables false
def JOk (a b : Nat) : Prop := a % 65536 < 65521 ∧ a / 65536 < 65521 ∧ b % 65536 < 65521 ∧ b / 65536 < 65521
def joinV (a b n : Nat) : Nat := (a / 65536 + b / 65536 + n * (a % 65536 + 65520)) % 65521 * 65536 + (a % 65536 + b % 65536 + 65520) % 65521
theorem joinV_lt (a b n : Nat) : joinV a b n < 4294967296 := by unfold joinV; omega
theorem u32_and_low (a : Nat) (h : a < 4294967296) : bits .and .u32 (a : Int) 65535 = ((a % 65536 : Nat) : Int) := by
  show IntKind.u32.wrap ((BitVec.ofInt 32 (a : Int) &&& BitVec.ofInt 32 ((65535 : Nat) : Int)).toNat : Int) = _
  rw [BitVec.toNat_and, BitVec.ofInt_natCast, BitVec.ofInt_natCast, BitVec.toNat_ofNat, BitVec.toNat_ofNat, Nat.mod_eq_of_lt (by simpa using h)]
  rw [show 65535 % 2 ^ 32 = 2 ^ 16 - 1 by rfl, Nat.and_two_pow_sub_one_eq_mod, IntKind.wrap_u32']
  omega
theorem parts_yes (a : Nat) (w : World) (h : a < 4294967296) (h1 : a % 65536 < 65521) (h2 : a / 65536 < 65521) :
    Calls Try.prog 46 #[.int .u32 (a : Nat)] w fun e w' => e = .returned (.tuple #[.int .i64 (a % 65536 : Nat), .int .i64 (a / 65536 : Nat), .bool true]) ∧ w = w' := by
  have e := u32_and_low a h
  have e2 : (a : Int) / 65536 = ((a / 65536 : Nat) : Int) := by omega
  obtain ⟨x, hx⟩ : ∃ x : Int, ((a % 65536 : Nat) : Int) = x := ⟨_, rfl⟩
  obtain ⟨y, hy⟩ : ∃ y : Int, ((a / 65536 : Nat) : Int) = y := ⟨_, rfl⟩
  have hx1 : x < 65521 := by omega
  have hy1 : y < 65521 := by omega
  have hx0 : 0 ≤ x := by omega
  have hy0 : 0 ≤ y := by omega
  rw [hx] at e ⊢
  rw [hy] at e2 ⊢
  clear h h1 h2 hx hy
  go_enter Try.func46, Try.ntmps46
  go_wp2_with fail
  go_ret3
  exact ⟨rfl, rfl⟩
theorem parts_no (a : Nat) (w : World) (h : a < 4294967296) (h1 : ¬ (a % 65536 < 65521 ∧ a / 65536 < 65521)) :
    Calls Try.prog 46 #[.int .u32 (a : Nat)] w fun e w' => e = .returned (.tuple #[.int .i64 (a % 65536 : Nat), .int .i64 (a / 65536 : Nat), .bool false]) ∧ w = w' := by
  have e := u32_and_low a h
  have e2 : (a : Int) / 65536 = ((a / 65536 : Nat) : Int) := by omega
  obtain ⟨x, hx⟩ : ∃ x : Int, ((a % 65536 : Nat) : Int) = x := ⟨_, rfl⟩
  obtain ⟨y, hy⟩ : ∃ y : Int, ((a / 65536 : Nat) : Int) = y := ⟨_, rfl⟩
  have hx0 : 0 ≤ x ∧ x < 65536 := by omega
  have hy0 : 0 ≤ y ∧ y < 65536 := by omega
  have hxy : ¬ (x < 65521 ∧ y < 65521) := by omega
  rw [hx] at e ⊢
  rw [hy] at e2 ⊢
  obtain ⟨hx00, hx01⟩ := hx0
  obtain ⟨hy00, hy01⟩ := hy0
  clear h h1 hx hy
  by_cases hx1 : x < 65521
  · have hy1 : ¬ y < 65521 := fun h => hxy ⟨hx1, h⟩
    clear hxy
    go_enter Try.func46, Try.ntmps46
    go_wp2_with fail
    go_ret3
    exact ⟨rfl, rfl⟩
  · clear hxy
    go_enter Try.func46, Try.ntmps46
    go_wp2_with fail
    go_ret3
    exact ⟨rfl, rfl⟩
theorem parts_y {a : Nat} {w : World} (h : a < 4294967296) (h1 : a % 65536 < 65521 ∧ a / 65536 < 65521) {x y : Int} (hx : ((a % 65536 : Nat) : Int) = x) (hy : ((a / 65536 : Nat) : Int) = y) :
    Calls Try.prog 46 #[.int .u32 (a : Nat)] w fun e w' => e = .returned (.tuple #[.int .i64 x, .int .i64 y, .bool true]) ∧ w = w' := by
  subst hx hy
  exact parts_yes a w h h1.1 h1.2
theorem parts_n {a : Nat} {w : World} (h : a < 4294967296) (h1 : ¬ (a % 65536 < 65521 ∧ a / 65536 < 65521)) {x y : Int} (hx : ((a % 65536 : Nat) : Int) = x) (hy : ((a / 65536 : Nat) : Int) = y) :
    Calls Try.prog 46 #[.int .u32 (a : Nat)] w fun e w' => e = .returned (.tuple #[.int .i64 x, .int .i64 y, .bool false]) ∧ w = w' := by
  subst hx hy
  exact parts_no a w h h1
def jOk (a : Nat) : Prop := a % 65536 < 65521 ∧ a / 65536 < 65521
theorem Join_no (a b : Nat) (n : Int) (w : World) (ha : a < 4294967296) (hb : b < 4294967296) (h : ¬ (jOk a ∧ jOk b ∧ 0 ≤ n ∧ n ≤ 4096)) :
    Calls Try.prog 24 #[.int .u32 (a : Nat), .int .u32 (b : Nat), .int .i64 n] w fun e w' => e = .returned (.tuple #[.int .u32 0, .int .i64 1]) ∧ w = w' := by
  obtain ⟨x, hx⟩ : ∃ x : Int, ((a % 65536 : Nat) : Int) = x := ⟨_, rfl⟩
  obtain ⟨y, hy⟩ : ∃ y : Int, ((a / 65536 : Nat) : Int) = y := ⟨_, rfl⟩
  obtain ⟨u, hu⟩ : ∃ x : Int, ((b % 65536 : Nat) : Int) = x := ⟨_, rfl⟩
  obtain ⟨v, hv⟩ : ∃ y : Int, ((b / 65536 : Nat) : Int) = y := ⟨_, rfl⟩
  have HX := hide hx
  have HY := hide hy
  have HU := hide hu
  have HV := hide hv
  have HA := hide ha
  have HB := hide hb
  clear hx hy hu hv ha hb
  by_cases h1 : jOk a
  · by_cases h2 : jOk b
    · have h3 : ¬ (0 ≤ n ∧ n ≤ 4096) := fun h' => h ⟨h1, h2, h'⟩
      have H1 := hide h1
      have H2 := hide h2
      clear h h1 h2
      by_cases h4 : n < 0
      · clear h3
        go_enter Try.func24, Try.ntmps24
        go_wp2_with fail
        refine (parts_y HA.out H1.out HX.out HY.out).mono ?_
        rintro e w1 ⟨rfl, rfl⟩
        go_wp2_with fail
        refine (parts_y HB.out H2.out HU.out HV.out).mono ?_
        rintro e w1 ⟨rfl, rfl⟩
        go_wp2_with fail
        go_ret2
        exact ⟨rfl, rfl⟩
      · have h5 : 4096 < n := by omega
        clear h3
        go_enter Try.func24, Try.ntmps24
        go_wp2_with fail
        refine (parts_y HA.out H1.out HX.out HY.out).mono ?_
        rintro e w1 ⟨rfl, rfl⟩
        go_wp2_with fail
        refine (parts_y HB.out H2.out HU.out HV.out).mono ?_
        rintro e w1 ⟨rfl, rfl⟩
        go_wp2_with fail
        go_ret2
        exact ⟨rfl, rfl⟩
    · have H1 := hide h1
      have H2 := hide h2
      clear h h1 h2
      go_enter Try.func24, Try.ntmps24
      go_wp2_with fail
      refine (parts_y HA.out H1.out HX.out HY.out).mono ?_
      rintro e w1 ⟨rfl, rfl⟩
      go_wp2_with fail
      refine (parts_n HB.out H2.out HU.out HV.out).mono ?_
      rintro e w1 ⟨rfl, rfl⟩
      go_wp2_with fail
      go_ret2
      exact ⟨rfl, rfl⟩
  · have H1 := hide h1
    clear h h1
    by_cases h2 : jOk b
    · have H2 := hide h2
      clear h2
      go_enter Try.func24, Try.ntmps24
      go_wp2_with fail
      refine (parts_n HA.out H1.out HX.out HY.out).mono ?_
      rintro e w1 ⟨rfl, rfl⟩
      go_wp2_with fail
      refine (parts_y HB.out H2.out HU.out HV.out).mono ?_
      rintro e w1 ⟨rfl, rfl⟩
      go_wp2_with fail
      go_ret2
      exact ⟨rfl, rfl⟩
    · have H2 := hide h2
      clear h2
      go_enter Try.func24, Try.ntmps24
      go_wp2_with fail
      refine (parts_n HA.out H1.out HX.out HY.out).mono ?_
      rintro e w1 ⟨rfl, rfl⟩
      go_wp2_with fail
      refine (parts_n HB.out H2.out HU.out HV.out).mono ?_
      rintro e w1 ⟨rfl, rfl⟩
      go_wp2_with fail
      go_ret2
      exact ⟨rfl, rfl⟩
theorem rJoin_no (a b : Nat) (n : Int) (w : World) (ha : a < 4294967296) (hb : b < 4294967296) (h : ¬ (jOk a ∧ jOk b ∧ 0 ≤ n ∧ n ≤ 4096)) :
    Calls Try.prog 25 #[.int .u32 (a : Nat), .int .u32 (b : Nat), .int .i64 n] w fun e w' => e = .returned (.tuple #[.int .u32 0, .int .i64 1]) ∧ w = w' := by
  obtain ⟨x, hx⟩ : ∃ x : Int, (a : Int) % 65536 = x := ⟨_, rfl⟩
  obtain ⟨y, hy⟩ : ∃ y : Int, (a : Int) / 65536 = y := ⟨_, rfl⟩
  obtain ⟨u, hu⟩ : ∃ x : Int, (b : Int) % 65536 = x := ⟨_, rfl⟩
  obtain ⟨v, hv⟩ : ∃ y : Int, (b : Int) / 65536 = y := ⟨_, rfl⟩
  have hx0 : 0 ≤ x := by omega
  have hx1 : x < 65536 := by omega
  have hy0 : 0 ≤ y := by omega
  have hy1 : y < 65536 := by omega
  have hu0 : 0 ≤ u := by omega
  have hu1 : u < 65536 := by omega
  have hv0 : 0 ≤ v := by omega
  have hv1 : v < 65536 := by omega
  unfold jOk at h
  by_cases c1 : 65521 ≤ x
  · clear h ha hb
    go_enter Try.func25, Try.ntmps25
    go_wp2_with fail
    go_ret2
    exact ⟨rfl, rfl⟩
  · by_cases c2 : 65521 ≤ y
    · clear h ha hb
      go_enter Try.func25, Try.ntmps25
      go_wp2_with fail
      go_ret2
      exact ⟨rfl, rfl⟩
    · by_cases c3 : 65521 ≤ u
      · clear h ha hb
        go_enter Try.func25, Try.ntmps25
        go_wp2_with fail
        go_ret2
        exact ⟨rfl, rfl⟩
      · by_cases c4 : 65521 ≤ v
        · clear h ha hb
          go_enter Try.func25, Try.ntmps25
          go_wp2_with fail
          go_ret2
          exact ⟨rfl, rfl⟩
        · by_cases c5 : n < 0
          · clear h ha hb
            go_enter Try.func25, Try.ntmps25
            go_wp2_with fail
            go_ret2
            exact ⟨rfl, rfl⟩
          · have c6 : 4096 < n := by omega
            clear h ha hb
            go_enter Try.func25, Try.ntmps25
            go_wp2_with fail
            go_ret2
            exact ⟨rfl, rfl⟩
theorem Join_ok (a b n : Nat) (w : World) (ha : a < 4294967296) (hb : b < 4294967296) (h1 : jOk a) (h2 : jOk b) (hn : n ≤ 4096) :
    Calls Try.prog 24 #[.int .u32 (a : Nat), .int .u32 (b : Nat), .int .i64 (n : Nat)] w fun e w' => e = .returned (.tuple #[.int .u32 (joinV a b n : Nat), .int .i64 0]) ∧ w = w' := by
  obtain ⟨x, hx⟩ : ∃ x : Int, ((a % 65536 : Nat) : Int) = x := ⟨_, rfl⟩
  obtain ⟨y, hy⟩ : ∃ y : Int, ((a / 65536 : Nat) : Int) = y := ⟨_, rfl⟩
  obtain ⟨u, hu⟩ : ∃ x : Int, ((b % 65536 : Nat) : Int) = x := ⟨_, rfl⟩
  obtain ⟨v, hv⟩ : ∃ y : Int, ((b / 65536 : Nat) : Int) = y := ⟨_, rfl⟩
  have hm : n * (a % 65536 + 65520) ≤ 4096 * 131056 := Nat.mul_le_mul hn (by unfold jOk at h1; omega)
  have hM : (n : Int) * (x - 1 + 65521) = ((n * (a % 65536 + 65520) : Nat) : Int) := by
    rw [← hx, Int.natCast_mul, Int.natCast_add, show (((a % 65536 : Nat) : Int) - 1 + 65521) = ((a % 65536 : Nat) : Int) + ((65520 : Nat) : Int) by omega]
  have hfin : joinV a b n = (a / 65536 + b / 65536 + n * (a % 65536 + 65520)) % 65521 * 65536 + (a % 65536 + b % 65536 + 65520) % 65521 := rfl
  obtain ⟨M, eM⟩ : ∃ M, n * (a % 65536 + 65520) = M := ⟨_, rfl⟩
  rw [eM] at hm hM hfin
  clear eM
  obtain ⟨m, em⟩ : ∃ m : Int, (M : Int) = m := ⟨_, rfl⟩
  rw [em] at hM
  have hm0 : 0 ≤ m := by omega
  have hm1 : m ≤ 536805376 := by omega
  have hn0 : ¬ 4096 < (n : Int) := by omega
  have hnn : decide ((n : Int) < 0) = false := by simp
  have hn4 : decide (4096 < (n : Int)) = false := by simp; omega
  obtain ⟨k1, k2⟩ := h1
  obtain ⟨k3, k4⟩ := h2
  have hx0 : 0 ≤ x := by omega
  have hx1 : x < 65521 := by omega
  have hy0 : 0 ≤ y := by omega
  have hy1 : y < 65521 := by omega
  have hu0 : 0 ≤ u := by omega
  have hu1 : u < 65521 := by omega
  have hv0 : 0 ≤ v := by omega
  have hv1 : v < 65521 := by omega
  have H1 : Hid (jOk a) := hide ⟨k1, k2⟩
  have H2 : Hid (jOk b) := hide ⟨k3, k4⟩
  have hlo : ∃ L : Nat, (x + u - 1 + 65521) % 65521 = (L : Int) ∧ L < 65521 ∧ (a % 65536 + b % 65536 + 65520) % 65521 = L := ⟨_, by omega, Nat.mod_lt _ (by omega), rfl⟩
  have hhi : ∃ L : Nat, (y + v + m) % 65521 = (L : Int) ∧ L < 65521 ∧ (a / 65536 + b / 65536 + M) % 65521 = L := ⟨_, by omega, Nat.mod_lt _ (by omega), rfl⟩
  obtain ⟨l, hl1, hl2, hl3⟩ := hlo
  obtain ⟨g, hg1, hg2, hg3⟩ := hhi
  rw [hl3, hg3] at hfin
  have hor := u32_shl_or g l (by omega) (by omega)
  have HFIN := hide hfin
  have HOR := hide hor
  have HX := hide hx
  have HY := hide hy
  have HU := hide hu
  have HV := hide hv
  have HA := hide ha
  have HB := hide hb
  have hl2i : (l : Int) < 65521 := by omega
  have hg2i : (g : Int) < 65521 := by omega
  clear hx hy hu hv ha hb k1 k2 k3 k4 hfin hm em hor hl2 hl3 hg2 hg3
  go_enter Try.func24, Try.ntmps24
  go_wp2_with fail
  refine (parts_y HA.out H1.out HX.out HY.out).mono ?_
  rintro e w1 ⟨rfl, rfl⟩
  go_wp2_with fail
  refine (parts_y HB.out H2.out HU.out HV.out).mono ?_
  rintro e w1 ⟨rfl, rfl⟩
  go_wp2_with fail
  go_ret2
  refine ⟨?_, rfl⟩
  show Ending.returned (.tuple #[.int .u32 (bits .or .u32 ((g : Int) * 65536) (l : Int)), .int .i64 0]) = _
  rw [HOR.out, HFIN.out]
theorem rJoin_ok (a b n : Nat) (w : World) (ha : a < 4294967296) (hb : b < 4294967296) (h1 : jOk a) (h2 : jOk b) (hn : n ≤ 4096) :
    Calls Try.prog 25 #[.int .u32 (a : Nat), .int .u32 (b : Nat), .int .i64 (n : Nat)] w fun e w' => e = .returned (.tuple #[.int .u32 (joinV a b n : Nat), .int .i64 0]) ∧ w = w' := by
  obtain ⟨x, hx⟩ : ∃ x : Int, (a : Int) % 65536 = x := ⟨_, rfl⟩
  obtain ⟨y, hy⟩ : ∃ y : Int, (a : Int) / 65536 = y := ⟨_, rfl⟩
  obtain ⟨u, hu⟩ : ∃ x : Int, (b : Int) % 65536 = x := ⟨_, rfl⟩
  obtain ⟨v, hv⟩ : ∃ y : Int, (b : Int) / 65536 = y := ⟨_, rfl⟩
  have hm : n * (a % 65536 + 65520) ≤ 4096 * 131056 := Nat.mul_le_mul hn (by unfold jOk at h1; omega)
  have hM : (n : Int) * (x + 65521 - 1) = ((n * (a % 65536 + 65520) : Nat) : Int) := by
    rw [← hx, Int.natCast_mul, Int.natCast_add, show ((a : Int) % 65536 + 65521 - 1) = ((a % 65536 : Nat) : Int) + ((65520 : Nat) : Int) by omega]
  have hfin : joinV a b n = (a / 65536 + b / 65536 + n * (a % 65536 + 65520)) % 65521 * 65536 + (a % 65536 + b % 65536 + 65520) % 65521 := rfl
  obtain ⟨M, eM⟩ : ∃ M, n * (a % 65536 + 65520) = M := ⟨_, rfl⟩
  rw [eM] at hm hM hfin
  clear eM
  obtain ⟨m, em⟩ : ∃ m : Int, (M : Int) = m := ⟨_, rfl⟩
  rw [em] at hM
  have hm0 : 0 ≤ m := by omega
  have hm1 : m ≤ 536805376 := by omega
  have hn0 : ¬ 4096 < (n : Int) := by omega
  have hnn : decide ((n : Int) < 0) = false := by simp
  have hn4 : decide (4096 < (n : Int)) = false := by simp; omega
  obtain ⟨k1, k2⟩ := h1
  obtain ⟨k3, k4⟩ := h2
  have hx0 : 0 ≤ x := by omega
  have hx1 : x < 65521 := by omega
  have hy0 : 0 ≤ y := by omega
  have hy1 : y < 65521 := by omega
  have hu0 : 0 ≤ u := by omega
  have hu1 : u < 65521 := by omega
  have hv0 : 0 ≤ v := by omega
  have hv1 : v < 65521 := by omega
  have d1 : decide (65521 ≤ x) = false := by simp; omega
  have d2 : decide (65521 ≤ y) = false := by simp; omega
  have d3 : decide (65521 ≤ u) = false := by simp; omega
  have d4 : decide (65521 ≤ v) = false := by simp; omega
  have hlo : ∃ L : Nat, (x + u + 65521 - 1) % 65521 = (L : Int) ∧ L < 65521 ∧ (a % 65536 + b % 65536 + 65520) % 65521 = L := ⟨_, by omega, Nat.mod_lt _ (by omega), rfl⟩
  have hhi : ∃ L : Nat, (y + v + m) % 65521 = (L : Int) ∧ L < 65521 ∧ (a / 65536 + b / 65536 + M) % 65521 = L := ⟨_, by omega, Nat.mod_lt _ (by omega), rfl⟩
  obtain ⟨l, hl1, hl2, hl3⟩ := hlo
  obtain ⟨g, hg1, hg2, hg3⟩ := hhi
  rw [hl3, hg3] at hfin
  have HFIN := hide hfin
  have hl2i : (l : Int) < 65521 := by omega
  have hg2i : (g : Int) < 65521 := by omega
  clear ha hb k1 k2 k3 k4 hfin hm em hl2 hl3 hg2 hg3
  go_enter Try.func25, Try.ntmps25
  go_wp2_with fail
  go_ret2
  refine ⟨?_, rfl⟩
  rw [HFIN.out]
  show Ending.returned (.tuple #[.int .u32 (65536 * (g : Int) + (l : Int)), .int .i64 0]) = _
  rw [show (65536 * (g : Int) + (l : Int)) = ((g * 65536 + l : Nat) : Int) by omega]
end Go.Proofs.Ytfiopjgpokdnoaa
