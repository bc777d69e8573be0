/- The law NumTexts, joined. Conditions: the text is not longer than a text can be. -/
import Derived.Test.YtcjljmegppnlcaaDoorNumTf
namespace Go.Proofs.YtcjljmegppnlcaaDoor
open Go.RowKit NP
set_option linter.unusedVariables false
theorem tailS_neg (r : List UInt8) : tailS (45 :: r) = (true, r) := rfl
theorem tailS_pos {c : UInt8} (hc : c ≠ 45) (r : List UInt8) : tailS (c :: r) = (false, c :: r) := by
  unfold tailS
  split
  · rename_i h
    injection h with h1 h2
    exact absurd h1 hc
  · rfl
theorem Parse_any (l : List UInt8) (b : Nat) (hb : 2 ≤ b) (hb2 : b ≤ 16) (hl : l.length ≤ 9223372036854775807) (w : World) :
    Calls Tryd.prog 13 #[.string (strB l), .int .i64 (b : Nat)] w fun e w' => e = .returned (.tuple #[.int .i64 (parseF b l).1, .int .i64 ((parseF b l).2 : Nat)]) ∧ Q w w' := by
  rw [parseF_eq]
  match l, hl with
  | [], hl => exact Parse_core [] [] false b hb hb2 hl (by simp) (fun _ => rfl) (fun W => trim_nil W) w
  | c :: r, hl =>
    by_cases hc : c = 45
    · subst hc
      rw [tailS_neg]
      exact Parse_core (45 :: r) r true b hb hb2 hl (fun _ => rfl) (by simp) (fun W => trim_neg r hl W) w
    · rw [tailS_pos hc]
      exact Parse_core (c :: r) (c :: r) false b hb hb2 hl (by simp) (fun _ => rfl) (fun W => trim_pos c hc r hl W) w
theorem Parse_bad (S : ByteArray) (b : Int) (h : ¬ (2 ≤ b ∧ b ≤ 16)) (w : World) : Calls Tryd.prog 13 #[.string S, .int .i64 b] w fun e w' => e = .returned (.tuple #[.int .i64 0, .int .i64 1]) ∧ Q w w' := by
  have C := hide (isBase_bad b h w)
  clear h
  go_enter Tryd.func13, Tryd.ntmps13
  go_wp2_with fail
  refine C.out.mono ?_
  rintro e w1 ⟨rfl, hq⟩
  go_wp2_with fail
  go_ret2
  exact ⟨rfl, hq⟩
/-! the one undoes the other -/
theorem txtN_ne {b : Nat} (hb : 2 ≤ b) (hb2 : b ≤ 16) : ∀ (k n : Nat), n < 2 ^ k → ∀ x ∈ txtN b n, x ≠ 45
  | 0, n, h, x, hx => by
    have : n = 0 := by omega
    subst this
    rw [txtN_lo (by omega)] at hx
    simp at hx
    subst hx
    exact dgt_ne 0 (by omega)
  | k + 1, n, h, x, hx => by
    by_cases hlo : n < b
    · rw [txtN_lo hlo] at hx
      simp at hx
      subst hx
      exact dgt_ne n (by omega)
    · rw [txtN_hi hb (by omega), List.mem_append] at hx
      rcases hx with hx | hx
      · have h1 : n / b < 2 ^ k := by
          have h1 : n / b ≤ n / 2 := Nat.div_le_div_left hb (by omega)
          have h2 : n / 2 < 2 ^ k := by rw [Nat.div_lt_iff_lt_mul (by omega), ← Nat.pow_succ]; exact h
          omega
        exact txtN_ne hb hb2 k _ h1 x hx
      · simp at hx
        subst hx
        exact dgt_ne _ (by have := Nat.mod_lt n (show b > 0 by omega); omega)
theorem M_lt {n : Nat} (h : n ≤ 1099511627776) : n < 2 ^ 41 := Nat.lt_of_le_of_lt h (by decide)
theorem le_Mb {n b : Nat} (h : n ≤ 1099511627776) (hb : 2 ≤ b) : n ≤ 1099511627776 * b := Nat.le_trans h (Nat.le_mul_of_pos_right _ (by omega))
theorem parse_txt {b : Nat} {n : Int} (hb : 2 ≤ b) (hb2 : b ≤ 16) (h1 : -1099511627776 ≤ n) (h2 : n ≤ 1099511627776) : parseF b (txtI b n) = (n, 0) := by
  rw [parseF_eq]
  by_cases h0 : n < 0
  · have e : txtI b n = 45 :: txtN b n.natAbs := by unfold txtI; rw [if_pos h0]
    have hk : n.natAbs ≤ 1099511627776 := by omega
    have hs : signed true n.natAbs = n := by simp [signed]; omega
    rw [e, tailS_neg]
    dsimp only
    rw [parseG_ok (m := n.natAbs) (numDg_txt hb hb2 41 _ (M_lt hk) (le_Mb hk hb)) (by omega) (by rw [hs, e]), hs]
  · have e : txtI b n = txtN b n.toNat := by unfold txtI; rw [if_neg h0]
    have hk : n.toNat ≤ 1099511627776 := by omega
    have hs : signed false n.toNat = n := by simp [signed]; omega
    have ht : tailS (txtN b n.toNat) = (false, txtN b n.toNat) := by
      have hp := txtN_pos b n.toNat
      have hne := txtN_ne hb hb2 41 n.toNat (M_lt hk)
      cases hx : txtN b n.toNat with
      | nil => rw [hx] at hp; cases hp
      | cons c r => exact tailS_pos (hne c (by rw [hx]; simp)) r
    rw [e, ht]
    dsimp only
    rw [parseG_ok (m := n.toNat) (numDg_txt hb hb2 41 _ (M_lt hk) (le_Mb hk hb)) (by omega) (by rw [hs, e]), hs]
theorem parse_back (b : Nat) (l : List UInt8) : ((parseF b l).2 = 0 ∧ -1099511627776 ≤ (parseF b l).1 ∧ (parseF b l).1 ≤ 1099511627776 ∧ txtI b (parseF b l).1 = l) ∨ ((parseF b l).2 = 2 ∧ (parseF b l).1 = 0) := by
  rw [parseF_eq]
  cases hm : numDg b 0 (tailS l).2 with
  | none => exact .inr (by rw [parseG_none hm]; exact ⟨rfl, rfl⟩)
  | some m =>
    by_cases hb : 1099511627776 < m
    · exact .inr (by rw [parseG_big hm hb]; exact ⟨rfl, rfl⟩)
    · by_cases he : txtI b (signed (tailS l).1 m) = l
      · left
        rw [parseG_ok hm hb he]
        refine ⟨rfl, ?_, ?_, he⟩
        · show -1099511627776 ≤ signed (tailS l).1 m
          cases (tailS l).1 <;> simp [signed] <;> omega
        · show signed (tailS l).1 m ≤ 1099511627776
          cases (tailS l).1 <;> simp [signed] <;> omega
      · exact .inr (by rw [parseG_ne hm he]; exact ⟨rfl, rfl⟩)
end Go.Proofs.YtcjljmegppnlcaaDoor
