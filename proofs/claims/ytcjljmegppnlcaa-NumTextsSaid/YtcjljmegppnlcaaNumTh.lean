/- The law NumTexts, joined. Conditions: the text is not longer than a text can be. -/
import Derived.Test.YtcjljmegppnlcaaNumTg
namespace Go.Proofs.Ytcjljmegppnlcaa
open Go.RowKit NP
set_option linter.unusedVariables false
theorem tailS_neg (r : List UInt8) : tailS (45 :: r) = (true, r) := rfl
theorem tailS_pos {c : UInt8} (hc : c ≠ 45) (r : List UInt8) : tailS (c :: r) = (false, c :: r) := by
  unfold tailS
  split
  · rename_i h
    injection h with h1 h2
    exact absurd h1 hc
  · rfl
theorem Parse_any (l : List UInt8) (b : Nat) (hb : 2 ≤ b) (hb2 : b ≤ 16) (hl : l.length ≤ 9223372036854775807) (w : World) :
    Calls Try.prog 32 #[.string (strB l), .int .i64 (b : Nat)] w fun e w' => e = .returned (.tuple #[.int .i64 (parseF b l).1, .int .i64 ((parseF b l).2 : Nat)]) ∧ Q w w' := by
  rw [parseF_eq]
  match l, hl with
  | [], hl => exact Parse_core [] [] false b hb hb2 hl (by simp) (fun _ => rfl) (fun W => trim_nil W) w
  | c :: r, hl =>
    by_cases hc : c = 45
    · subst hc
      rw [tailS_neg]
      exact Parse_core (45 :: r) r true b hb hb2 hl (fun _ => rfl) (by simp) (fun W => trim_neg r hl W) w
    · rw [tailS_pos hc]
      exact Parse_core (c :: r) (c :: r) false b hb hb2 hl (by simp) (fun _ => rfl) (fun W => trim_pos c hc r hl W) w
theorem rParse_any (l : List UInt8) (b : Nat) (hb : 2 ≤ b) (hb2 : b ≤ 16) (hl : l.length ≤ 9223372036854775807) (w : World) :
    Calls Try.prog 33 #[.string (strB l), .int .i64 (b : Nat)] w fun e w' => e = .returned (.tuple #[.int .i64 (parseF b l).1, .int .i64 ((parseF b l).2 : Nat)]) ∧ Q w w' := by
  rw [parseF_eq]
  match l, hl with
  | [], hl => exact rParse_nil b hb hb2 w
  | c :: r, hl =>
    by_cases hc : c = 45
    · subst hc
      rw [tailS_neg]
      exact rParse_neg (45 :: r) r rfl b hb hb2 hl w
    · rw [tailS_pos hc]
      exact rParse_pos (c :: r) (c :: r) rfl c r rfl hc b hb hb2 hl w
theorem Parse_bad (S : ByteArray) (b : Int) (h : ¬ (2 ≤ b ∧ b ≤ 16)) (w : World) : Calls Try.prog 32 #[.string S, .int .i64 b] w fun e w' => e = .returned (.tuple #[.int .i64 0, .int .i64 1]) ∧ Q w w' := by
  have C := hide (isBase_bad b h w)
  clear h
  go_enter Try.func32, Try.ntmps32
  go_wp2_with fail
  refine C.out.mono ?_
  rintro e w1 ⟨rfl, hq⟩
  go_wp2_with fail
  go_ret2
  exact ⟨rfl, hq⟩
theorem rParse_bad (S : ByteArray) (b : Int) (h : ¬ (2 ≤ b ∧ b ≤ 16)) (w : World) : Calls Try.prog 33 #[.string S, .int .i64 b] w fun e w' => e = .returned (.tuple #[.int .i64 0, .int .i64 1]) ∧ Q w w' := by
  have C := hide (show Calls Try.prog 49 #[.int .i64 b, .int .i64 2, .int .i64 16] w fun e w' => e = .returned (.bool false) ∧ w = w' from by have h2 := Within_any b 2 16 w; rw [show withinB b 2 16 = false by unfold withinB; simp; omega] at h2; exact h2)
  clear h
  go_enter Try.func33, Try.ntmps33
  go_wp2_with fail
  refine C.out.mono ?_
  rintro e w1 ⟨rfl, rfl⟩
  go_wp2_with fail
  go_ret2
  exact ⟨rfl, Q.refl _⟩
/-! the one undoes the other -/
theorem txtN_ne {b : Nat} (hb : 2 ≤ b) (hb2 : b ≤ 16) : ∀ (k n : Nat), n < 2 ^ k → ∀ x ∈ txtN b n, x ≠ 45
  | 0, n, h, x, hx => by
    have : n = 0 := by omega
    subst this
    rw [txtN_lo (by omega)] at hx
    simp at hx
    subst hx
    exact dgt_ne 0 (by omega)
  | k + 1, n, h, x, hx => by
    by_cases hlo : n < b
    · rw [txtN_lo hlo] at hx
      simp at hx
      subst hx
      exact dgt_ne n (by omega)
    · rw [txtN_hi hb (by omega), List.mem_append] at hx
      rcases hx with hx | hx
      · have h1 : n / b < 2 ^ k := by
          have h1 : n / b ≤ n / 2 := Nat.div_le_div_left hb (by omega)
          have h2 : n / 2 < 2 ^ k := by rw [Nat.div_lt_iff_lt_mul (by omega), ← Nat.pow_succ]; exact h
          omega
        exact txtN_ne hb hb2 k _ h1 x hx
      · simp at hx
        subst hx
        exact dgt_ne _ (by have := Nat.mod_lt n (show b > 0 by omega); omega)
theorem M_lt {n : Nat} (h : n ≤ 1099511627776) : n < 2 ^ 41 := Nat.lt_of_le_of_lt h (by decide)
theorem le_Mb {n b : Nat} (h : n ≤ 1099511627776) (hb : 2 ≤ b) : n ≤ 1099511627776 * b := Nat.le_trans h (Nat.le_mul_of_pos_right _ (by omega))
theorem parse_txt {b : Nat} {n : Int} (hb : 2 ≤ b) (hb2 : b ≤ 16) (h1 : -1099511627776 ≤ n) (h2 : n ≤ 1099511627776) : parseF b (txtI b n) = (n, 0) := by
  rw [parseF_eq]
  by_cases h0 : n < 0
  · have e : txtI b n = 45 :: txtN b n.natAbs := by unfold txtI; rw [if_pos h0]
    have hk : n.natAbs ≤ 1099511627776 := by omega
    have hs : signed true n.natAbs = n := by simp [signed]; omega
    rw [e, tailS_neg]
    dsimp only
    rw [parseG_ok (m := n.natAbs) (numDg_txt hb hb2 41 _ (M_lt hk) (le_Mb hk hb)) (by omega) (by rw [hs, e]), hs]
  · have e : txtI b n = txtN b n.toNat := by unfold txtI; rw [if_neg h0]
    have hk : n.toNat ≤ 1099511627776 := by omega
    have hs : signed false n.toNat = n := by simp [signed]; omega
    have ht : tailS (txtN b n.toNat) = (false, txtN b n.toNat) := by
      have hp := txtN_pos b n.toNat
      have hne := txtN_ne hb hb2 41 n.toNat (M_lt hk)
      cases hx : txtN b n.toNat with
      | nil => rw [hx] at hp; cases hp
      | cons c r => exact tailS_pos (hne c (by rw [hx]; simp)) r
    rw [e, ht]
    dsimp only
    rw [parseG_ok (m := n.toNat) (numDg_txt hb hb2 41 _ (M_lt hk) (le_Mb hk hb)) (by omega) (by rw [hs, e]), hs]
theorem parse_back (b : Nat) (l : List UInt8) : ((parseF b l).2 = 0 ∧ -1099511627776 ≤ (parseF b l).1 ∧ (parseF b l).1 ≤ 1099511627776 ∧ txtI b (parseF b l).1 = l) ∨ ((parseF b l).2 = 2 ∧ (parseF b l).1 = 0) := by
  rw [parseF_eq]
  cases hm : numDg b 0 (tailS l).2 with
  | none => exact .inr (by rw [parseG_none hm]; exact ⟨rfl, rfl⟩)
  | some m =>
    by_cases hb : 1099511627776 < m
    · exact .inr (by rw [parseG_big hm hb]; exact ⟨rfl, rfl⟩)
    · by_cases he : txtI b (signed (tailS l).1 m) = l
      · left
        rw [parseG_ok hm hb he]
        refine ⟨rfl, ?_, ?_, he⟩
        · show -1099511627776 ≤ signed (tailS l).1 m
          cases (tailS l).1 <;> simp [signed] <;> omega
        · show signed (tailS l).1 m ≤ 1099511627776
          cases (tailS l).1 <;> simp [signed] <;> omega
      · exact .inr (by rw [parseG_ne hm he]; exact ⟨rfl, rfl⟩)
theorem NumTexts_true (n b : Int) (S : ByteArray) (hS : S.size ≤ 9223372036854775807) (w : World) :
    Calls Try.prog 9 #[.int .i64 n, .int .i64 b, .string S] w fun z w' => z = .returned (.bool true) ∧ Q w w' := by
  by_cases hb : 2 ≤ b ∧ b ≤ 16
  · obtain ⟨B, rfl⟩ : ∃ B : Nat, b = (B : Int) := ⟨b.toNat, by omega⟩
    have hB : 2 ≤ B := by omega
    have hB2 : B ≤ 16 := by omega
    obtain ⟨l, rfl⟩ : ∃ l, S = strB l := ⟨S.data.toList, by simp [strB]⟩
    rw [strB_size] at hS
    have hP := fun W => Parse_any l B hB hB2 hS W
    have hP2 := fun W => rParse_any l B hB hB2 hS W
    obtain ⟨Y, j, hT3, h2⟩ : ∃ (Y : ByteArray) (j : Int), (∀ W, Calls Try.prog 30 #[.int .i64 (parseF B l).1, .int .i64 (B : Nat)] W fun z w' => z = .returned (.tuple #[.string Y, .int .i64 j]) ∧ Q W w') ∧ (((parseF B l).2 : Int) = 0 → j = 0 ∧ Y = strB l) := by
      rcases parse_back B l with ⟨h1, h2, h3, h4⟩ | ⟨h1, h2⟩
      · exact ⟨_, 0, fun W => Text_ok _ B ⟨hb.1, hb.2, h2, h3⟩ W, fun _ => ⟨rfl, by rw [h4]⟩⟩
      · exact ⟨_, 0, fun W => Text_ok _ B ⟨hb.1, hb.2, by omega, by omega⟩ W, fun h => by rw [h1] at h; cases h⟩
    by_cases hk : okT n B
    · have hlen := txtI_len (b := B) hB (n := n) (by obtain ⟨_, _, h3, h4⟩ := hk; omega)
      have hP3 := fun W => Parse_any (txtI B n) B hB hB2 (by omega) W
      rw [parse_txt hB hB2 hk.2.2.1 hk.2.2.2] at hP3
      exact NumTexts_core n B _ _ Y 0 _ _ n 0 j (fun W => Text_ok n B hk W) (fun W => rText_ok n B hk W) hP hP2 hP3 hT3 (fun _ => ⟨rfl, rfl⟩) h2 w
    · have hP3 := fun W => Parse_any [] B hB hB2 (by simp) W
      exact NumTexts_core n B _ ByteArray.empty Y 1 _ _ _ _ j (fun W => Text_bad n B hk W) (fun W => rText_bad n B hk W) hP hP2 hP3 hT3 (fun h => by cases h) h2 w
  · have hk : ¬ okT n b := fun h => hb ⟨h.1, h.2.1⟩
    have hk0 : ¬ okT 0 b := fun h => hb ⟨h.1, h.2.1⟩
    exact NumTexts_core n b S ByteArray.empty ByteArray.empty 1 0 1 0 1 1 (fun W => Text_bad n b hk W) (fun W => rText_bad n b hk W) (fun W => Parse_bad S b hb W) (fun W => rParse_bad S b hb W) (fun W => Parse_bad _ b hb W) (fun W => Text_bad 0 b hk0 W) (fun h => by cases h) (fun h => by cases h) w
end Go.Proofs.Ytcjljmegppnlcaa
