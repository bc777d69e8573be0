/- The walks of Where, of the program and of the reference. Conditions: the text is not immense. -/
import Derived.Test.YtofigpjabamnhaaLexZ
namespace Go.Proofs.Ytofigpjabamnhaa
open Go.RowKit LX
set_option linter.unusedVariables false
structure Wh (s : ByteArray) (p a b : Int) (e : Nat) : Prop where
  pr : ∀ w, Calls Try.prog 26 #[.string s, .int .i64 p] w fun en w' => en = .returned (.tuple #[.int .i64 a, .int .i64 b, .int .i64 (e : Nat)]) ∧ Q w w'
  rf : ∀ w, Calls Try.prog 27 #[.string s, .int .i64 p] w fun en w' => en = .returned (.tuple #[.int .i64 a, .int .i64 b, .int .i64 (e : Nat)]) ∧ Q w w'
theorem Where_err (s : ByteArray) (p : Int) (ts0 : List Tok) (n0 e0 : Nat) (w : World) (h0 : lexF (nat s) = (ts0, n0, e0)) (he : e0 ≠ 0) :
    Calls Try.prog 26 #[.string s, .int .i64 p] w fun en w' => en = .returned (.tuple #[.int .i64 0, .int .i64 0, .int .i64 (e0 : Nat)]) ∧ Q w w' := by
  have hd : ((e0 : Int) != 0) = true := by simp; omega
  have l0 := Lex_any s
  rw [h0] at l0
  have L0 := hide l0
  clear l0 h0
  go_enter Try.func26, Try.ntmps26
  go_wp2_with fail
  refine (L0.out _).mono ?_
  rintro en w1 ⟨v1, rfl, -, hq1⟩
  go_wp2_with fail
  go_ret3
  exact ⟨rfl, hq1⟩
theorem Where_bad (s : ByteArray) (p : Int) (ts0 : List Tok) (n0 : Nat) (w : World) (h0 : lexF (nat s) = (ts0, n0, 0)) (hp : p < 0 ∨ (s.size : Int) < p) :
    Calls Try.prog 26 #[.string s, .int .i64 p] w fun en w' => en = .returned (.tuple #[.int .i64 0, .int .i64 0, .int .i64 1]) ∧ Q w w' := by
  have l0 := Lex_any s
  rw [h0] at l0
  have L0 := hide l0
  clear l0 h0
  by_cases h1 : p < 0
  · have d1 : decide (p < 0) = true := by simpa using h1
    clear hp
    go_enter Try.func26, Try.ntmps26
    go_wp2_with fail
    refine (L0.out _).mono ?_
    rintro en w1 ⟨v1, rfl, -, hq1⟩
    go_wp2_with fail
    go_ret3
    exact ⟨rfl, hq1⟩
  · have d1 : decide (p < 0) = false := by simpa using h1
    have d2 : decide ((s.size : Int) < p) = true := by simp; omega
    clear hp
    go_enter Try.func26, Try.ntmps26
    go_wp2_with fail
    refine (L0.out _).mono ?_
    rintro en w1 ⟨v1, rfl, -, hq1⟩
    go_wp2_with fail
    go_ret3
    exact ⟨rfl, hq1⟩
theorem rWhere_err (s : ByteArray) (p : Int) (ts0 : List Tok) (n0 e0 : Nat) (w : World) (h0 : lexF (nat s) = (ts0, n0, e0)) (he : e0 ≠ 0) :
    Calls Try.prog 27 #[.string s, .int .i64 p] w fun en w' => en = .returned (.tuple #[.int .i64 0, .int .i64 0, .int .i64 (e0 : Nat)]) ∧ Q w w' := by
  have hd : ((e0 : Int) != 0) = true := by simp; omega
  have l0 := rLex_any s
  rw [h0] at l0
  have L0 := hide l0
  clear l0 h0
  go_enter Try.func27, Try.ntmps27
  go_wp2_with fail
  refine (L0.out _).mono ?_
  rintro en w1 ⟨v1, rfl, -, hq1⟩
  go_wp2_with fail
  go_ret3
  exact ⟨rfl, hq1⟩
theorem rWhere_bad (s : ByteArray) (p : Int) (ts0 : List Tok) (n0 : Nat) (w : World) (h0 : lexF (nat s) = (ts0, n0, 0)) (hp : p < 0 ∨ (s.size : Int) < p) :
    Calls Try.prog 27 #[.string s, .int .i64 p] w fun en w' => en = .returned (.tuple #[.int .i64 0, .int .i64 0, .int .i64 1]) ∧ Q w w' := by
  have l0 := rLex_any s
  rw [h0] at l0
  have L0 := hide l0
  clear l0 h0
  by_cases h1 : p < 0
  · have d1 : decide (p < 0) = true := by simpa using h1
    clear hp
    go_enter Try.func27, Try.ntmps27
    go_wp2_with fail
    refine (L0.out _).mono ?_
    rintro en w1 ⟨v1, rfl, -, hq1⟩
    go_wp2_with fail
    go_ret3
    exact ⟨rfl, hq1⟩
  · have d1 : decide (p < 0) = false := by simpa using h1
    have d2 : decide ((s.size : Int) < p) = true := by simp; omega
    clear hp
    go_enter Try.func27, Try.ntmps27
    go_wp2_with fail
    refine (L0.out _).mono ?_
    rintro en w1 ⟨v1, rfl, -, hq1⟩
    go_wp2_with fail
    go_ret3
    exact ⟨rfl, hq1⟩
theorem Where_ok (s : ByteArray) (k : Nat) (ts0 : List Tok) (n0 : Nat) (w : World) (hs : s.size ≤ 6000) (h0 : lexF (nat s) = (ts0, n0, 0)) (hk : k ≤ s.size) :
    Calls Try.prog 26 #[.string s, .int .i64 (k : Nat)] w fun en w' => en = .returned (.tuple #[.int .i64 (1 + (((nat s).take k).count 10 : Nat)), .int .i64 ((k : Int) - lastL (nat s) 10 k), .int .i64 0]) ∧ Q w w' := by
  have hki : (k : Int) ≤ (s.size : Int) := by omega
  have hsi : (s.size : Int) ≤ 6000 := by omega
  have d1 : decide ((k : Int) < 0) = false := by simp
  have d2 : decide ((s.size : Int) < (k : Int)) = false := by simp; omega
  have d3 : decide (s.size < k) = false := by simp; omega
  have l0 := Lex_any s
  rw [h0] at l0
  have L0 := hide l0
  clear l0 h0
  have hsz : (s.extract 0 k).size = k := by simp; omega
  have hc := Count_any (s.extract 0 k)
  have hl := LastIndex_any (s.extract 0 k)
  rw [hsz, nat_extract, List.drop_zero, Nat.sub_zero, lastL_take _ _ _ _ (Nat.le_refl _)] at hl
  rw [nat_extract, List.drop_zero, Nat.sub_zero] at hc
  have hr := lastL_range (nat s) 10 k
  have hn : ((nat s).take k).count 10 ≤ k := by
    refine Nat.le_trans List.count_le_length ?_
    simp
    omega
  obtain ⟨L, hL⟩ : ∃ L, lastL (nat s) 10 k = L := ⟨_, rfl⟩
  obtain ⟨n, hn'⟩ : ∃ n, ((nat s).take k).count 10 = n := ⟨_, rfl⟩
  rw [hL] at hl hr ⊢
  rw [hn'] at hc hn ⊢
  obtain ⟨hr1, hr2⟩ := hr
  have hni : (n : Int) ≤ (k : Int) := by omega
  have HC := hide hc
  have HL := hide hl
  clear hc hl hL hn' hsz
  go_enter Try.func26, Try.ntmps26
  go_wp2_with fail
  refine (L0.out _).mono ?_
  rintro en w1 ⟨v1, rfl, -, hq1⟩
  go_wp2_with fail
  refine (HC.out _).mono ?_
  rintro en w2 ⟨rfl, hq2⟩
  go_wp2_with fail
  refine (HL.out _ (by omega)).mono ?_
  rintro en w3 ⟨rfl, hq3⟩
  go_wp2_with fail
  go_ret3
  exact ⟨rfl, (hq1.trans hq2).trans hq3⟩
set_option maxHeartbeats 1000000 in
theorem rWhere_ok (s : ByteArray) (k : Nat) (ts0 : List Tok) (n0 : Nat) (w : World) (hs : s.size ≤ 6000) (h0 : lexF (nat s) = (ts0, n0, 0)) (hk : k ≤ s.size) :
    Calls Try.prog 27 #[.string s, .int .i64 (k : Nat)] w fun en w' => en = .returned (.tuple #[.int .i64 (1 + (((nat s).take k).count 10 : Nat)), .int .i64 ((k : Int) - lastL (nat s) 10 k), .int .i64 0]) ∧ Q w w' := by
  have hki : (k : Int) ≤ (s.size : Int) := by omega
  have hsi : (s.size : Int) ≤ 6000 := by omega
  have d1 : decide ((k : Int) < 0) = false := by simp
  have d2 : decide ((s.size : Int) < (k : Int)) = false := by simp; omega
  have d3 : decide (s.size < k) = false := by simp; omega
  have l0 := rLex_any s
  rw [h0] at l0
  have L0 := hide l0
  clear l0 h0
  go_enter Try.func27, Try.ntmps27
  go_wp2_with fail
  refine (L0.out _).mono ?_
  rintro en w1 ⟨v1, rfl, -, hq1⟩
  go_wp2_with fail
  go_loopw [10, 11, 12] (fun vl vc v wr => ∃ (i n : Nat) (L : Int), i ≤ k ∧ n ≤ i ∧ -1 ≤ L ∧ L < (i : Int) ∧ n = ((nat s).take i).count 10 ∧ L = lastL (nat s) 10 i ∧ vl = .int .i64 (1 + (n : Int)) ∧ vc = .int .i64 ((i : Int) - L) ∧ v = .int .i64 i ∧ Q w wr) (fun _ _ v _ => k - (intOf v).toNat)
  case atStart => exact ⟨0, 0, -1, by omega, by omega, by omega, by omega, by simp, rfl, by go_num, by go_num, by go_num, hq1⟩
  case round =>
    obtain ⟨i, n, L, hi, hn, hL1, hL2, hn', hL', rfl, rfl, rfl, hq⟩ := hrel
    have HN := hide hn'
    have HL := hide hL'
    clear hn' hL'
    have hii : (i : Int) ≤ (k : Int) := by omega
    have hni : (n : Int) ≤ (i : Int) := by omega
    by_cases hlt : i < k
    · have dl1 : decide (i < k) = true := by simp; omega
      have dl2 : decide ((i : Int) < (k : Int)) = true := by simp; omega
      have hlti : (i : Int) < (s.size : Int) := by omega
      have hlts : i < s.size := by omega
      have hg := nat_getD s i hlts
      have hg2 := nat_get s i hlts
      have h256 : s[i].toNat < 256 := s[i].toNat_lt
      have st : ((nat s).take (i + 1)).count 10 = ((nat s).take i).count 10 + (if s[i].toNat = 10 then 1 else 0) := by
        rw [List.take_add_one, hg2, List.count_append]
        simp [List.count_cons]
      by_cases hc : s[i].toNat = 10
      · have d5 : ((s[i].toNat : Int) == 10) = true := by simp; omega
        rw [if_pos hc, ← HN.out] at st
        have sl : lastL (nat s) 10 (i + 1) = (i : Int) := by unfold lastL; rw [if_pos (by rw [hg]; exact hc)]
        have ST := hide st
        have SL := hide sl
        clear st sl hg hg2 hc
        go_wp2_with fail
        go_roundw
        case rel => exact ⟨i + 1, n + 1, i, by omega, by omega, by omega, by omega, ST.out.symm, SL.out.symm, by first | go_num | (congr 1; omega), by first | go_num | (congr 1; omega), by go_num, hq⟩
        case measure => simp [intOf] <;> omega
      · have d5 : ((s[i].toNat : Int) == 10) = false := by simp; omega
        rw [if_neg hc, ← HN.out] at st
        have sl : lastL (nat s) 10 (i + 1) = L := by rw [HL.out, lastL, if_neg (by rw [hg]; exact hc)]
        have ST := hide st
        have SL := hide sl
        clear st sl hg hg2 hc
        go_wp2_with fail
        go_roundw
        case rel => exact ⟨i + 1, n, L, by omega, by omega, by omega, by omega, ST.out.symm, SL.out.symm, by first | go_num | (congr 1; omega), by first | go_num | (congr 1; omega), by go_num, hq⟩
        case measure => simp [intOf] <;> omega
    · have dl1 : decide (i < k) = false := by simp; omega
      have dl2 : decide ((i : Int) < (k : Int)) = false := by simp; omega
      have e : i = k := by omega
      subst e
      go_wp2_with fail
      go_ret3
      exact ⟨by rw [← HN.out, ← HL.out]; rfl, hq⟩
theorem where_all (s : ByteArray) (p : Int) (hs : s.size ≤ 6000) : ∃ a b e, Wh s p a b e := by
  obtain ⟨⟨ts0, n0, e0⟩, h0⟩ : ∃ r, lexF (nat s) = r := ⟨_, rfl⟩
  by_cases he : e0 = 0
  · subst he
    by_cases hp : p < 0 ∨ (s.size : Int) < p
    · exact ⟨_, _, _, ⟨fun w => Where_bad s p ts0 n0 w h0 hp, fun w => rWhere_bad s p ts0 n0 w h0 hp⟩⟩
    · obtain ⟨k, rfl⟩ := Int.eq_ofNat_of_zero_le (show 0 ≤ p by omega)
      exact ⟨_, _, _, ⟨fun w => Where_ok s k ts0 n0 w hs h0 (by omega), fun w => rWhere_ok s k ts0 n0 w hs h0 (by omega)⟩⟩
  · exact ⟨_, _, _, ⟨fun w => Where_err s p ts0 n0 e0 w h0 he, fun w => rWhere_err s p ts0 n0 e0 w h0 he⟩⟩
end Go.Proofs.Ytofigpjabamnhaa
