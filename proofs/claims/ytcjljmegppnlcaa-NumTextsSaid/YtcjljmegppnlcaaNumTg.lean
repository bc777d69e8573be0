/- The walk of the law NumTexts. Conditions: the text is not immense. -/
import Derived.Test.YtcjljmegppnlcaaNumTf
import Derived.Test.YtcjljmegppnlcaaNumW
namespace Go.Proofs.Ytcjljmegppnlcaa
open Go.RowKit NP
set_option linter.unusedVariables false
set_option maxRecDepth 100000 in
set_option maxHeartbeats 4000000 in
theorem NumTexts_core (n b : Int) (S A Y : ByteArray) (e c g x i j : Int)
    (hT : ∀ W, Calls Try.prog 30 #[.int .i64 n, .int .i64 b] W fun z w' => z = .returned (.tuple #[.string A, .int .i64 e]) ∧ Q W w')
    (hT2 : ∀ W, Calls Try.prog 31 #[.int .i64 n, .int .i64 b] W fun z w' => z = .returned (.tuple #[.string A, .int .i64 e]) ∧ Q W w')
    (hP : ∀ W, Calls Try.prog 32 #[.string S, .int .i64 b] W fun z w' => z = .returned (.tuple #[.int .i64 c, .int .i64 g]) ∧ Q W w')
    (hP2 : ∀ W, Calls Try.prog 33 #[.string S, .int .i64 b] W fun z w' => z = .returned (.tuple #[.int .i64 c, .int .i64 g]) ∧ Q W w')
    (hP3 : ∀ W, Calls Try.prog 32 #[.string A, .int .i64 b] W fun z w' => z = .returned (.tuple #[.int .i64 x, .int .i64 i]) ∧ Q W w')
    (hT3 : ∀ W, Calls Try.prog 30 #[.int .i64 c, .int .i64 b] W fun z w' => z = .returned (.tuple #[.string Y, .int .i64 j]) ∧ Q W w')
    (h1 : e = 0 → i = 0 ∧ x = n) (h2 : g = 0 → j = 0 ∧ Y = S) (w : World) :
    Calls Try.prog 9 #[.int .i64 n, .int .i64 b, .string S] w fun z w' => z = .returned (.bool true) ∧ Q w w' := by
  have HT := hide hT
  have HT2 := hide hT2
  have HP := hide hP
  have HP2 := hide hP2
  have HP3 := hide hP3
  have HT3 := hide hT3
  have hAA : (A.toList == A.toList) = true := by simp
  have hSS : (S.toList == S.toList) = true := by simp
  have hee : (e != e) = false := by simp
  have hgg : (g != g) = false := by simp
  have hcc : (c != c) = false := by simp
  clear hT hT2 hP hP2 hP3 hT3
  by_cases he : e = 0
  · by_cases hg : g = 0
    · skip
      obtain ⟨rfl, rfl⟩ := h1 he
      subst he
      obtain ⟨rfl, rfl⟩ := h2 hg
      subst hg
      clear h1 h2
      go_enter Try.func9, Try.ntmps9
      go_wp2_with fail
      refine (HT.out _).mono ?_
      rintro e' w1 ⟨rfl, hq1⟩
      have HQ1 := hide (hq1)
      clear hq1
      go_wp2_with fail
      refine (HT2.out _).mono ?_
      rintro e' w2 ⟨rfl, hq2⟩
      have HQ2 := hide (HQ1.out.trans hq2)
      clear hq2
      go_wp2_with fail
      refine (HP.out _).mono ?_
      rintro e' w3 ⟨rfl, hq3⟩
      have HQ3 := hide (HQ2.out.trans hq3)
      clear hq3
      go_wp2_with fail
      refine (HP2.out _).mono ?_
      rintro e' w4 ⟨rfl, hq4⟩
      have HQ4 := hide (HQ3.out.trans hq4)
      clear hq4
      go_wp2_with fail
      refine (HP3.out _).mono ?_
      rintro e' w5 ⟨rfl, hq5⟩
      have HQ5 := hide (HQ4.out.trans hq5)
      clear hq5
      go_wp2_with fail
      refine (HT3.out _).mono ?_
      rintro e' w6 ⟨rfl, hq6⟩
      have HQ6 := hide (HQ5.out.trans hq6)
      clear hq6
      go_wp2_with fail
      refine (known_any _).mono ?_
      rintro e' w7 ⟨rfl, hq7⟩
      have HQ7 := hide (HQ6.out.trans hq7)
      clear hq7
      go_wp2_with fail
      go_ret
      exact ⟨rfl, HQ7.out⟩
    · skip
      obtain ⟨rfl, rfl⟩ := h1 he
      subst he
      have hg2 : (g != 0) = true := by simpa using hg
      clear hg
      clear h1 h2
      go_enter Try.func9, Try.ntmps9
      go_wp2_with fail
      refine (HT.out _).mono ?_
      rintro e' w1 ⟨rfl, hq1⟩
      have HQ1 := hide (hq1)
      clear hq1
      go_wp2_with fail
      refine (HT2.out _).mono ?_
      rintro e' w2 ⟨rfl, hq2⟩
      have HQ2 := hide (HQ1.out.trans hq2)
      clear hq2
      go_wp2_with fail
      refine (HP.out _).mono ?_
      rintro e' w3 ⟨rfl, hq3⟩
      have HQ3 := hide (HQ2.out.trans hq3)
      clear hq3
      go_wp2_with fail
      refine (HP2.out _).mono ?_
      rintro e' w4 ⟨rfl, hq4⟩
      have HQ4 := hide (HQ3.out.trans hq4)
      clear hq4
      go_wp2_with fail
      refine (HP3.out _).mono ?_
      rintro e' w5 ⟨rfl, hq5⟩
      have HQ5 := hide (HQ4.out.trans hq5)
      clear hq5
      go_wp2_with fail
      refine (HT3.out _).mono ?_
      rintro e' w6 ⟨rfl, hq6⟩
      have HQ6 := hide (HQ5.out.trans hq6)
      clear hq6
      go_wp2_with fail
      refine (known_any _).mono ?_
      rintro e' w7 ⟨rfl, hq7⟩
      have HQ7 := hide (HQ6.out.trans hq7)
      clear hq7
      go_wp2_with fail
      go_ret
      exact ⟨rfl, HQ7.out⟩
  · by_cases hg : g = 0
    · skip
      have he2 : (e != 0) = true := by simpa using he
      clear he
      obtain ⟨rfl, rfl⟩ := h2 hg
      subst hg
      clear h1 h2
      go_enter Try.func9, Try.ntmps9
      go_wp2_with fail
      refine (HT.out _).mono ?_
      rintro e' w1 ⟨rfl, hq1⟩
      have HQ1 := hide (hq1)
      clear hq1
      go_wp2_with fail
      refine (HT2.out _).mono ?_
      rintro e' w2 ⟨rfl, hq2⟩
      have HQ2 := hide (HQ1.out.trans hq2)
      clear hq2
      go_wp2_with fail
      refine (HP.out _).mono ?_
      rintro e' w3 ⟨rfl, hq3⟩
      have HQ3 := hide (HQ2.out.trans hq3)
      clear hq3
      go_wp2_with fail
      refine (HP2.out _).mono ?_
      rintro e' w4 ⟨rfl, hq4⟩
      have HQ4 := hide (HQ3.out.trans hq4)
      clear hq4
      go_wp2_with fail
      refine (HP3.out _).mono ?_
      rintro e' w5 ⟨rfl, hq5⟩
      have HQ5 := hide (HQ4.out.trans hq5)
      clear hq5
      go_wp2_with fail
      refine (HT3.out _).mono ?_
      rintro e' w6 ⟨rfl, hq6⟩
      have HQ6 := hide (HQ5.out.trans hq6)
      clear hq6
      go_wp2_with fail
      refine (known_any _).mono ?_
      rintro e' w7 ⟨rfl, hq7⟩
      have HQ7 := hide (HQ6.out.trans hq7)
      clear hq7
      go_wp2_with fail
      go_ret
      exact ⟨rfl, HQ7.out⟩
    · skip
      have he2 : (e != 0) = true := by simpa using he
      clear he
      have hg2 : (g != 0) = true := by simpa using hg
      clear hg
      clear h1 h2
      go_enter Try.func9, Try.ntmps9
      go_wp2_with fail
      refine (HT.out _).mono ?_
      rintro e' w1 ⟨rfl, hq1⟩
      have HQ1 := hide (hq1)
      clear hq1
      go_wp2_with fail
      refine (HT2.out _).mono ?_
      rintro e' w2 ⟨rfl, hq2⟩
      have HQ2 := hide (HQ1.out.trans hq2)
      clear hq2
      go_wp2_with fail
      refine (HP.out _).mono ?_
      rintro e' w3 ⟨rfl, hq3⟩
      have HQ3 := hide (HQ2.out.trans hq3)
      clear hq3
      go_wp2_with fail
      refine (HP2.out _).mono ?_
      rintro e' w4 ⟨rfl, hq4⟩
      have HQ4 := hide (HQ3.out.trans hq4)
      clear hq4
      go_wp2_with fail
      refine (HP3.out _).mono ?_
      rintro e' w5 ⟨rfl, hq5⟩
      have HQ5 := hide (HQ4.out.trans hq5)
      clear hq5
      go_wp2_with fail
      refine (HT3.out _).mono ?_
      rintro e' w6 ⟨rfl, hq6⟩
      have HQ6 := hide (HQ5.out.trans hq6)
      clear hq6
      go_wp2_with fail
      refine (known_any _).mono ?_
      rintro e' w7 ⟨rfl, hq7⟩
      have HQ7 := hide (HQ6.out.trans hq7)
      clear hq7
      go_wp2_with fail
      go_ret
      exact ⟨rfl, HQ7.out⟩
end Go.Proofs.Ytcjljmegppnlcaa
