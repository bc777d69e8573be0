/- The walk of the law LexJoins. Conditions: the tokens' texts are as long as the form lets a string be. -/
import Derived.Test.YtofigpjabamnhaaLexJh
import Derived.Test.YtofigpjabamnhaaLexN
namespace Go.Proofs.Ytofigpjabamnhaa
open Go.RowKit LX
set_option linter.unusedVariables false
theorem lexF_nil : lexF (nat ⟨#[]⟩) = ([], 0, 0) := by decide
set_option maxHeartbeats 2000000 in
theorem LexJoins_true (A : Option Addr) (n c : Nat) (ks : List G) (w : World) (hG : GToks w A n c ks) (hb : ∀ g ∈ ks, g.2.2.size ≤ 140737488351232) :
    Calls Try.prog 7 #[.slice A n c] w fun e w' => e = .returned (.bool true) ∧ Q w w' := by
  have HG := hide hG
  by_cases hn : n ≤ 1200
  · by_cases hs : sumG ks ≤ 6000
    · have JL := Long_few A n c ks w hG hn hb
      rw [show decide (6000 < sumG ks) = false by simp; omega] at JL
      have J1 := fun w h => Join_any A n c ks w h hn hs
      have J2 := fun w h => rJoin_any A n c ks w h hn hs
      have hjs := joinS_size ks
      have hlen := hG.len
      have HJL := hide JL
      clear JL hb hG
      cases hA : allTok ks
      · simp only [hA, Bool.false_eq_true, if_false] at J1 J2
        have L := Lex_any ⟨#[]⟩
        rw [lexF_nil] at L
        have HJ1 := hide J1
        have HJ2 := hide J2
        have HL := hide L
        clear J1 J2 L hA hjs hlen
        go_enter Try.func7, Try.ntmps7
        go_wp2_with fail
        refine HJL.out.mono ?_
        rintro e w1 ⟨rfl, hq1⟩
        go_wp2_with fail
        refine (HJ1.out _ (HG.out.up hq1)).mono ?_
        rintro e w2 ⟨rfl, hq2⟩
        have hq12 := hq1.trans hq2
        go_wp2_with fail
        refine (HJ2.out _ (HG.out.up hq12)).mono ?_
        rintro e w3 ⟨rfl, hq3⟩
        have hq13 := hq12.trans hq3
        go_wp2_with fail
        refine (HL.out _).mono ?_
        rintro e w4 ⟨v4, rfl, hown4, hq4⟩
        go_wp2_with fail
        refine (known_any _).mono ?_
        rintro e w5 ⟨rfl, hq5⟩
        go_wp2_with fail
        go_ret
        exact ⟨rfl, (hq13.trans hq4).trans hq5⟩
      · simp only [hA, if_true] at J1 J2
        have hbk := join_back ks hA
        have L := Lex_any (joinS ks)
        have hll := lexF_len (nat (joinS ks))
        have eJ : (⟨(joinL ks).toArray⟩ : ByteArray) = joinS ks := rfl
        rw [eJ] at J1 J2
        generalize joinS ks = a at *
        obtain ⟨R, hR⟩ : ∃ R, lexF (nat a) = R := ⟨_, rfl⟩
        rw [hR] at L hbk hll
        obtain ⟨ts, m, er⟩ := R
        dsimp only at hbk hll
        have haa : (a.toList != a.toList) = false := by simp
        have haa2 : (a.toList == a.toList) = true := by simp
        have HJ1 := hide J1
        have HJ2 := hide J2
        have HL := hide L
        have HB := hide hbk
        clear J1 J2 L hA hjs hlen hR hbk eJ
        go_enter Try.func7, Try.ntmps7
        go_wp2_with fail
        refine HJL.out.mono ?_
        rintro e w1 ⟨rfl, hq1⟩
        go_wp2_with fail
        refine (HJ1.out _ (HG.out.up hq1)).mono ?_
        rintro e w2 ⟨rfl, hq2⟩
        have hq12 := hq1.trans hq2
        go_wp2_with fail
        refine (HJ2.out _ (HG.out.up hq12)).mono ?_
        rintro e w3 ⟨rfl, hq3⟩
        have hq13 := hq12.trans hq3
        go_wp2_with fail
        refine (HL.out _).mono ?_
        rintro e w4 ⟨v4, rfl, hown4, hq4⟩
        dsimp only at hown4
        obtain ⟨A4, c4, rfl, g4⟩ := gtoks_own hown4 hll
        have G4 := hide g4
        clear g4 hown4
        have hq14 := hq13.trans hq4
        have hB := HB.out
        rcases hB with hB | ⟨hB, hB2⟩
        · subst hB
          go_wp2_with fail
          refine (known_any _).mono ?_
          rintro e w5 ⟨rfl, hq5⟩
          go_wp2_with fail
          go_ret
          exact ⟨rfl, hq14.trans hq5⟩
        · subst hB
          have HB2 := hide hB2
          clear hB2
          go_wp2_with fail
          refine (Same_any _ _ _ _ _ _ _ _ _ G4.out (HG.out.up hq14)).mono ?_
          rintro e w5 ⟨rfl, hq5⟩
          rw [HB2.out]
          go_wp2_with fail
          refine (known_any _).mono ?_
          rintro e w6 ⟨rfl, hq6⟩
          go_wp2_with fail
          go_ret
          exact ⟨rfl, (hq14.trans hq5).trans hq6⟩
    · have JL := Long_few A n c ks w hG hn hb
      rw [show decide (6000 < sumG ks) = true by simp; omega] at JL
      have HJL := hide JL
      clear JL hb hG
      go_enter Try.func7, Try.ntmps7
      go_wp2_with fail
      refine HJL.out.mono ?_
      rintro e w1 ⟨rfl, hq1⟩
      go_wp2_with fail
      refine (known_any _).mono ?_
      rintro e w2 ⟨rfl, hq2⟩
      go_wp2_with fail
      go_ret
      exact ⟨rfl, hq1.trans hq2⟩
  · have JL := Long_many A n c ks w hG (by omega) hb
    have HJL := hide JL
    clear JL hb hG
    go_enter Try.func7, Try.ntmps7
    go_wp2_with fail
    refine HJL.out.mono ?_
    rintro e w1 ⟨rfl, hq1⟩
    go_wp2_with fail
    refine (known_any _).mono ?_
    rintro e w2 ⟨rfl, hq2⟩
    go_wp2_with fail
    go_ret
    exact ⟨rfl, hq1.trans hq2⟩
end Go.Proofs.Ytofigpjabamnhaa
