/- The walks of the laws' known and of LexTokens. Conditions: none. -/
import Derived.Test.YtofigpjabamnhaaDoorLexE
namespace Go.Proofs.YtofigpjabamnhaaDoor
open Go.RowKit LX
set_option linter.unusedVariables false
theorem known_any (w : World) : Calls Tryd.prog 8 #[] w fun e w' => e = .returned (.bool true) ∧ Q w w' := by
  have l1 := Lex_any ⟨#[97, 43, 37, 49, 117, 56]⟩
  have l2 := Lex_any ⟨#[120, 32, 36]⟩
  rw [show lexF (nat ⟨#[97, 43, 37, 49, 117, 56]⟩) = ([(0, 0, 1), (2, 1, 2), (1, 3, 3)], 3, 0) from by decide +kernel] at l1
  rw [show lexF (nat ⟨#[120, 32, 36]⟩) = ([], 2, 2) from by decide +kernel] at l2
  have L1 := hide l1
  have L2 := hide l2
  clear l1 l2
  go_enter Tryd.func8, Tryd.ntmps8
  go_wp2_with fail
  refine (L1.out _).mono ?_
  rintro e w1 ⟨v1, rfl, hown1, hq1⟩
  go_wp2_with fail
  refine (L2.out _).mono ?_
  rintro e w2 ⟨v2, rfl, hown2, hq2⟩
  obtain ⟨g, c, rfl, hg, hgl, hc, hm, hcell, hfz⟩ := own_at (own_q hown1 hq2) (by simp)
  have k0 := hcell 3 (.int .i64 2) rfl
  have k1 := hcell 4 (.int .i64 1) rfl
  have k2 := hcell 5 (.string ⟨#[43, 37]⟩) rfl
  obtain ⟨A2, c2, rfl, h21, h22, h23, -⟩ := own_form hown2
  clear hown1 hown2 hcell hfz h23
  go_wp2_with fail
  go_ret
  exact ⟨rfl, hq1.trans hq2⟩
theorem lexF_len (l : List Nat) : (lexF l).1.length ≤ 1000 := by
  unfold lexF
  split
  · simp
  · split
    · simp
    · split
      · simp
      · simp; omega
theorem gtoks_own {w : World} {B : Nat} {v : Value} {s : ByteArray} {ts : List Tok} (h : w.ownsRow B 39 3 v ts.length (tflat s ts)) (hn : ts.length ≤ 1000) :
    ∃ A c, v = .slice A ts.length c ∧ GToks w A ts.length c (ts.map (gOf s)) := by
  obtain ⟨A, c, rfl, h1, h2, h3, hr⟩ := own_form h
  exact ⟨A, c, rfl, ⟨by rw [← gflat_of]; exact hr, by simp, h1, by omega⟩⟩
end Go.Proofs.YtofigpjabamnhaaDoor
