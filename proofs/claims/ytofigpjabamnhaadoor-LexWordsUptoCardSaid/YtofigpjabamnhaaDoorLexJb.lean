/- The walk of the reference's isToken. Conditions: the text is not long. -/
import Derived.Test.YtofigpjabamnhaaDoorLexJa
namespace Go.Proofs.YtofigpjabamnhaaDoor
open Go.RowKit LX
set_option linter.unusedVariables false
/-- a text is one token of a kind -/
def isTokB (k : Int) (t : ByteArray) : Bool :=
  match toksF (nat t) with
  | ([x], none) => ((x.1 : Int) == k) && ((t.extract x.2.1 (x.2.1 + x.2.2)).toList == t.toList)
  | _ => false
theorem gtoks_own6 {w : World} {B : Nat} {v : Value} {s : ByteArray} {ts : List Tok} (h : w.ownsRow B 39 3 v ts.length (tflat s ts)) (hn : ts.length ≤ 4000000) :
    ∃ A c, v = .slice A ts.length c ∧ GToks w A ts.length c (ts.map (gOf s)) := by
  obtain ⟨A, c, rfl, h1, h2, h3, hr⟩ := own_form h
  exact ⟨A, c, rfl, ⟨by rw [← gflat_of]; exact hr, by simp, h1, by omega⟩⟩
theorem risTok_any (k : Int) (t : ByteArray) (w : World) (hs : t.size ≤ 2000000) :
    Calls Tryd.prog 11 #[.int .i64 k, .string t] w fun e w' => e = .returned (.bool (isTokB k t)) ∧ Q w w' := by
  have hr := rtokens_any t
  have hlen := toks_length ((nat t).length + 1) (nat t) 0
  obtain ⟨b, hb⟩ : ∃ b, isTokB k t = b := ⟨_, rfl⟩
  have hb' := hb
  unfold isTokB at hb'
  have hT : toks ((nat t).length + 1) (nat t) 0 = toksF (nat t) := rfl
  rw [hT, nat_length] at hlen
  obtain ⟨⟨ts, bad⟩, hR⟩ : ∃ R, toksF (nat t) = R := ⟨_, rfl⟩
  rw [hR] at hr hlen hb'
  rw [hb]
  dsimp only at hlen
  have HR := hide hr
  have HB := hide hb'
  clear hr hR hT hb hb'
  go_enter Tryd.func11, Tryd.ntmps11
  go_wp2_with fail
  refine (HR.out _ (by omega)).mono ?_
  rintro e w1 h
  rcases h with ⟨h1, v, rfl, hown, hq⟩ | ⟨p, h1, rfl, hq⟩
  · dsimp only at h1 hown
    subst h1
    obtain ⟨A, c, rfl, g⟩ := gtoks_own6 hown (by omega)
    clear hown
    have hli : (ts.length : Int) ≤ 2000000 := by omega
    by_cases hl : ts.length = 1
    · obtain ⟨⟨xk, xp, xm⟩, rfl⟩ := List.length_eq_one_iff.1 hl
      have hb := HB.out
      simp only at hb
      have G := hide g
      clear g hl
      obtain ⟨b1, o1, k1, a1, t1, rfl, hb1, g1, x1, x2, x3⟩ := G.out.at_ 0 (by simp)
      simp [gOf] at g1
      obtain ⟨rfl, rfl, rfl⟩ := g1
      simp only [Nat.zero_mul, Nat.add_zero] at x1 x2 x3
      cases e1 : ((xk : Int) == k)
      · rw [e1, Bool.false_and] at hb
        subst hb
        go_wp2_with fail
        go_ret
        exact ⟨rfl, hq⟩
      · rw [e1, Bool.true_and] at hb
        go_wp2_with fail
        go_ret
        exact ⟨rfl, hq⟩
    · have hb : b = false := by
        rw [← HB.out]
        rcases ts with _ | ⟨x, _ | ⟨y, ts⟩⟩
        · rfl
        · exact absurd rfl hl
        · rfl
      subst hb
      have d1 : ((ts.length : Int) == 1) = false := by simp; omega
      have d2 : (ts.length == 1) = false := by simpa using hl
      go_wp2_with fail
      go_ret
      exact ⟨rfl, hq⟩
  · dsimp only at h1
    subst h1
    have hb : b = false := by
      rw [← HB.out]
      rcases ts with _ | ⟨x, _ | ⟨y, ts⟩⟩ <;> rfl
    subst hb
    go_wp2_with fail
    go_ret
    exact ⟨rfl, hq⟩
end Go.Proofs.YtofigpjabamnhaaDoor
