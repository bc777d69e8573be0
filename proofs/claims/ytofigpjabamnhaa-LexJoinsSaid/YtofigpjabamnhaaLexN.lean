/- The walks of package lex's Same and of the law LexSames. Conditions: the slices read as tokens. -/
import Derived.Test.YtofigpjabamnhaaLexO
namespace Go.Proofs.Ytofigpjabamnhaa
open Go.RowKit LX
set_option linter.unusedVariables false
abbrev gV (g : G) : Value := .agg #[.int .i64 g.1, .int .i64 g.2.1, .string g.2.2]
theorem same1_any (k1 a1 : Int) (t1 : ByteArray) (k2 a2 : Int) (t2 : ByteArray) (w : World) :
    Calls Try.prog 31 #[.agg #[.int .i64 k1, .int .i64 a1, .string t1], .agg #[.int .i64 k2, .int .i64 a2, .string t2]] w fun e w' => e = .returned (.bool (sameG (k1, a1, t1) (k2, a2, t2))) ∧ Q w w' := by
  unfold sameG
  dsimp only
  cases hk : k1 == k2
  · go_enter Try.func31, Try.ntmps31
    go_wp2_with fail
    go_ret
    exact ⟨by simp [hk], ((Q.refl w).alloc _).alloc _⟩
  · cases ht : t1.toList == t2.toList
    · go_enter Try.func31, Try.ntmps31
      go_wp2_with fail
      go_ret
      exact ⟨by simp [hk, ht], ((Q.refl w).alloc _).alloc _⟩
    · go_enter Try.func31, Try.ntmps31
      go_wp2_with fail
      go_ret
      exact ⟨by simp [hk, ht], ((Q.refl w).alloc _).alloc _⟩
set_option maxHeartbeats 1000000 in
theorem eqFunc_any (A1 : Option Addr) (n1 c1 : Nat) (ks : List G) (A2 : Option Addr) (n2 c2 : Nat) (ls : List G) (w : World) (h1 : GToks w A1 n1 c1 ks) (h2 : GToks w A2 n2 c2 ls) :
    Calls Try.prog 30 #[.slice A1 n1 c1, .slice A2 n2 c2, .func (.func 31) #[] #[]] w fun e w' => e = .returned (.bool (sameB ks ls)) ∧ Q w w' := by
  have l1 := h1.len
  have l2 := h2.len
  have m1 : (n1 : Int) ≤ 4611686018427387903 := by have := h1.most; omega
  have H1 := hide h1
  have H2 := hide h2
  by_cases hn : n1 = n2
  · have hd : ((n1 : Int) != (n2 : Int)) = false := by simp; omega
    have L1 := hide l1
    have L2 := hide l2
    have HN := hide hn
    clear l1 l2 h1 h2 hn
    go_enter Try.func30, Try.ntmps30
    go_wp2_with fail
    go_loopw [17] (fun v wr => ∃ i : Nat, i ≤ n1 ∧ v = .int .i64 i ∧ (∀ j a b, j < i → ks[j]? = some a → ls[j]? = some b → sameG a b = true) ∧ Q w wr) (fun v _ => n1 - (intOf v).toNat)
    case atStart => exact ⟨0, by omega, by go_num, fun j a b hj => by omega, Q.refl _⟩
    case round =>
      obtain ⟨i, hi, rfl, hall, hq⟩ := hrel
      have HALL := hide hall
      clear hall
      have hii : (i : Int) ≤ (n1 : Int) := by omega
      have hsz := hq.size
      by_cases hlt : i < n1
      · have hd0 : decide (i < n1) = true := by simpa using hlt
        have hlti : (i : Int) < (n1 : Int) := by omega
        have hlti2 : (i : Int) < (n2 : Int) := by have := HN.out; omega
        obtain ⟨b1, o1, k1, a1, t1, rfl, hb1, g1, x1, x2, x3⟩ := (H1.out.up hq).at_ i hlt
        obtain ⟨b2, o2, k2, a2, t2, rfl, hb2, g2, y1, y2, y3⟩ := (H2.out.up hq).at_ i (by have := HN.out; omega)
        have G1 := hide g1
        have G2 := hide g2
        clear g1 g2
        go_wp2_with fail
        refine (same1_any k1 a1 t1 k2 a2 t2 _).mono ?_
        rintro e w3 ⟨rfl, hq3⟩
        have hq2 : Q w w3 := ((hq.alloc _).alloc _).trans hq3
        cases hs : sameG (k1, a1, t1) (k2, a2, t2)
        · have hf := sameB_false ks ls i _ _ G1.out G2.out hs
          have HF := hide hf
          clear hf hs x1 x2 x3 y1 y2 y3
          go_wp2_with fail
          go_ret
          exact ⟨ret_bool HF.out.symm, hq2⟩
        · have HS := hide hs
          clear hs x1 x2 x3 y1 y2 y3
          go_wp2_with fail
          go_roundw
          case rel => exact ⟨i + 1, by omega, by go_num, fun j a b hj ha hb => by
            by_cases e : j = i
            · subst e
              rw [G1.out] at ha
              rw [G2.out] at hb
              cases ha
              cases hb
              exact HS.out
            · exact HALL.out j a b (by omega) ha hb, hq2⟩
          case measure => simp [intOf] <;> omega
      · have hd0 : decide (i < n1) = false := by simpa using hlt
        have hs := sameB_true ks ls (by rw [L1.out, L2.out, HN.out]) (fun j a b ha hb => HALL.out j a b (by have := (List.getElem?_eq_some_iff.1 ha).1; have := L1.out; omega) ha hb)
        have HS := hide hs
        clear hs
        go_wp2_with fail
        go_ret
        exact ⟨ret_bool HS.out.symm, hq⟩
  · have hd : ((n1 : Int) != (n2 : Int)) = true := by simp; omega
    have hf := sameB_len ks ls (by omega)
    have HF := hide hf
    clear l1 l2 h1 h2 hf
    go_enter Try.func30, Try.ntmps30
    go_wp2_with fail
    go_ret
    exact ⟨ret_bool HF.out.symm, Q.refl _⟩
theorem Same_any (A1 : Option Addr) (n1 c1 : Nat) (ks : List G) (A2 : Option Addr) (n2 c2 : Nat) (ls : List G) (w : World) (h1 : GToks w A1 n1 c1 ks) (h2 : GToks w A2 n2 c2 ls) :
    Calls Try.prog 13 #[.slice A1 n1 c1, .slice A2 n2 c2] w fun e w' => e = .returned (.bool (sameB ks ls)) ∧ Q w w' := by
  have H1 := hide h1
  have H2 := hide h2
  clear h1 h2
  go_enter Try.func13, Try.ntmps13
  go_wp2_with fail
  refine (eqFunc_any _ _ _ _ _ _ _ _ _ H1.out H2.out).mono ?_
  rintro e w1 ⟨rfl, hq⟩
  go_wp2_with fail
  go_ret
  exact ⟨rfl, hq⟩
theorem LexSames_true (A1 : Option Addr) (n1 c1 : Nat) (ks : List G) (A2 : Option Addr) (n2 c2 : Nat) (ls : List G) (w : World) (h1 : GToks w A1 n1 c1 ks) (h2 : GToks w A2 n2 c2 ls) :
    Calls Try.prog 4 #[.slice A1 n1 c1, .slice A2 n2 c2] w fun e w' => e = .returned (.bool true) ∧ Q w w' := by
  have H1 := hide h1
  have H2 := hide h2
  clear h1 h2
  obtain ⟨b, hb⟩ : ∃ b, sameB ks ls = b := ⟨_, rfl⟩
  have HB := hide hb
  clear hb
  go_enter Try.func4, Try.ntmps4
  go_wp2_with fail
  refine (Same_any _ _ _ _ _ _ _ _ _ H1.out H2.out).mono ?_
  rintro e w1 ⟨rfl, hq1⟩
  rw [HB.out]
  go_wp2_with fail
  refine (rSame_any _ _ _ _ _ _ _ _ _ (H1.out.up hq1) (H2.out.up hq1)).mono ?_
  rintro e w2 ⟨rfl, hq2⟩
  rw [HB.out]
  have hbb : (b == b) = true := by simp
  go_wp2_with fail
  refine (Same_any _ _ _ _ _ _ _ _ _ (H1.out.up (hq1.trans hq2)) (H1.out.up (hq1.trans hq2))).mono ?_
  rintro e w3 ⟨rfl, hq3⟩
  rw [sameB_refl]
  go_wp2_with fail
  refine (known_any _).mono ?_
  rintro e w4 ⟨rfl, hq4⟩
  go_wp2_with fail
  go_ret
  exact ⟨rfl, ((hq1.trans hq2).trans hq3).trans hq4⟩
end Go.Proofs.Ytofigpjabamnhaa
