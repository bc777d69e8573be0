/- What comes of an edit, whole; the walk of the law LexApplies. Conditions: sizes as the law says. -/
import Derived.Test.YtofigpjabamnhaaLexF
namespace Go.Proofs.Ytofigpjabamnhaa
open Go.RowKit LX
set_option linter.unusedVariables false
/-- the text would be too large -/
theorem ed_large (s : ByteArray) (f t : Nat) (y : ByteArray) (r : List Tok × Nat × Nat) (hr : lexF (nat s) = r) (h : r.2.2 = 0) (hs : s.size ≤ 6000) (hy : y.size ≤ 6000) (h1 : f ≤ t) (h2 : t ≤ s.size) (h4 : 4000 < (editB s f t y).size) :
    Ed s f t y ⟨#[]⟩ 3 s ([], 0, 3) := by
  obtain ⟨ts, n, er⟩ := r
  dsimp only at h
  subst h
  have l1 := Lex_any s
  have l2 := rLex_any s
  rw [hr] at l1 l2
  have L1 := hide l1
  have L2 := hide l2
  have H4 := hide h4
  have d4 : decide (4000 < ((editB s f t y).size : Int)) = true := by simp; omega
  have l3 := rLex_any (editB s f t y)
  rw [show lexF (nat (editB s f t y)) = ([], 0, 3) by unfold lexF; rw [nat_length, if_pos h4]] at l3
  have L3 := hide l3
  clear l1 l2 l3 hr h4
  refine ⟨by simp, fun e => by omega, fun w => ?_, fun w => ?_, fun w => ?_, fun w => ?_⟩
  · skip
    go_enter Try.func15, Try.ntmps15
    go_wp2_with fail
    refine (L1.out _).mono ?_
    rintro e w1 ⟨v1, rfl, hown1, hq1⟩
    have hq0 := ((Q.refl w).alloc _).trans hq1
    obtain ⟨hc1, hf1, hz1⟩ := hq1.facts
    have hs0 : w.heap.size < w1.heap.size := by simp at hz1; omega
    clear hown1
    go_wp2_with fail
    refine (edited_large s f t y _ hs hy h1 h2 H4.out).mono ?_
    rintro e w2 ⟨rfl, hq2⟩
    go_wp2_with fail
    go_ret2
    exact ⟨rfl, hq0.trans hq2⟩
  · skip
    go_enter Try.func16, Try.ntmps16
    go_wp2_with fail
    refine (L2.out _).mono ?_
    rintro e w1 ⟨v1, rfl, hown1, hq1⟩
    have hq0 := ((Q.refl w).alloc _).trans hq1
    obtain ⟨hc1, hf1, hz1⟩ := hq1.facts
    have hs0 : w.heap.size < w1.heap.size := by simp at hz1; omega
    clear hown1
    go_wp2_with fail
    refine (redited_yes s f t y _ hs hy h1 h2).mono ?_
    rintro e w2 ⟨rfl, hq2⟩
    go_wp2_with fail
    go_ret2
    exact ⟨rfl, hq0.trans hq2⟩
  · skip
    go_enter Try.func17, Try.ntmps17
    go_wp2_with fail
    refine (L1.out _).mono ?_
    rintro e w1 ⟨v1, rfl, hown1, hq1⟩
    have hq0 := ((Q.refl w).alloc _).trans hq1
    obtain ⟨hc1, hf1, hz1⟩ := hq1.facts
    have hs0 : w.heap.size < w1.heap.size := by simp at hz1; omega
    clear hown1
    go_wp2_with fail
    refine (edited_large s f t y _ hs hy h1 h2 H4.out).mono ?_
    rintro e w2 ⟨rfl, hq2⟩
    go_wp2_with fail
    go_ret3
    exact ⟨_, rfl, World.ownsRow_nil _ _ _ _, hq0.trans hq2⟩
  · skip
    go_enter Try.func18, Try.ntmps18
    go_wp2_with fail
    refine (L2.out _).mono ?_
    rintro e w1 ⟨v1, rfl, hown1, hq1⟩
    have hq0 := ((Q.refl w).alloc _).trans hq1
    obtain ⟨hc1, hf1, hz1⟩ := hq1.facts
    have hs0 : w.heap.size < w1.heap.size := by simp at hz1; omega
    clear hown1
    go_wp2_with fail
    refine (redited_yes s f t y _ hs hy h1 h2).mono ?_
    rintro e w2 ⟨rfl, hq2⟩
    go_wp2_with fail
    refine (L3.out _).mono ?_
    rintro e w3 ⟨v3, rfl, hown3, hq3⟩
    obtain ⟨Ao, co, rfl, ho1, ho2, ho3, -⟩ := own_form hown3
    have hn := hown3.mono ((hq0.trans hq2).size)
    have HNIL := hide hn
    clear hown3 ho3 hn
    go_wp2_with fail
    go_ret3
    exact ⟨_, rfl, HNIL.out, (hq0.trans hq2).trans hq3⟩
/-- the edit is done -/
theorem ed_ok (s : ByteArray) (f t : Nat) (y : ByteArray) (r : List Tok × Nat × Nat) (hr : lexF (nat s) = r) (h : r.2.2 = 0) (hs : s.size ≤ 6000) (hy : y.size ≤ 6000) (h1 : f ≤ t) (h2 : t ≤ s.size) (h4 : (editB s f t y).size ≤ 4000) :
    Ed s f t y (editB s f t y) 0 (editB s f t y) (lexF (nat (editB s f t y))) := by
  obtain ⟨ts, n, er⟩ := r
  dsimp only at h
  subst h
  have l1 := Lex_any s
  have l2 := rLex_any s
  rw [hr] at l1 l2
  have L1 := hide l1
  have L2 := hide l2
  have H4 := hide h4
  have d4 : decide (4000 < ((editB s f t y).size : Int)) = false := by simp; omega
  have l3 := Lex_any (editB s f t y)
  have l4 := rLex_any (editB s f t y)
  have L3 := hide l3
  have L4 := hide l4
  have hlen := lexF_len (nat (editB s f t y))
  clear l1 l2 l3 l4 hr h4
  refine ⟨hlen, fun e => ⟨rfl, rfl⟩, fun w => ?_, fun w => ?_, fun w => ?_, fun w => ?_⟩
  · skip
    go_enter Try.func15, Try.ntmps15
    go_wp2_with fail
    refine (L1.out _).mono ?_
    rintro e w1 ⟨v1, rfl, hown1, hq1⟩
    have hq0 := ((Q.refl w).alloc _).trans hq1
    obtain ⟨hc1, hf1, hz1⟩ := hq1.facts
    have hs0 : w.heap.size < w1.heap.size := by simp at hz1; omega
    clear hown1
    go_wp2_with fail
    refine (edited_yes s f t y _ hs hy h1 h2 H4.out).mono ?_
    rintro e w2 ⟨rfl, hq2⟩
    go_wp2_with fail
    go_ret2
    exact ⟨rfl, hq0.trans hq2⟩
  · skip
    go_enter Try.func16, Try.ntmps16
    go_wp2_with fail
    refine (L2.out _).mono ?_
    rintro e w1 ⟨v1, rfl, hown1, hq1⟩
    have hq0 := ((Q.refl w).alloc _).trans hq1
    obtain ⟨hc1, hf1, hz1⟩ := hq1.facts
    have hs0 : w.heap.size < w1.heap.size := by simp at hz1; omega
    clear hown1
    go_wp2_with fail
    refine (redited_yes s f t y _ hs hy h1 h2).mono ?_
    rintro e w2 ⟨rfl, hq2⟩
    go_wp2_with fail
    go_ret2
    exact ⟨rfl, hq0.trans hq2⟩
  · skip
    go_enter Try.func17, Try.ntmps17
    go_wp2_with fail
    refine (L1.out _).mono ?_
    rintro e w1 ⟨v1, rfl, hown1, hq1⟩
    have hq0 := ((Q.refl w).alloc _).trans hq1
    obtain ⟨hc1, hf1, hz1⟩ := hq1.facts
    have hs0 : w.heap.size < w1.heap.size := by simp at hz1; omega
    clear hown1
    go_wp2_with fail
    refine (edited_yes s f t y _ hs hy h1 h2 H4.out).mono ?_
    rintro e w2 ⟨rfl, hq2⟩
    go_wp2_with fail
    refine (L3.out _).mono ?_
    rintro e w3 ⟨v3, rfl, hown3, hq3⟩
    have hq03 := (hq0.trans hq2)
    have hown4 := hown3.mono hq03.size
    have HO := hide hown4
    clear hown3 hown4
    go_wp2_with fail
    go_ret3
    exact ⟨_, rfl, HO.out, hq03.trans hq3⟩
  · skip
    go_enter Try.func18, Try.ntmps18
    go_wp2_with fail
    refine (L2.out _).mono ?_
    rintro e w1 ⟨v1, rfl, hown1, hq1⟩
    have hq0 := ((Q.refl w).alloc _).trans hq1
    obtain ⟨hc1, hf1, hz1⟩ := hq1.facts
    have hs0 : w.heap.size < w1.heap.size := by simp at hz1; omega
    clear hown1
    go_wp2_with fail
    refine (redited_yes s f t y _ hs hy h1 h2).mono ?_
    rintro e w2 ⟨rfl, hq2⟩
    go_wp2_with fail
    refine (L4.out _).mono ?_
    rintro e w3 ⟨v3, rfl, hown3, hq3⟩
    have hq03 := (hq0.trans hq2)
    have hown4 := hown3.mono hq03.size
    have HO := hide hown4
    clear hown3 hown4
    go_wp2_with fail
    go_ret3
    exact ⟨_, rfl, HO.out, hq03.trans hq3⟩
theorem edit_all (s : ByteArray) (f t : Int) (y : ByteArray) (hs : s.size ≤ 6000) (hy : y.size ≤ 6000) : ∃ a e src r, Ed s f t y a e src r := by
  by_cases h : (lexF (nat s)).2.2 = 0
  · by_cases hn : eOk f t s.size
    · obtain ⟨k1, k2, k3⟩ := hn
      obtain ⟨f', rfl⟩ := Int.eq_ofNat_of_zero_le k1
      obtain ⟨t', rfl⟩ := Int.eq_ofNat_of_zero_le (show 0 ≤ t by omega)
      by_cases h4 : (editB s f' t' y).size ≤ 4000
      · exact ⟨_, _, _, _, ed_ok s f' t' y _ rfl h hs hy (by omega) (by omega) h4⟩
      · exact ⟨_, _, _, _, ed_large s f' t' y _ rfl h hs hy (by omega) (by omega) (by omega)⟩
    · exact ⟨_, _, _, _, ed_no s f t y _ rfl h hn⟩
  · exact ⟨_, _, _, _, ed_err s f t y _ rfl h⟩
theorem LexApplies_long (s : ByteArray) (f t : Int) (y : ByteArray) (w : World) (h : 6000 < s.size ∨ 6000 < y.size) : Calls Try.prog 5 #[.string s, edV f t y] w fun e w' => e = .returned (.bool true) ∧ Q w w' := by
  by_cases h1 : 6000 < s.size
  · have d1 : decide (6000 < (s.size : Int)) = true := by simp; omega
    clear h
    go_enter Try.func5, Try.ntmps5
    go_wp2_with fail
    refine (known_any _).mono ?_
    rintro e w1 ⟨rfl, hq⟩
    go_wp2_with fail
    go_ret
    exact ⟨rfl, ((Q.refl w).alloc _).trans hq⟩
  · have d1 : decide (6000 < (s.size : Int)) = false := by simp; omega
    have d2 : decide (6000 < (y.size : Int)) = true := by simp; omega
    clear h
    go_enter Try.func5, Try.ntmps5
    go_wp2_with fail
    refine (known_any _).mono ?_
    rintro e w1 ⟨rfl, hq⟩
    go_wp2_with fail
    go_ret
    exact ⟨rfl, ((Q.refl w).alloc _).trans hq⟩
set_option maxRecDepth 100000 in
set_option maxHeartbeats 1000000 in
theorem LexApplies_main (s : ByteArray) (f t : Int) (y : ByteArray) (w : World) (hs : s.size ≤ 6000) (hy : y.size ≤ 6000) : Calls Try.prog 5 #[.string s, edV f t y] w fun e w' => e = .returned (.bool true) ∧ Q w w' := by
  obtain ⟨a, er, src, ⟨ts, n, ee⟩, hE⟩ := edit_all s f t y hs hy
  have hlen := hE.len
  dsimp only at hlen
  have E := hide hE
  have d1 : decide (6000 < (s.size : Int)) = false := by simp; omega
  have d2 : decide (6000 < (y.size : Int)) = false := by simp; omega
  clear hE
  go_enter Try.func5, Try.ntmps5
  go_wp2_with fail
  refine (E.out.ap _).mono ?_
  rintro e w1 ⟨rfl, hq1⟩
  have hq01 := ((Q.refl w).alloc _).trans hq1
  have hc1 := hq1.facts.1
  have hs1 : w.heap.size < w1.heap.size := by have := hq1.size; simp at this; omega
  have hsa1 : w.heap.size < (w.alloc (.cells #[.int .i64 f, .int .i64 t, .string y] 30)).heap.size := by simp
  go_wp2_with fail
  refine (E.out.rap _).mono ?_
  rintro e w2 ⟨rfl, hq2⟩
  have hc2 := hq2.facts.1
  have hs2 : w.heap.size < w2.heap.size := by have := hq2.size; omega
  go_wp2_with fail
  refine (E.out.rel _).mono ?_
  rintro e w3 ⟨v3, rfl, hown3, hq3⟩
  have hc3 := hq3.facts.1
  have hs3 : w.heap.size < w3.heap.size := by have := hq3.size; omega
  go_wp2_with fail
  refine (E.out.rrel _).mono ?_
  rintro e w4 ⟨v4, rfl, hown4, hq4⟩
  have hc4 := hq4.facts.1
  dsimp only at hown3 hown4
  obtain ⟨A3, c3, rfl, g3⟩ := gtoks_own hown3 hlen
  obtain ⟨A4, c4, rfl, g4⟩ := gtoks_own hown4 hlen
  have G3 := hide (g3.up hq4)
  have G4 := hide g4
  have hq04 := ((hq01.trans hq2).trans hq3).trans hq4
  clear g3 g4 hown3 hown4 hc1 hc2 hc3 hc4
  have e1 : (a.toList != a.toList) = false := by simp
  have e2 : (a.toList == a.toList) = true := by simp
  go_wp2_with fail
  refine (Equal_eq _ _ _ _ _ _ _ G3.out G4.out).mono ?_
  rintro e w5 ⟨rfl, hq5⟩
  have hq05 := hq04.trans hq5
  by_cases he : er = 0
  · obtain ⟨hsa, hlx⟩ := E.out.ok he
    subst hsa he
    have l6 := Lex_any src
    rw [hlx] at l6
    have L6 := hide l6
    clear l6 hlx
    go_wp2_with fail
    refine (L6.out _).mono ?_
    rintro e w6 ⟨v6, rfl, hown6, hq6⟩
    dsimp only at hown6
    obtain ⟨A6, c6, rfl, g6⟩ := gtoks_own hown6 hlen
    have G6 := hide g6
    have G3' := hide ((G3.out.up hq5).up hq6)
    clear g6 hown6
    go_wp2_with fail
    refine (Equal_eq _ _ _ _ _ _ _ G6.out G3'.out).mono ?_
    rintro e w7 ⟨rfl, hq7⟩
    go_wp2_with fail
    refine (known_any _).mono ?_
    rintro e w8 ⟨rfl, hq8⟩
    go_wp2_with fail
    go_ret
    exact ⟨rfl, ((hq05.trans hq6).trans hq7).trans hq8⟩
  · have hed : ((er : Int) != 0) = true := by simp; omega
    go_wp2_with fail
    refine (known_any _).mono ?_
    rintro e w8 ⟨rfl, hq8⟩
    go_wp2_with fail
    go_ret
    exact ⟨rfl, hq05.trans hq8⟩
theorem LexApplies_true (s : ByteArray) (f t : Int) (y : ByteArray) (w : World) : Calls Try.prog 5 #[.string s, edV f t y] w fun e w' => e = .returned (.bool true) ∧ Q w w' := by
  by_cases h : 6000 < s.size ∨ 6000 < y.size
  · exact LexApplies_long s f t y w h
  · exact LexApplies_main s f t y w (by omega) (by omega)
end Go.Proofs.Ytofigpjabamnhaa
