/- The walks of the laws NumLoose, NumNegates, NumTypes: each returns true. Conditions: none. -/
import Derived.Test.YtcjljmegppnlcaaNumW
import Derived.Test.YtcjljmegppnlcaaNumX
namespace Go.Proofs.Ytcjljmegppnlcaa
open Go.RowKit NP
set_option linter.unusedVariables false

theorem fits_lo_hi (s : Bool) (b n : Int) (h1 : lo s b ≤ n) (h2 : n ≤ hi s b) : fitsB s b n = true := by rw [fits_iff]; exact ⟨h1, h2⟩
theorem loose_fits (op : Int) (s : Bool) (b x y : Int) (ha : askB op s b x y = true) : fitsB s b (doN op s b x y).1 = true := by
  obtain ⟨⟨h1, h2⟩, ⟨h3, h4⟩, hx, hy⟩ := askB_parts ha
  have hb := lo_hi s b h1 h2
  have hw : ∀ n, fitsB s b (wrapS s b n) = true := fun n => by
    have := wrapS_bd s b n h1 h2
    exact fits_lo_hi s b _ this.1 this.2
  have hn : ∀ n, fitsB s b (nearS s b n) = true := fun n => by
    apply fits_lo_hi <;> unfold nearS <;> (repeat' split) <;> omega
  unfold doN
  split
  · exact fits_lo_hi s b 0 hb.2.1 hb.2.2.1
  · split
    · exact hx
    · split
      · exact hw _
      · split
        · exact hn _
        · split
          · exact hw _
          · rename_i h
            simp only [not_or, Bool.not_eq_false] at h
            exact h.1
theorem loose_typ (op : Int) (s : Bool) (b x y : Int) : (looseF op s b x y).2 = 0 → typB b (fitsB s b (looseF op s b x y).1) = (true, 0) := by
  unfold looseF
  cases ha : askB op s b x y
  · simp
  · intro _
    simp only [if_true]
    rw [loose_fits op s b x y ha]
    obtain ⟨hv, _⟩ := askB_parts ha
    unfold typB
    rw [if_pos hv]
theorem NumLoose_walk (op : Int) (s : Bool) (b x y : Int) (w : World) :
    Calls Try.prog 6 #[.int .i64 op, .agg #[.bool s, .int .i64 b], .agg #[.int .i64 x, .int .i64 y]] w fun e w' => e = .returned (.bool true) ∧ Q w w' := by
  have c1 := Loose_any op s b x y
  have hp := loose_typ op s b x y
  generalize looseF op s b x y = L at *
  obtain ⟨l1, l2⟩ := L
  dsimp only at c1 hp
  have c2 := numFits_any s b l1
  have C1 := hide c1
  clear c1
  by_cases h0 : l2 = 0
  · have e := hp h0
    rw [e] at c2
    subst h0
    have C2 := hide c2
    clear c2 hp e
    go_enter Try.func6, Try.ntmps6
    go_wp2_with fail
    refine (C1.out _).mono ?_
    rintro e w1 ⟨rfl, hqw1⟩
    obtain ⟨hcw1, hfw1, hzw1⟩ := hqw1.facts
    try simp at hzw1
    try have hs0w1 : w.heap.size < w1.heap.size := by omega
    try have hs1w1 : w.heap.size + 1 < w1.heap.size := by omega
    go_wp2_with fail
    refine (C2.out _).mono ?_
    rintro e w2 ⟨rfl, hqw2⟩
    obtain ⟨hcw2, hfw2, hzw2⟩ := hqw2.facts
    try simp at hzw2
    try have hs0w2 : w.heap.size < w2.heap.size := by omega
    try have hs1w2 : w.heap.size + 1 < w2.heap.size := by omega
    go_wp2_with fail
    refine (known_any _).mono ?_
    rintro e w5 ⟨rfl, hqw5⟩
    obtain ⟨hcw5, hfw5, hzw5⟩ := hqw5.facts
    try simp at hzw5
    try have hs0w5 : w.heap.size < w5.heap.size := by omega
    try have hs1w5 : w.heap.size + 1 < w5.heap.size := by omega
    go_wp2_with fail
    go_ret
    exact ⟨rfl, (by repeat (first | exact Q.refl _ | assumption | refine Q.drew ?_ | refine Q.drewN ?_ _ | refine Q.alloc ?_ _ | refine Q.set ?_ (by first | (simp; done) | (simp; omega) | omega) _ | refine Q.trans ?_ (by assumption)))⟩
  · have h0b : (l2 != 0) = true := by simpa using h0
    have C2 := hide c2
    clear c2 hp
    generalize typB b (fitsB s b l1) = T at *
    obtain ⟨t1, t2⟩ := T
    dsimp only at C2
    go_enter Try.func6, Try.ntmps6
    go_wp2_with fail
    refine (C1.out _).mono ?_
    rintro e w1 ⟨rfl, hqw1⟩
    obtain ⟨hcw1, hfw1, hzw1⟩ := hqw1.facts
    try simp at hzw1
    try have hs0w1 : w.heap.size < w1.heap.size := by omega
    try have hs1w1 : w.heap.size + 1 < w1.heap.size := by omega
    go_wp2_with fail
    refine (C2.out _).mono ?_
    rintro e w2 ⟨rfl, hqw2⟩
    obtain ⟨hcw2, hfw2, hzw2⟩ := hqw2.facts
    try simp at hzw2
    try have hs0w2 : w.heap.size < w2.heap.size := by omega
    try have hs1w2 : w.heap.size + 1 < w2.heap.size := by omega
    go_wp2_with fail
    refine (known_any _).mono ?_
    rintro e w5 ⟨rfl, hqw5⟩
    obtain ⟨hcw5, hfw5, hzw5⟩ := hqw5.facts
    try simp at hzw5
    try have hs0w5 : w.heap.size < w5.heap.size := by omega
    try have hs1w5 : w.heap.size + 1 < w5.heap.size := by omega
    go_wp2_with fail
    go_ret
    exact ⟨rfl, (by repeat (first | exact Q.refl _ | assumption | refine Q.drew ?_ | refine Q.drewN ?_ _ | refine Q.alloc ?_ _ | refine Q.set ?_ (by first | (simp; done) | (simp; omega) | omega) _ | refine Q.trans ?_ (by assumption)))⟩

theorem neg_do (s : Bool) (b x : Int) : (negF s b x).2.2 = 0 → (doF 6 s b 0 x).2.2 = 0 ∧ (doF 6 s b 0 x).1 = (negF s b x).1 ∧ (doF 6 s b 0 x).2.1 = (negF s b x).2.1 := by
  unfold negF doF
  cases ha : (decide (1 ≤ b ∧ b ≤ 31) && fitsB s b x)
  · simp
  · have hp : (1 ≤ b ∧ b ≤ 31) ∧ fitsB s b x = true := by simpa using ha
    obtain ⟨⟨h1, h2⟩, hx⟩ := hp
    have hb := lo_hi s b h1 h2
    have h0 : fitsB s b 0 = true := fits_lo_hi s b 0 hb.2.1 hb.2.2.1
    have hask : askB 6 s b 0 x = true := by simp [askB, h1, h2, h0, hx]
    rw [hask]
    simp only [if_true]
    have e : doN 6 s b 0 x = if fitsB s b (-x) = true then (-x, 0) else (wrapS s b (-x), 1) := by
      cases hn : fitsB s b (-x) <;> simp [doN, wholeI, hn]
    rw [e]
    cases hn : fitsB s b (-x) <;> simp
theorem NumNegates_walk (s : Bool) (b x : Int) (w : World) :
    Calls Try.prog 7 #[.agg #[.bool s, .int .i64 b], .int .i64 x] w fun e w' => e = .returned (.bool true) ∧ Q w w' := by
  have c1 := Neg_any s b x
  have c2 := rNeg_any s b x
  have c3 := Do_any 6 s b 0 x
  have hp := neg_do s b x
  generalize negF s b x = N at *
  generalize doF 6 s b 0 x = D at *
  obtain ⟨n1, n2, n3⟩ := N
  obtain ⟨d1, d2, d3⟩ := D
  dsimp only at c1 c2 c3 hp
  have C1 := hide c1
  have C2 := hide c2
  have C3 := hide c3
  clear c1 c2 c3
  by_cases h0 : n3 = 0
  · obtain ⟨e1, e2, e3⟩ := hp h0
    subst e1 e2 e3 h0
    clear hp
    go_enter Try.func7, Try.ntmps7
    go_wp2_with fail
    refine (C1.out _).mono ?_
    rintro e w1 ⟨rfl, hqw1⟩
    obtain ⟨hcw1, hfw1, hzw1⟩ := hqw1.facts
    try simp at hzw1
    try have hs0w1 : w.heap.size < w1.heap.size := by omega
    try have hs1w1 : w.heap.size + 1 < w1.heap.size := by omega
    go_wp2_with fail
    refine (C2.out _).mono ?_
    rintro e w2 ⟨rfl, hqw2⟩
    obtain ⟨hcw2, hfw2, hzw2⟩ := hqw2.facts
    try simp at hzw2
    try have hs0w2 : w.heap.size < w2.heap.size := by omega
    try have hs1w2 : w.heap.size + 1 < w2.heap.size := by omega
    go_wp2_with fail
    refine (C3.out _).mono ?_
    rintro e w3 ⟨rfl, hqw3⟩
    obtain ⟨hcw3, hfw3, hzw3⟩ := hqw3.facts
    try simp at hzw3
    try have hs0w3 : w.heap.size < w3.heap.size := by omega
    try have hs1w3 : w.heap.size + 1 < w3.heap.size := by omega
    go_wp2_with fail
    refine (known_any _).mono ?_
    rintro e w5 ⟨rfl, hqw5⟩
    obtain ⟨hcw5, hfw5, hzw5⟩ := hqw5.facts
    try simp at hzw5
    try have hs0w5 : w.heap.size < w5.heap.size := by omega
    try have hs1w5 : w.heap.size + 1 < w5.heap.size := by omega
    go_wp2_with fail
    go_ret
    exact ⟨rfl, (by repeat (first | exact Q.refl _ | assumption | refine Q.drew ?_ | refine Q.drewN ?_ _ | refine Q.alloc ?_ _ | refine Q.set ?_ (by first | (simp; done) | (simp; omega) | omega) _ | refine Q.trans ?_ (by assumption)))⟩
  · have h0b : (n3 != 0) = true := by simpa using h0
    clear hp
    go_enter Try.func7, Try.ntmps7
    go_wp2_with fail
    refine (C1.out _).mono ?_
    rintro e w1 ⟨rfl, hqw1⟩
    obtain ⟨hcw1, hfw1, hzw1⟩ := hqw1.facts
    try simp at hzw1
    try have hs0w1 : w.heap.size < w1.heap.size := by omega
    try have hs1w1 : w.heap.size + 1 < w1.heap.size := by omega
    go_wp2_with fail
    refine (C2.out _).mono ?_
    rintro e w2 ⟨rfl, hqw2⟩
    obtain ⟨hcw2, hfw2, hzw2⟩ := hqw2.facts
    try simp at hzw2
    try have hs0w2 : w.heap.size < w2.heap.size := by omega
    try have hs1w2 : w.heap.size + 1 < w2.heap.size := by omega
    go_wp2_with fail
    refine (C3.out _).mono ?_
    rintro e w3 ⟨rfl, hqw3⟩
    obtain ⟨hcw3, hfw3, hzw3⟩ := hqw3.facts
    try simp at hzw3
    try have hs0w3 : w.heap.size < w3.heap.size := by omega
    try have hs1w3 : w.heap.size + 1 < w3.heap.size := by omega
    go_wp2_with fail
    refine (known_any _).mono ?_
    rintro e w5 ⟨rfl, hqw5⟩
    obtain ⟨hcw5, hfw5, hzw5⟩ := hqw5.facts
    try simp at hzw5
    try have hs0w5 : w.heap.size < w5.heap.size := by omega
    try have hs1w5 : w.heap.size + 1 < w5.heap.size := by omega
    go_wp2_with fail
    go_ret
    exact ⟨rfl, (by repeat (first | exact Q.refl _ | assumption | refine Q.drew ?_ | refine Q.drewN ?_ _ | refine Q.alloc ?_ _ | refine Q.set ?_ (by first | (simp; done) | (simp; omega) | omega) _ | refine Q.trans ?_ (by assumption)))⟩
end Go.Proofs.Ytcjljmegppnlcaa
