/- The walks of the reference's operations: exact, Result, asked, Do, Freely, Loose, Neg. Conditions: none beyond what each theorem says. -/
import Derived.Test.YtcjljmegppnlcaaNumT
import Derived.Test.YtcjljmegppnlcaaNumF
namespace Go.Proofs.Ytcjljmegppnlcaa
open Go.RowKit NP
set_option linter.unusedVariables false

theorem isOp_any (op : Int) (w : World) : Calls Try.prog 40 #[.int .i64 op] w fun e w' => e = .returned (.bool (withinB op 5 17)) ∧ w = w' := by
  go_enter Try.func40, Try.ntmps40
  go_wp2_with fail
  refine (Within_any _ _ _ _).mono ?_
  rintro e w1 ⟨rfl, rfl⟩
  go_wp2_with fail
  go_ret
  exact ⟨rfl, rfl⟩

def exF (op x y : Int) : Int × Bool :=
  if op = 5 ∨ op = 10 ∨ op = 13 then (x + y, true) else if op = 6 ∨ op = 11 ∨ op = 14 then (x - y, true) else if op = 7 ∨ op = 12 then (x * y, true)
  else if y = 0 then (0, false) else (x.tdiv y, true)
theorem exact_any (op x y : Int) (w : World) (h3 : 5 ≤ op) (h4 : op ≤ 14) (x1 : -2147483648 ≤ x) (x2 : x ≤ 2147483647) (y1 : -2147483648 ≤ y) (y2 : y ≤ 2147483647) :
    Calls Try.prog 65 #[.int .i64 op, .int .i64 x, .int .i64 y] w fun e w' => e = .returned (.tuple #[.int .i64 (exF op x y).1, .bool (exF op x y).2]) ∧ w = w' := by
  have hop : op = 5 ∨ op = 6 ∨ op = 7 ∨ op = 8 ∨ op = 9 ∨ op = 10 ∨ op = 11 ∨ op = 12 ∨ op = 13 ∨ op = 14 := by omega
  obtain ⟨m1, m2⟩ := mul_bd x y x1 x2 y1 y2
  obtain ⟨t1, t2⟩ := tdiv_bd x y x1 x2
  rcases hop with rfl | rfl | rfl | rfl | rfl | rfl | rfl | rfl | rfl | rfl
  · rw [show exF 5 x y = (x + y, true) by simp [exF]]
    go_enter Try.func65, Try.ntmps65
    go_wp2_with fail
    go_ret2
    exact ⟨rfl, rfl⟩
  · rw [show exF 6 x y = (x - y, true) by simp [exF]]
    go_enter Try.func65, Try.ntmps65
    go_wp2_with fail
    go_ret2
    exact ⟨rfl, rfl⟩
  · rw [show exF 7 x y = (x * y, true) by simp [exF]]
    go_enter Try.func65, Try.ntmps65
    go_wp2_with fail
    go_ret2
    exact ⟨rfl, rfl⟩
  · by_cases hy : y = 0
    · rw [show exF 8 x y = (0, false) by simp [exF, hy]]
      go_enter Try.func65, Try.ntmps65
      go_wp2_with fail
      go_ret2
      exact ⟨rfl, rfl⟩
    · rw [show exF 8 x y = (x.tdiv y, true) by simp [exF, hy]]
      go_enter Try.func65, Try.ntmps65
      go_wp2_with fail
      go_ret2
      exact ⟨rfl, rfl⟩
  · by_cases hy : y = 0
    · rw [show exF 9 x y = (0, false) by simp [exF, hy]]
      go_enter Try.func65, Try.ntmps65
      go_wp2_with fail
      go_ret2
      exact ⟨rfl, rfl⟩
    · rw [show exF 9 x y = (x.tdiv y, true) by simp [exF, hy]]
      go_enter Try.func65, Try.ntmps65
      go_wp2_with fail
      go_ret2
      exact ⟨rfl, rfl⟩
  · rw [show exF 10 x y = (x + y, true) by simp [exF]]
    go_enter Try.func65, Try.ntmps65
    go_wp2_with fail
    go_ret2
    exact ⟨rfl, rfl⟩
  · rw [show exF 11 x y = (x - y, true) by simp [exF]]
    go_enter Try.func65, Try.ntmps65
    go_wp2_with fail
    go_ret2
    exact ⟨rfl, rfl⟩
  · rw [show exF 12 x y = (x * y, true) by simp [exF]]
    go_enter Try.func65, Try.ntmps65
    go_wp2_with fail
    go_ret2
    exact ⟨rfl, rfl⟩
  · rw [show exF 13 x y = (x + y, true) by simp [exF]]
    go_enter Try.func65, Try.ntmps65
    go_wp2_with fail
    go_ret2
    exact ⟨rfl, rfl⟩
  · rw [show exF 14 x y = (x - y, true) by simp [exF]]
    go_enter Try.func65, Try.ntmps65
    go_wp2_with fail
    go_ret2
    exact ⟨rfl, rfl⟩

def resF (op : Int) (s : Bool) (b x y : Int) : Int × Int :=
  if 15 ≤ op then (bwF op s b x y, 0) else if (exF op x y).2 = false then (0, 2)
  else if op = 10 ∨ op = 11 ∨ op = 12 then (wrapS s b (exF op x y).1, 0) else if op = 13 ∨ op = 14 then (nearS s b (exF op x y).1, 0)
  else if fitsB s b (exF op x y).1 = false then (0, 1) else if op = 9 then (x - (exF op x y).1 * y, 0) else ((exF op x y).1, 0)
theorem Result_any (op : Int) (s : Bool) (b x y : Int) (w : World) (h1 : 1 ≤ b) (h2 : b ≤ 31) (h3 : 5 ≤ op) (h4 : op ≤ 17) (hx : fitsB s b x = true) (hy : fitsB s b y = true) :
    Calls Try.prog 42 #[.int .i64 op, .agg #[.bool s, .int .i64 b], .int .i64 x, .int .i64 y] w fun e w' => e = .returned (.tuple #[.int .i64 (resF op s b x y).1, .int .i64 (resF op s b x y).2]) ∧ Q w w' := by
  obtain ⟨x1, x2⟩ := fitsB_bd h1 h2 hx
  obtain ⟨y1, y2⟩ := fitsB_bd h1 h2 hy
  by_cases h15 : 15 ≤ op
  · rw [show resF op s b x y = (bwF op s b x y, 0) by simp [resF, h15]]
    go_enter Try.func42, Try.ntmps42
    go_wp2_with fail
    refine (bitwise_any _ _ _ _ _ _ h1 h2 hx hy).mono ?_
    rintro e w1 ⟨rfl, hqw1⟩
    obtain ⟨hcw1, hfw1, hzw1⟩ := hqw1.facts
    try simp at hzw1
    try have hs0w1 : w.heap.size < w1.heap.size := by omega
    try have hs1w1 : w.heap.size + 1 < w1.heap.size := by omega
    go_wp2_with fail
    go_ret2
    exact ⟨rfl, (by repeat (first | exact Q.refl _ | assumption | refine Q.drew ?_ | refine Q.drewN ?_ _ | refine Q.alloc ?_ _ | refine Q.set ?_ (by first | (simp; done) | (simp; omega) | omega) _ | refine Q.trans ?_ (by assumption)))⟩
  · have hr : resF op s b x y = (if (exF op x y).2 = false then (0, 2) else if op = 10 ∨ op = 11 ∨ op = 12 then (wrapS s b (exF op x y).1, 0) else if op = 13 ∨ op = 14 then (nearS s b (exF op x y).1, 0)
        else if fitsB s b (exF op x y).1 = false then (0, 1) else if op = 9 then (x - (exF op x y).1 * y, 0) else ((exF op x y).1, 0)) := by unfold resF; rw [if_neg h15]
    rw [hr]
    clear hr
    have hex := exact_any op x y
    have hqb : op = 9 → (exF op x y).2 = true → -9223372036854775808 ≤ (exF op x y).1 * y ∧ (exF op x y).1 * y ≤ 9223372036854775807 ∧ -9223372036854775808 ≤ x - (exF op x y).1 * y ∧ x - (exF op x y).1 * y ≤ 9223372036854775807 := by
      rintro rfl _
      by_cases hz : y = 0
      · subst hz; simp; omega
      · have e : (exF 9 x y).1 = x.tdiv y := by simp [exF, hz]
        rw [e]
        have t := tmod_bd x y (by omega) x2
        have q : x.tmod y = x - y * x.tdiv y := Int.tmod_def x y
        rw [Int.mul_comm] at q
        omega
    generalize hE : exF op x y = E at *
    obtain ⟨n, is⟩ := E
    dsimp only at hqb ⊢
    have HE := hide hex
    have HX := hide hx
    have HY := hide hy
    clear hex hE hx hy
    cases is
    · clear hqb
      go_enter Try.func42, Try.ntmps42
      go_wp2_with fail
      refine (HE.out _ h3 (by omega) (by omega) x2 (by omega) y2).mono ?_
      rintro e w1 ⟨rfl, rfl⟩
      go_wp2_with fail
      go_ret2
      exact ⟨rfl, (by repeat (first | exact Q.refl _ | assumption | refine Q.drew ?_ | refine Q.drewN ?_ _ | refine Q.alloc ?_ _ | refine Q.set ?_ (by first | (simp; done) | (simp; omega) | omega) _ | refine Q.trans ?_ (by assumption)))⟩
    · have hop : op = 5 ∨ op = 6 ∨ op = 7 ∨ op = 8 ∨ op = 9 ∨ op = 10 ∨ op = 11 ∨ op = 12 ∨ op = 13 ∨ op = 14 := by omega
      rcases hop with rfl | rfl | rfl | rfl | rfl | rfl | rfl | rfl | rfl | rfl
      · clear hqb
        cases hf : fitsB s b n
        · go_enter Try.func42, Try.ntmps42
          go_wp2_with fail
          refine (HE.out _ h3 (by omega) (by omega) x2 (by omega) y2).mono ?_
          rintro e w1 ⟨rfl, rfl⟩
          go_wp2_with fail
          refine (Is_any _ _ _ _ h1 h2).mono ?_
          rintro e w2 ⟨rfl, hqw2⟩
          obtain ⟨hcw2, hfw2, hzw2⟩ := hqw2.facts
          try simp at hzw2
          try have hs0w2 : w.heap.size < w2.heap.size := by omega
          try have hs1w2 : w.heap.size + 1 < w2.heap.size := by omega
          go_wp2_with fail
          go_ret2
          exact ⟨rfl, (by repeat (first | exact Q.refl _ | assumption | refine Q.drew ?_ | refine Q.drewN ?_ _ | refine Q.alloc ?_ _ | refine Q.set ?_ (by first | (simp; done) | (simp; omega) | omega) _ | refine Q.trans ?_ (by assumption)))⟩
        · go_enter Try.func42, Try.ntmps42
          go_wp2_with fail
          refine (HE.out _ h3 (by omega) (by omega) x2 (by omega) y2).mono ?_
          rintro e w1 ⟨rfl, rfl⟩
          go_wp2_with fail
          refine (Is_any _ _ _ _ h1 h2).mono ?_
          rintro e w2 ⟨rfl, hqw2⟩
          obtain ⟨hcw2, hfw2, hzw2⟩ := hqw2.facts
          try simp at hzw2
          try have hs0w2 : w.heap.size < w2.heap.size := by omega
          try have hs1w2 : w.heap.size + 1 < w2.heap.size := by omega
          go_wp2_with fail
          go_ret2
          exact ⟨rfl, (by repeat (first | exact Q.refl _ | assumption | refine Q.drew ?_ | refine Q.drewN ?_ _ | refine Q.alloc ?_ _ | refine Q.set ?_ (by first | (simp; done) | (simp; omega) | omega) _ | refine Q.trans ?_ (by assumption)))⟩
      · clear hqb
        cases hf : fitsB s b n
        · go_enter Try.func42, Try.ntmps42
          go_wp2_with fail
          refine (HE.out _ h3 (by omega) (by omega) x2 (by omega) y2).mono ?_
          rintro e w1 ⟨rfl, rfl⟩
          go_wp2_with fail
          refine (Is_any _ _ _ _ h1 h2).mono ?_
          rintro e w2 ⟨rfl, hqw2⟩
          obtain ⟨hcw2, hfw2, hzw2⟩ := hqw2.facts
          try simp at hzw2
          try have hs0w2 : w.heap.size < w2.heap.size := by omega
          try have hs1w2 : w.heap.size + 1 < w2.heap.size := by omega
          go_wp2_with fail
          go_ret2
          exact ⟨rfl, (by repeat (first | exact Q.refl _ | assumption | refine Q.drew ?_ | refine Q.drewN ?_ _ | refine Q.alloc ?_ _ | refine Q.set ?_ (by first | (simp; done) | (simp; omega) | omega) _ | refine Q.trans ?_ (by assumption)))⟩
        · go_enter Try.func42, Try.ntmps42
          go_wp2_with fail
          refine (HE.out _ h3 (by omega) (by omega) x2 (by omega) y2).mono ?_
          rintro e w1 ⟨rfl, rfl⟩
          go_wp2_with fail
          refine (Is_any _ _ _ _ h1 h2).mono ?_
          rintro e w2 ⟨rfl, hqw2⟩
          obtain ⟨hcw2, hfw2, hzw2⟩ := hqw2.facts
          try simp at hzw2
          try have hs0w2 : w.heap.size < w2.heap.size := by omega
          try have hs1w2 : w.heap.size + 1 < w2.heap.size := by omega
          go_wp2_with fail
          go_ret2
          exact ⟨rfl, (by repeat (first | exact Q.refl _ | assumption | refine Q.drew ?_ | refine Q.drewN ?_ _ | refine Q.alloc ?_ _ | refine Q.set ?_ (by first | (simp; done) | (simp; omega) | omega) _ | refine Q.trans ?_ (by assumption)))⟩
      · clear hqb
        cases hf : fitsB s b n
        · go_enter Try.func42, Try.ntmps42
          go_wp2_with fail
          refine (HE.out _ h3 (by omega) (by omega) x2 (by omega) y2).mono ?_
          rintro e w1 ⟨rfl, rfl⟩
          go_wp2_with fail
          refine (Is_any _ _ _ _ h1 h2).mono ?_
          rintro e w2 ⟨rfl, hqw2⟩
          obtain ⟨hcw2, hfw2, hzw2⟩ := hqw2.facts
          try simp at hzw2
          try have hs0w2 : w.heap.size < w2.heap.size := by omega
          try have hs1w2 : w.heap.size + 1 < w2.heap.size := by omega
          go_wp2_with fail
          go_ret2
          exact ⟨rfl, (by repeat (first | exact Q.refl _ | assumption | refine Q.drew ?_ | refine Q.drewN ?_ _ | refine Q.alloc ?_ _ | refine Q.set ?_ (by first | (simp; done) | (simp; omega) | omega) _ | refine Q.trans ?_ (by assumption)))⟩
        · go_enter Try.func42, Try.ntmps42
          go_wp2_with fail
          refine (HE.out _ h3 (by omega) (by omega) x2 (by omega) y2).mono ?_
          rintro e w1 ⟨rfl, rfl⟩
          go_wp2_with fail
          refine (Is_any _ _ _ _ h1 h2).mono ?_
          rintro e w2 ⟨rfl, hqw2⟩
          obtain ⟨hcw2, hfw2, hzw2⟩ := hqw2.facts
          try simp at hzw2
          try have hs0w2 : w.heap.size < w2.heap.size := by omega
          try have hs1w2 : w.heap.size + 1 < w2.heap.size := by omega
          go_wp2_with fail
          go_ret2
          exact ⟨rfl, (by repeat (first | exact Q.refl _ | assumption | refine Q.drew ?_ | refine Q.drewN ?_ _ | refine Q.alloc ?_ _ | refine Q.set ?_ (by first | (simp; done) | (simp; omega) | omega) _ | refine Q.trans ?_ (by assumption)))⟩
      · clear hqb
        cases hf : fitsB s b n
        · go_enter Try.func42, Try.ntmps42
          go_wp2_with fail
          refine (HE.out _ h3 (by omega) (by omega) x2 (by omega) y2).mono ?_
          rintro e w1 ⟨rfl, rfl⟩
          go_wp2_with fail
          refine (Is_any _ _ _ _ h1 h2).mono ?_
          rintro e w2 ⟨rfl, hqw2⟩
          obtain ⟨hcw2, hfw2, hzw2⟩ := hqw2.facts
          try simp at hzw2
          try have hs0w2 : w.heap.size < w2.heap.size := by omega
          try have hs1w2 : w.heap.size + 1 < w2.heap.size := by omega
          go_wp2_with fail
          go_ret2
          exact ⟨rfl, (by repeat (first | exact Q.refl _ | assumption | refine Q.drew ?_ | refine Q.drewN ?_ _ | refine Q.alloc ?_ _ | refine Q.set ?_ (by first | (simp; done) | (simp; omega) | omega) _ | refine Q.trans ?_ (by assumption)))⟩
        · go_enter Try.func42, Try.ntmps42
          go_wp2_with fail
          refine (HE.out _ h3 (by omega) (by omega) x2 (by omega) y2).mono ?_
          rintro e w1 ⟨rfl, rfl⟩
          go_wp2_with fail
          refine (Is_any _ _ _ _ h1 h2).mono ?_
          rintro e w2 ⟨rfl, hqw2⟩
          obtain ⟨hcw2, hfw2, hzw2⟩ := hqw2.facts
          try simp at hzw2
          try have hs0w2 : w.heap.size < w2.heap.size := by omega
          try have hs1w2 : w.heap.size + 1 < w2.heap.size := by omega
          go_wp2_with fail
          go_ret2
          exact ⟨rfl, (by repeat (first | exact Q.refl _ | assumption | refine Q.drew ?_ | refine Q.drewN ?_ _ | refine Q.alloc ?_ _ | refine Q.set ?_ (by first | (simp; done) | (simp; omega) | omega) _ | refine Q.trans ?_ (by assumption)))⟩
      · obtain ⟨q1, q2, q3, q4⟩ := hqb rfl rfl
        clear hqb
        cases hf : fitsB s b n
        · go_enter Try.func42, Try.ntmps42
          go_wp2_with fail
          refine (HE.out _ h3 (by omega) (by omega) x2 (by omega) y2).mono ?_
          rintro e w1 ⟨rfl, rfl⟩
          go_wp2_with fail
          refine (Is_any _ _ _ _ h1 h2).mono ?_
          rintro e w2 ⟨rfl, hqw2⟩
          obtain ⟨hcw2, hfw2, hzw2⟩ := hqw2.facts
          try simp at hzw2
          try have hs0w2 : w.heap.size < w2.heap.size := by omega
          try have hs1w2 : w.heap.size + 1 < w2.heap.size := by omega
          go_wp2_with fail
          go_ret2
          exact ⟨rfl, (by repeat (first | exact Q.refl _ | assumption | refine Q.drew ?_ | refine Q.drewN ?_ _ | refine Q.alloc ?_ _ | refine Q.set ?_ (by first | (simp; done) | (simp; omega) | omega) _ | refine Q.trans ?_ (by assumption)))⟩
        · go_enter Try.func42, Try.ntmps42
          go_wp2_with fail
          refine (HE.out _ h3 (by omega) (by omega) x2 (by omega) y2).mono ?_
          rintro e w1 ⟨rfl, rfl⟩
          go_wp2_with fail
          refine (Is_any _ _ _ _ h1 h2).mono ?_
          rintro e w2 ⟨rfl, hqw2⟩
          obtain ⟨hcw2, hfw2, hzw2⟩ := hqw2.facts
          try simp at hzw2
          try have hs0w2 : w.heap.size < w2.heap.size := by omega
          try have hs1w2 : w.heap.size + 1 < w2.heap.size := by omega
          go_wp2_with fail
          go_ret2
          exact ⟨rfl, (by repeat (first | exact Q.refl _ | assumption | refine Q.drew ?_ | refine Q.drewN ?_ _ | refine Q.alloc ?_ _ | refine Q.set ?_ (by first | (simp; done) | (simp; omega) | omega) _ | refine Q.trans ?_ (by assumption)))⟩
      · clear hqb
        go_enter Try.func42, Try.ntmps42
        go_wp2_with fail
        refine (HE.out _ h3 (by omega) (by omega) x2 (by omega) y2).mono ?_
        rintro e w1 ⟨rfl, rfl⟩
        go_wp2_with fail
        refine (Bent_any _ _ _ _ h1 h2).mono ?_
        rintro e w2 ⟨rfl, hqw2⟩
        obtain ⟨hcw2, hfw2, hzw2⟩ := hqw2.facts
        try simp at hzw2
        try have hs0w2 : w.heap.size < w2.heap.size := by omega
        try have hs1w2 : w.heap.size + 1 < w2.heap.size := by omega
        go_wp2_with fail
        go_ret2
        exact ⟨rfl, (by repeat (first | exact Q.refl _ | assumption | refine Q.drew ?_ | refine Q.drewN ?_ _ | refine Q.alloc ?_ _ | refine Q.set ?_ (by first | (simp; done) | (simp; omega) | omega) _ | refine Q.trans ?_ (by assumption)))⟩
      · clear hqb
        go_enter Try.func42, Try.ntmps42
        go_wp2_with fail
        refine (HE.out _ h3 (by omega) (by omega) x2 (by omega) y2).mono ?_
        rintro e w1 ⟨rfl, rfl⟩
        go_wp2_with fail
        refine (Bent_any _ _ _ _ h1 h2).mono ?_
        rintro e w2 ⟨rfl, hqw2⟩
        obtain ⟨hcw2, hfw2, hzw2⟩ := hqw2.facts
        try simp at hzw2
        try have hs0w2 : w.heap.size < w2.heap.size := by omega
        try have hs1w2 : w.heap.size + 1 < w2.heap.size := by omega
        go_wp2_with fail
        go_ret2
        exact ⟨rfl, (by repeat (first | exact Q.refl _ | assumption | refine Q.drew ?_ | refine Q.drewN ?_ _ | refine Q.alloc ?_ _ | refine Q.set ?_ (by first | (simp; done) | (simp; omega) | omega) _ | refine Q.trans ?_ (by assumption)))⟩
      · clear hqb
        go_enter Try.func42, Try.ntmps42
        go_wp2_with fail
        refine (HE.out _ h3 (by omega) (by omega) x2 (by omega) y2).mono ?_
        rintro e w1 ⟨rfl, rfl⟩
        go_wp2_with fail
        refine (Bent_any _ _ _ _ h1 h2).mono ?_
        rintro e w2 ⟨rfl, hqw2⟩
        obtain ⟨hcw2, hfw2, hzw2⟩ := hqw2.facts
        try simp at hzw2
        try have hs0w2 : w.heap.size < w2.heap.size := by omega
        try have hs1w2 : w.heap.size + 1 < w2.heap.size := by omega
        go_wp2_with fail
        go_ret2
        exact ⟨rfl, (by repeat (first | exact Q.refl _ | assumption | refine Q.drew ?_ | refine Q.drewN ?_ _ | refine Q.alloc ?_ _ | refine Q.set ?_ (by first | (simp; done) | (simp; omega) | omega) _ | refine Q.trans ?_ (by assumption)))⟩
      · clear hqb
        go_enter Try.func42, Try.ntmps42
        go_wp2_with fail
        refine (HE.out _ h3 (by omega) (by omega) x2 (by omega) y2).mono ?_
        rintro e w1 ⟨rfl, rfl⟩
        go_wp2_with fail
        refine (nearest_any _ _ _ _ h1 h2).mono ?_
        rintro e w2 ⟨rfl, hqw2⟩
        obtain ⟨hcw2, hfw2, hzw2⟩ := hqw2.facts
        try simp at hzw2
        try have hs0w2 : w.heap.size < w2.heap.size := by omega
        try have hs1w2 : w.heap.size + 1 < w2.heap.size := by omega
        go_wp2_with fail
        go_ret2
        exact ⟨rfl, (by repeat (first | exact Q.refl _ | assumption | refine Q.drew ?_ | refine Q.drewN ?_ _ | refine Q.alloc ?_ _ | refine Q.set ?_ (by first | (simp; done) | (simp; omega) | omega) _ | refine Q.trans ?_ (by assumption)))⟩
      · clear hqb
        go_enter Try.func42, Try.ntmps42
        go_wp2_with fail
        refine (HE.out _ h3 (by omega) (by omega) x2 (by omega) y2).mono ?_
        rintro e w1 ⟨rfl, rfl⟩
        go_wp2_with fail
        refine (nearest_any _ _ _ _ h1 h2).mono ?_
        rintro e w2 ⟨rfl, hqw2⟩
        obtain ⟨hcw2, hfw2, hzw2⟩ := hqw2.facts
        try simp at hzw2
        try have hs0w2 : w.heap.size < w2.heap.size := by omega
        try have hs1w2 : w.heap.size + 1 < w2.heap.size := by omega
        go_wp2_with fail
        go_ret2
        exact ⟨rfl, (by repeat (first | exact Q.refl _ | assumption | refine Q.drew ?_ | refine Q.drewN ?_ _ | refine Q.alloc ?_ _ | refine Q.set ?_ (by first | (simp; done) | (simp; omega) | omega) _ | refine Q.trans ?_ (by assumption)))⟩

theorem rasked_ok (s : Bool) (b x y : Int) (w : World) (h1 : 1 ≤ b) (h2 : b ≤ 31) (hx : fitsB s b x = true) (hy : fitsB s b y = true) :
    Calls Try.prog 41 #[.agg #[.bool s, .int .i64 b], .int .i64 x, .int .i64 y] w fun e w' => e = .returned (.int .i64 0) ∧ Q w w' := by
  go_enter Try.func41, Try.ntmps41
  go_wp2_with fail
  refine (rValidate_ok _ _ _ h1 h2).mono ?_
  rintro e w1 ⟨rfl, hqw1⟩
  obtain ⟨hcw1, hfw1, hzw1⟩ := hqw1.facts
  try simp at hzw1
  try have hs0w1 : w.heap.size < w1.heap.size := by omega
  try have hs1w1 : w.heap.size + 1 < w1.heap.size := by omega
  go_wp2_with fail
  refine (Is_any _ _ _ _ h1 h2).mono ?_
  rintro e w2 ⟨rfl, hqw2⟩
  obtain ⟨hcw2, hfw2, hzw2⟩ := hqw2.facts
  try simp at hzw2
  try have hs0w2 : w.heap.size < w2.heap.size := by omega
  try have hs1w2 : w.heap.size + 1 < w2.heap.size := by omega
  go_wp2_with fail
  refine (Is_any _ _ _ _ h1 h2).mono ?_
  rintro e w3 ⟨rfl, hqw3⟩
  obtain ⟨hcw3, hfw3, hzw3⟩ := hqw3.facts
  try simp at hzw3
  try have hs0w3 : w.heap.size < w3.heap.size := by omega
  try have hs1w3 : w.heap.size + 1 < w3.heap.size := by omega
  go_wp2_with fail
  go_ret
  exact ⟨rfl, (by repeat (first | exact Q.refl _ | assumption | refine Q.drew ?_ | refine Q.drewN ?_ _ | refine Q.alloc ?_ _ | refine Q.set ?_ (by first | (simp; done) | (simp; omega) | omega) _ | refine Q.trans ?_ (by assumption)))⟩
theorem rasked_bad (s : Bool) (b x y : Int) (w : World) (h : (decide (1 ≤ b ∧ b ≤ 31) && (fitsB s b x && fitsB s b y)) = false) :
    Calls Try.prog 41 #[.agg #[.bool s, .int .i64 b], .int .i64 x, .int .i64 y] w fun e w' => e = .returned (.int .i64 1) ∧ Q w w' := by
  by_cases hv : 1 ≤ b ∧ b ≤ 31
  · obtain ⟨h1, h2⟩ := hv
    cases hx : fitsB s b x
    · clear h
      go_enter Try.func41, Try.ntmps41
      go_wp2_with fail
      refine (rValidate_ok _ _ _ h1 h2).mono ?_
      rintro e w1 ⟨rfl, hqw1⟩
      obtain ⟨hcw1, hfw1, hzw1⟩ := hqw1.facts
      try simp at hzw1
      try have hs0w1 : w.heap.size < w1.heap.size := by omega
      try have hs1w1 : w.heap.size + 1 < w1.heap.size := by omega
      go_wp2_with fail
      refine (Is_any _ _ _ _ h1 h2).mono ?_
      rintro e w2 ⟨rfl, hqw2⟩
      obtain ⟨hcw2, hfw2, hzw2⟩ := hqw2.facts
      try simp at hzw2
      try have hs0w2 : w.heap.size < w2.heap.size := by omega
      try have hs1w2 : w.heap.size + 1 < w2.heap.size := by omega
      go_wp2_with fail
      go_ret
      exact ⟨rfl, (by repeat (first | exact Q.refl _ | assumption | refine Q.drew ?_ | refine Q.drewN ?_ _ | refine Q.alloc ?_ _ | refine Q.set ?_ (by first | (simp; done) | (simp; omega) | omega) _ | refine Q.trans ?_ (by assumption)))⟩
    · have hy : fitsB s b y = false := by
        rw [hx] at h
        simpa [h1, h2] using h
      clear h
      go_enter Try.func41, Try.ntmps41
      go_wp2_with fail
      refine (rValidate_ok _ _ _ h1 h2).mono ?_
      rintro e w1 ⟨rfl, hqw1⟩
      obtain ⟨hcw1, hfw1, hzw1⟩ := hqw1.facts
      try simp at hzw1
      try have hs0w1 : w.heap.size < w1.heap.size := by omega
      try have hs1w1 : w.heap.size + 1 < w1.heap.size := by omega
      go_wp2_with fail
      refine (Is_any _ _ _ _ h1 h2).mono ?_
      rintro e w2 ⟨rfl, hqw2⟩
      obtain ⟨hcw2, hfw2, hzw2⟩ := hqw2.facts
      try simp at hzw2
      try have hs0w2 : w.heap.size < w2.heap.size := by omega
      try have hs1w2 : w.heap.size + 1 < w2.heap.size := by omega
      go_wp2_with fail
      refine (Is_any _ _ _ _ h1 h2).mono ?_
      rintro e w3 ⟨rfl, hqw3⟩
      obtain ⟨hcw3, hfw3, hzw3⟩ := hqw3.facts
      try simp at hzw3
      try have hs0w3 : w.heap.size < w3.heap.size := by omega
      try have hs1w3 : w.heap.size + 1 < w3.heap.size := by omega
      go_wp2_with fail
      go_ret
      exact ⟨rfl, (by repeat (first | exact Q.refl _ | assumption | refine Q.drew ?_ | refine Q.drewN ?_ _ | refine Q.alloc ?_ _ | refine Q.set ?_ (by first | (simp; done) | (simp; omega) | omega) _ | refine Q.trans ?_ (by assumption)))⟩
  · clear h
    go_enter Try.func41, Try.ntmps41
    go_wp2_with fail
    refine (rValidate_bad _ _ _ hv).mono ?_
    rintro e w1 ⟨rfl, hqw1⟩
    obtain ⟨hcw1, hfw1, hzw1⟩ := hqw1.facts
    try simp at hzw1
    try have hs0w1 : w.heap.size < w1.heap.size := by omega
    try have hs1w1 : w.heap.size + 1 < w1.heap.size := by omega
    go_wp2_with fail
    go_ret
    exact ⟨rfl, (by repeat (first | exact Q.refl _ | assumption | refine Q.drew ?_ | refine Q.drewN ?_ _ | refine Q.alloc ?_ _ | refine Q.set ?_ (by first | (simp; done) | (simp; omega) | omega) _ | refine Q.trans ?_ (by assumption)))⟩

def rdoF (op : Int) (s : Bool) (b x y : Int) : Int × Int × Int := if askB op s b x y = true then ((resF op s b x y).1, (resF op s b x y).2, 0) else (0, 0, 1)
theorem askB_within (op : Int) (s : Bool) (b x y : Int) : askB op s b x y = (withinB op 5 17 && (decide (1 ≤ b ∧ b ≤ 31) && (fitsB s b x && fitsB s b y))) := by
  unfold askB withinB
  rw [show decide (5 ≤ op ∧ op ≤ 17) = (decide (5 ≤ op) && decide (op ≤ 17)) by simp]
  cases decide (5 ≤ op) <;> cases decide (op ≤ 17) <;> simp
theorem rDo_any (op : Int) (s : Bool) (b x y : Int) (w : World) :
    Calls Try.prog 12 #[.int .i64 op, .agg #[.bool s, .int .i64 b], .int .i64 x, .int .i64 y] w
      fun e w' => e = .returned (.tuple #[.int .i64 (rdoF op s b x y).1, .int .i64 (rdoF op s b x y).2.1, .int .i64 (rdoF op s b x y).2.2]) ∧ Q w w' := by
  cases ha : askB op s b x y
  · rw [show rdoF op s b x y = (0, 0, 1) by simp [rdoF, ha]]
    rw [askB_within] at ha
    cases hi : withinB op 5 17
    · clear ha
      go_enter Try.func12, Try.ntmps12
      go_wp2_with fail
      refine (isOp_any _ _).mono ?_
      rintro e w1 ⟨rfl, rfl⟩
      go_wp2_with fail
      go_ret3
      exact ⟨rfl, (by repeat (first | exact Q.refl _ | assumption | refine Q.drew ?_ | refine Q.drewN ?_ _ | refine Q.alloc ?_ _ | refine Q.set ?_ (by first | (simp; done) | (simp; omega) | omega) _ | refine Q.trans ?_ (by assumption)))⟩
    · rw [hi] at ha
      have HA := hide ha
      clear ha
      go_enter Try.func12, Try.ntmps12
      go_wp2_with fail
      refine (isOp_any _ _).mono ?_
      rintro e w1 ⟨rfl, rfl⟩
      go_wp2_with fail
      refine (rasked_bad _ _ _ _ _ HA.out).mono ?_
      rintro e w2 ⟨rfl, hqw2⟩
      obtain ⟨hcw2, hfw2, hzw2⟩ := hqw2.facts
      try simp at hzw2
      try have hs0w2 : w.heap.size < w2.heap.size := by omega
      try have hs1w2 : w.heap.size + 1 < w2.heap.size := by omega
      go_wp2_with fail
      go_ret3
      exact ⟨rfl, (by repeat (first | exact Q.refl _ | assumption | refine Q.drew ?_ | refine Q.drewN ?_ _ | refine Q.alloc ?_ _ | refine Q.set ?_ (by first | (simp; done) | (simp; omega) | omega) _ | refine Q.trans ?_ (by assumption)))⟩
  · rw [show rdoF op s b x y = ((resF op s b x y).1, (resF op s b x y).2, 0) by simp [rdoF, ha]]
    obtain ⟨⟨h1, h2⟩, ⟨h3, h4⟩, hx, hy⟩ := askB_parts ha
    have hi : withinB op 5 17 = true := by simp [withinB, h3, h4]
    clear ha
    go_enter Try.func12, Try.ntmps12
    go_wp2_with fail
    refine (isOp_any _ _).mono ?_
    rintro e w1 ⟨rfl, rfl⟩
    go_wp2_with fail
    refine (rasked_ok _ _ _ _ _ h1 h2 hx hy).mono ?_
    rintro e w2 ⟨rfl, hqw2⟩
    obtain ⟨hcw2, hfw2, hzw2⟩ := hqw2.facts
    try simp at hzw2
    try have hs0w2 : w.heap.size < w2.heap.size := by omega
    try have hs1w2 : w.heap.size + 1 < w2.heap.size := by omega
    go_wp2_with fail
    refine (Result_any _ _ _ _ _ _ h1 h2 h3 h4 hx hy).mono ?_
    rintro e w3 ⟨rfl, hqw3⟩
    obtain ⟨hcw3, hfw3, hzw3⟩ := hqw3.facts
    try simp at hzw3
    try have hs0w3 : w.heap.size < w3.heap.size := by omega
    try have hs1w3 : w.heap.size + 1 < w3.heap.size := by omega
    go_wp2_with fail
    go_ret3
    exact ⟨rfl, (by repeat (first | exact Q.refl _ | assumption | refine Q.drew ?_ | refine Q.drewN ?_ _ | refine Q.alloc ?_ _ | refine Q.set ?_ (by first | (simp; done) | (simp; omega) | omega) _ | refine Q.trans ?_ (by assumption)))⟩
end Go.Proofs.Ytcjljmegppnlcaa
