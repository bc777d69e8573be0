/- The walks of the reference's Freely, Loose, Neg; and that the program's answers are the reference's. Conditions: none beyond what each theorem says. -/
import Derived.Test.YtcjljmegppnlcaaNumU
namespace Go.Proofs.Ytcjljmegppnlcaa
open Go.RowKit NP
set_option linter.unusedVariables false

def freeF (op : Int) (s : Bool) (b x y : Int) : Int :=
  if (resF op s b x y).2 = 2 ∧ op = 9 then x else if (resF op s b x y).2 = 1 ∧ op ≠ 9 then wrapS s b (exF op x y).1 else (resF op s b x y).1
theorem resF_one {op : Int} {s : Bool} {b x y : Int} (h : (resF op s b x y).2 = 1) : op ≤ 14 := by
  by_cases h15 : 15 ≤ op
  · unfold resF at h
    rw [if_pos h15] at h
    simp at h
  · omega
theorem Freely_any (op : Int) (s : Bool) (b x y : Int) (w : World) (h1 : 1 ≤ b) (h2 : b ≤ 31) (h3 : 5 ≤ op) (h4 : op ≤ 17) (hx : fitsB s b x = true) (hy : fitsB s b y = true) :
    Calls Try.prog 43 #[.int .i64 op, .agg #[.bool s, .int .i64 b], .int .i64 x, .int .i64 y] w fun e w' => e = .returned (.int .i64 (freeF op s b x y)) ∧ Q w w' := by
  obtain ⟨x1, x2⟩ := fitsB_bd h1 h2 hx
  obtain ⟨y1, y2⟩ := fitsB_bd h1 h2 hy
  have hres := Result_any op s b x y
  have hone := @resF_one op s b x y
  have hf : freeF op s b x y = (if (resF op s b x y).2 = 2 ∧ op = 9 then x else if (resF op s b x y).2 = 1 ∧ op ≠ 9 then wrapS s b (exF op x y).1 else (resF op s b x y).1) := rfl
  rw [hf]
  clear hf
  generalize resF op s b x y = R at *
  obtain ⟨n, why⟩ := R
  dsimp only at hres hone ⊢
  have HR := hide hres
  clear hres
  by_cases w2 : why = 2
  · subst w2
    by_cases h9 : op = 9
    · subst h9
      clear hone
      go_enter Try.func43, Try.ntmps43
      go_wp2_with fail
      refine (HR.out _ h1 h2 h3 h4 hx hy).mono ?_
      rintro e w1 ⟨rfl, hqw1⟩
      obtain ⟨hcw1, hfw1, hzw1⟩ := hqw1.facts
      try simp at hzw1
      try have hs0w1 : w.heap.size < w1.heap.size := by omega
      try have hs1w1 : w.heap.size + 1 < w1.heap.size := by omega
      go_wp2_with fail
      go_ret
      exact ⟨rfl, (by repeat (first | exact Q.refl _ | assumption | refine Q.drew ?_ | refine Q.drewN ?_ _ | refine Q.alloc ?_ _ | refine Q.set ?_ (by first | (simp; done) | (simp; omega) | omega) _ | refine Q.trans ?_ (by assumption)))⟩
    · have h9b : (op == 9) = false := by simpa using h9
      rw [if_neg (by simp [h9]), if_neg (by simp)]
      clear hone
      go_enter Try.func43, Try.ntmps43
      go_wp2_with fail
      refine (HR.out _ h1 h2 h3 h4 hx hy).mono ?_
      rintro e w1 ⟨rfl, hqw1⟩
      obtain ⟨hcw1, hfw1, hzw1⟩ := hqw1.facts
      try simp at hzw1
      try have hs0w1 : w.heap.size < w1.heap.size := by omega
      try have hs1w1 : w.heap.size + 1 < w1.heap.size := by omega
      go_wp2_with fail
      go_ret
      exact ⟨rfl, (by repeat (first | exact Q.refl _ | assumption | refine Q.drew ?_ | refine Q.drewN ?_ _ | refine Q.alloc ?_ _ | refine Q.set ?_ (by first | (simp; done) | (simp; omega) | omega) _ | refine Q.trans ?_ (by assumption)))⟩
  · by_cases w1 : why = 1
    · subst w1
      have h14 := hone rfl
      clear hone
      by_cases h9 : op = 9
      · subst h9
        go_enter Try.func43, Try.ntmps43
        go_wp2_with fail
        refine (HR.out _ h1 h2 h3 h4 hx hy).mono ?_
        rintro e w1 ⟨rfl, hqw1⟩
        obtain ⟨hcw1, hfw1, hzw1⟩ := hqw1.facts
        try simp at hzw1
        try have hs0w1 : w.heap.size < w1.heap.size := by omega
        try have hs1w1 : w.heap.size + 1 < w1.heap.size := by omega
        go_wp2_with fail
        go_ret
        exact ⟨rfl, (by repeat (first | exact Q.refl _ | assumption | refine Q.drew ?_ | refine Q.drewN ?_ _ | refine Q.alloc ?_ _ | refine Q.set ?_ (by first | (simp; done) | (simp; omega) | omega) _ | refine Q.trans ?_ (by assumption)))⟩
      · have h9b : (op == 9) = false := by simpa using h9
        have h9c : (op != 9) = true := by simpa using h9
        rw [if_neg (by simp), if_pos ⟨rfl, h9⟩]
        go_enter Try.func43, Try.ntmps43
        go_wp2_with fail
        refine (HR.out _ h1 h2 h3 h4 hx hy).mono ?_
        rintro e w1 ⟨rfl, hqw1⟩
        obtain ⟨hcw1, hfw1, hzw1⟩ := hqw1.facts
        try simp at hzw1
        try have hs0w1 : w.heap.size < w1.heap.size := by omega
        try have hs1w1 : w.heap.size + 1 < w1.heap.size := by omega
        go_wp2_with fail
        refine (exact_any _ _ _ _ h3 h14 (by omega) x2 (by omega) y2).mono ?_
        rintro e w2 ⟨rfl, rfl⟩
        go_wp2_with fail
        refine (Bent_any _ _ _ _ h1 h2).mono ?_
        rintro e w3 ⟨rfl, hqw3⟩
        obtain ⟨hcw3, hfw3, hzw3⟩ := hqw3.facts
        try simp at hzw3
        try have hs0w3 : w.heap.size < w3.heap.size := by omega
        try have hs1w3 : w.heap.size + 1 < w3.heap.size := by omega
        go_wp2_with fail
        go_ret
        exact ⟨rfl, (by repeat (first | exact Q.refl _ | assumption | refine Q.drew ?_ | refine Q.drewN ?_ _ | refine Q.alloc ?_ _ | refine Q.set ?_ (by first | (simp; done) | (simp; omega) | omega) _ | refine Q.trans ?_ (by assumption)))⟩
    · rw [if_neg (by simp [w2]), if_neg (by simp [w1])]
      have w1b : (why == 1) = false := by simpa using w1
      have w2b : (why == 2) = false := by simpa using w2
      clear hone
      go_enter Try.func43, Try.ntmps43
      go_wp2_with fail
      refine (HR.out _ h1 h2 h3 h4 hx hy).mono ?_
      rintro e w1 ⟨rfl, hqw1⟩
      obtain ⟨hcw1, hfw1, hzw1⟩ := hqw1.facts
      try simp at hzw1
      try have hs0w1 : w.heap.size < w1.heap.size := by omega
      try have hs1w1 : w.heap.size + 1 < w1.heap.size := by omega
      go_wp2_with fail
      go_ret
      exact ⟨rfl, (by repeat (first | exact Q.refl _ | assumption | refine Q.drew ?_ | refine Q.drewN ?_ _ | refine Q.alloc ?_ _ | refine Q.set ?_ (by first | (simp; done) | (simp; omega) | omega) _ | refine Q.trans ?_ (by assumption)))⟩

def rlooseF (op : Int) (s : Bool) (b x y : Int) : Int × Int := if askB op s b x y = true then (freeF op s b x y, 0) else (0, 1)
theorem rLoose_any (op : Int) (s : Bool) (b x y : Int) (w : World) :
    Calls Try.prog 14 #[.int .i64 op, .agg #[.bool s, .int .i64 b], .int .i64 x, .int .i64 y] w
      fun e w' => e = .returned (.tuple #[.int .i64 (rlooseF op s b x y).1, .int .i64 (rlooseF op s b x y).2]) ∧ Q w w' := by
  cases ha : askB op s b x y
  · rw [show rlooseF op s b x y = (0, 1) by simp [rlooseF, ha]]
    rw [askB_within] at ha
    cases hi : withinB op 5 17
    · clear ha
      go_enter Try.func14, Try.ntmps14
      go_wp2_with fail
      refine (isOp_any _ _).mono ?_
      rintro e w1 ⟨rfl, rfl⟩
      go_wp2_with fail
      go_ret2
      exact ⟨rfl, (by repeat (first | exact Q.refl _ | assumption | refine Q.drew ?_ | refine Q.drewN ?_ _ | refine Q.alloc ?_ _ | refine Q.set ?_ (by first | (simp; done) | (simp; omega) | omega) _ | refine Q.trans ?_ (by assumption)))⟩
    · rw [hi] at ha
      have HA := hide ha
      clear ha
      go_enter Try.func14, Try.ntmps14
      go_wp2_with fail
      refine (isOp_any _ _).mono ?_
      rintro e w1 ⟨rfl, rfl⟩
      go_wp2_with fail
      refine (rasked_bad _ _ _ _ _ HA.out).mono ?_
      rintro e w2 ⟨rfl, hqw2⟩
      obtain ⟨hcw2, hfw2, hzw2⟩ := hqw2.facts
      try simp at hzw2
      try have hs0w2 : w.heap.size < w2.heap.size := by omega
      try have hs1w2 : w.heap.size + 1 < w2.heap.size := by omega
      go_wp2_with fail
      go_ret2
      exact ⟨rfl, (by repeat (first | exact Q.refl _ | assumption | refine Q.drew ?_ | refine Q.drewN ?_ _ | refine Q.alloc ?_ _ | refine Q.set ?_ (by first | (simp; done) | (simp; omega) | omega) _ | refine Q.trans ?_ (by assumption)))⟩
  · rw [show rlooseF op s b x y = (freeF op s b x y, 0) by simp [rlooseF, ha]]
    obtain ⟨⟨h1, h2⟩, ⟨h3, h4⟩, hx, hy⟩ := askB_parts ha
    have hi : withinB op 5 17 = true := by simp [withinB, h3, h4]
    clear ha
    go_enter Try.func14, Try.ntmps14
    go_wp2_with fail
    refine (isOp_any _ _).mono ?_
    rintro e w1 ⟨rfl, rfl⟩
    go_wp2_with fail
    refine (rasked_ok _ _ _ _ _ h1 h2 hx hy).mono ?_
    rintro e w2 ⟨rfl, hqw2⟩
    obtain ⟨hcw2, hfw2, hzw2⟩ := hqw2.facts
    try simp at hzw2
    try have hs0w2 : w.heap.size < w2.heap.size := by omega
    try have hs1w2 : w.heap.size + 1 < w2.heap.size := by omega
    go_wp2_with fail
    refine (Freely_any _ _ _ _ _ _ h1 h2 h3 h4 hx hy).mono ?_
    rintro e w3 ⟨rfl, hqw3⟩
    obtain ⟨hcw3, hfw3, hzw3⟩ := hqw3.facts
    try simp at hzw3
    try have hs0w3 : w.heap.size < w3.heap.size := by omega
    try have hs1w3 : w.heap.size + 1 < w3.heap.size := by omega
    go_wp2_with fail
    go_ret2
    exact ⟨rfl, (by repeat (first | exact Q.refl _ | assumption | refine Q.drew ?_ | refine Q.drewN ?_ _ | refine Q.alloc ?_ _ | refine Q.set ?_ (by first | (simp; done) | (simp; omega) | omega) _ | refine Q.trans ?_ (by assumption)))⟩

theorem rNeg_any (s : Bool) (b x : Int) (w : World) :
    Calls Try.prog 18 #[.agg #[.bool s, .int .i64 b], .int .i64 x] w
      fun e w' => e = .returned (.tuple #[.int .i64 (negF s b x).1, .int .i64 (negF s b x).2.1, .int .i64 (negF s b x).2.2]) ∧ Q w w' := by
  cases ha : (decide (1 ≤ b ∧ b ≤ 31) && fitsB s b x)
  · rw [show negF s b x = (0, 0, 1) by simp only [negF, ha]; simp]
    have ha' : (decide (1 ≤ b ∧ b ≤ 31) && (fitsB s b x && fitsB s b x)) = false := by rw [Bool.and_self]; exact ha
    have HA := hide ha'
    clear ha ha'
    go_enter Try.func18, Try.ntmps18
    go_wp2_with fail
    refine (rasked_bad _ _ _ _ _ HA.out).mono ?_
    rintro e w2 ⟨rfl, hqw2⟩
    obtain ⟨hcw2, hfw2, hzw2⟩ := hqw2.facts
    try simp at hzw2
    try have hs0w2 : w.heap.size < w2.heap.size := by omega
    try have hs1w2 : w.heap.size + 1 < w2.heap.size := by omega
    go_wp2_with fail
    go_ret3
    exact ⟨rfl, (by repeat (first | exact Q.refl _ | assumption | refine Q.drew ?_ | refine Q.drewN ?_ _ | refine Q.alloc ?_ _ | refine Q.set ?_ (by first | (simp; done) | (simp; omega) | omega) _ | refine Q.trans ?_ (by assumption)))⟩
  · have hp : (1 ≤ b ∧ b ≤ 31) ∧ fitsB s b x = true := by simpa using ha
    obtain ⟨⟨h1, h2⟩, hx⟩ := hp
    obtain ⟨x1, x2⟩ := fitsB_bd h1 h2 hx
    cases hn : fitsB s b (-x)
    · rw [show negF s b x = (0, 1, 0) by simp only [negF, ha, hn]; simp]
      clear ha
      go_enter Try.func18, Try.ntmps18
      go_wp2_with fail
      refine (rasked_ok _ _ _ _ _ h1 h2 hx hx).mono ?_
      rintro e w2 ⟨rfl, hqw2⟩
      obtain ⟨hcw2, hfw2, hzw2⟩ := hqw2.facts
      try simp at hzw2
      try have hs0w2 : w.heap.size < w2.heap.size := by omega
      try have hs1w2 : w.heap.size + 1 < w2.heap.size := by omega
      go_wp2_with fail
      refine (Is_any _ _ _ _ h1 h2).mono ?_
      rintro e w3 ⟨rfl, hqw3⟩
      obtain ⟨hcw3, hfw3, hzw3⟩ := hqw3.facts
      try simp at hzw3
      try have hs0w3 : w.heap.size < w3.heap.size := by omega
      try have hs1w3 : w.heap.size + 1 < w3.heap.size := by omega
      go_wp2_with fail
      go_ret3
      exact ⟨rfl, (by repeat (first | exact Q.refl _ | assumption | refine Q.drew ?_ | refine Q.drewN ?_ _ | refine Q.alloc ?_ _ | refine Q.set ?_ (by first | (simp; done) | (simp; omega) | omega) _ | refine Q.trans ?_ (by assumption)))⟩
    · rw [show negF s b x = (-x, 0, 0) by simp only [negF, ha, hn]; simp]
      clear ha
      go_enter Try.func18, Try.ntmps18
      go_wp2_with fail
      refine (rasked_ok _ _ _ _ _ h1 h2 hx hx).mono ?_
      rintro e w2 ⟨rfl, hqw2⟩
      obtain ⟨hcw2, hfw2, hzw2⟩ := hqw2.facts
      try simp at hzw2
      try have hs0w2 : w.heap.size < w2.heap.size := by omega
      try have hs1w2 : w.heap.size + 1 < w2.heap.size := by omega
      go_wp2_with fail
      refine (Is_any _ _ _ _ h1 h2).mono ?_
      rintro e w3 ⟨rfl, hqw3⟩
      obtain ⟨hcw3, hfw3, hzw3⟩ := hqw3.facts
      try simp at hzw3
      try have hs0w3 : w.heap.size < w3.heap.size := by omega
      try have hs1w3 : w.heap.size + 1 < w3.heap.size := by omega
      go_wp2_with fail
      go_ret3
      exact ⟨rfl, (by repeat (first | exact Q.refl _ | assumption | refine Q.drew ?_ | refine Q.drewN ?_ _ | refine Q.alloc ?_ _ | refine Q.set ?_ (by first | (simp; done) | (simp; omega) | omega) _ | refine Q.trans ?_ (by assumption)))⟩
end Go.Proofs.Ytcjljmegppnlcaa
