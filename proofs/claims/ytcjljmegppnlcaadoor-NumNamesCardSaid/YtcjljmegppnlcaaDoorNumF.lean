/- The walks of package num's exported functions over an operation: Do, Loose, Neg; and of the ends. Conditions: none beyond what each theorem says. -/
import Derived.Test.YtcjljmegppnlcaaDoorNumE
namespace Go.Proofs.YtcjljmegppnlcaaDoor
open Go.RowKit NP
set_option linter.unusedVariables false

theorem do_any (op : Int) (s : Bool) (b x y : Int) (w : World) (h1 : 1 ≤ b) (h2 : b ≤ 31) (h3 : 5 ≤ op) (h4 : op ≤ 17) (hx : fitsB s b x = true) (hy : fitsB s b y = true) :
    Calls Tryd.prog 24 #[.int .i64 op, .agg #[.bool s, .int .i64 b], .int .i64 x, .int .i64 y] w fun e w' => e = .returned (.tuple #[.int .i64 (doN op s b x y).1, .int .i64 (doN op s b x y).2]) ∧ Q w w' := by
  obtain ⟨x1, x2⟩ := fitsB_bd h1 h2 hx
  obtain ⟨y1, y2⟩ := fitsB_bd h1 h2 hy
  have x1' : -2147483648 ≤ x := by omega
  have y1' : -2147483648 ≤ y := by omega
  have hop : op = 5 ∨ op = 6 ∨ op = 7 ∨ op = 8 ∨ op = 9 ∨ op = 10 ∨ op = 11 ∨ op = 12 ∨ op = 13 ∨ op = 14 ∨ op = 15 ∨ op = 16 ∨ op = 17 := by omega
  rcases hop with rfl | rfl | rfl | rfl | rfl | rfl | rfl | rfl | rfl | rfl | rfl | rfl | rfl
  · cases hf : fitsB s b (x + y)
    · have e : doN 5 s b x y = (wrapS s b (x + y), 1) := by simp [doN, wholeI, hf]
      rw [e]; exact do_5_no s b x y w h1 h2 x1' x2 y1' y2 hf
    · have e : doN 5 s b x y = (x + y, 0) := by simp [doN, wholeI, hf]
      rw [e]; exact do_5_fit s b x y w h1 h2 x1' x2 y1' y2 hf
  · cases hf : fitsB s b (x - y)
    · have e : doN 6 s b x y = (wrapS s b (x - y), 1) := by simp [doN, wholeI, hf]
      rw [e]; exact do_6_no s b x y w h1 h2 x1' x2 y1' y2 hf
    · have e : doN 6 s b x y = (x - y, 0) := by simp [doN, wholeI, hf]
      rw [e]; exact do_6_fit s b x y w h1 h2 x1' x2 y1' y2 hf
  · cases hf : fitsB s b (x * y)
    · have e : doN 7 s b x y = (wrapS s b (x * y), 1) := by simp [doN, wholeI, hf]
      rw [e]; exact do_7_no s b x y w h1 h2 x1' x2 y1' y2 hf
    · have e : doN 7 s b x y = (x * y, 0) := by simp [doN, wholeI, hf]
      rw [e]; exact do_7_fit s b x y w h1 h2 x1' x2 y1' y2 hf
  · by_cases hz : y = 0
    · have e : doN 8 s b x y = (0, 2) := by simp [doN, hz]
      rw [e]; exact do_8_z s b x y w h1 h2 x1' x2 y1' y2 hz
    · cases hf : fitsB s b (x.tdiv y)
      · have e : doN 8 s b x y = (wrapS s b (x.tdiv y), 1) := by simp [doN, wholeI, hf, hz]
        rw [e]; exact do_8_no s b x y w h1 h2 x1' x2 y1' y2 hz hf
      · have e : doN 8 s b x y = (x.tdiv y, 0) := by simp [doN, wholeI, hf, hz]
        rw [e]; exact do_8_fit s b x y w h1 h2 x1' x2 y1' y2 hz hf
  · by_cases hz : y = 0
    · have e : doN 9 s b x y = (x, 2) := by simp [doN, hz]
      rw [e]; exact do_9_z s b x y w h1 h2 x1' x2 y1' y2 hz
    · cases hf : fitsB s b (x.tmod y)
      · have e : doN 9 s b x y = (wrapS s b (x.tmod y), 1) := by simp [doN, wholeI, hf, hz]
        rw [e]; exact do_9_no s b x y w h1 h2 x1' x2 y1' y2 hz hf
      · cases hq : fitsB s b (x.tdiv y)
        · have e : doN 9 s b x y = (wrapS s b (x.tmod y), 1) := by simp [doN, wholeI, hq, hz]
          rw [e]; exact do_9_quo s b x y w h1 h2 x1' x2 y1' y2 hz hf hq
        · have e : doN 9 s b x y = (x.tmod y, 0) := by simp [doN, wholeI, hf, hq, hz]
          rw [e]; exact do_9_fit s b x y w h1 h2 x1' x2 y1' y2 hz hf hq
  · have e : doN 10 s b x y = (wrapS s b (x + y), 0) := by simp [doN, wholeI]
    rw [e]; exact do_10 s b x y w h1 h2 x1' x2 y1' y2
  · have e : doN 11 s b x y = (wrapS s b (x - y), 0) := by simp [doN, wholeI]
    rw [e]; exact do_11 s b x y w h1 h2 x1' x2 y1' y2
  · have e : doN 12 s b x y = (wrapS s b (x * y), 0) := by simp [doN, wholeI]
    rw [e]; exact do_12 s b x y w h1 h2 x1' x2 y1' y2
  · have e : doN 13 s b x y = (nearS s b (x + y), 0) := by simp [doN, wholeI]
    rw [e]; exact do_13 s b x y w h1 h2 x1' x2 y1' y2
  · have e : doN 14 s b x y = (nearS s b (x - y), 0) := by simp [doN, wholeI]
    rw [e]; exact do_14 s b x y w h1 h2 x1' x2 y1' y2
  · have e : doN 15 s b x y = (wrapS s b (bits .and .i64 x y), 0) := by simp [doN, wholeI]
    rw [e]; exact do_15 s b x y w h1 h2 x1' x2 y1' y2
  · have e : doN 16 s b x y = (wrapS s b (bits .or .i64 x y), 0) := by simp [doN, wholeI]
    rw [e]; exact do_16 s b x y w h1 h2 x1' x2 y1' y2
  · have e : doN 17 s b x y = (wrapS s b (bits .xor .i64 x y), 0) := by simp [doN, wholeI]
    rw [e]; exact do_17 s b x y w h1 h2 x1' x2 y1' y2

/-- what Do returns -/
def doF (op : Int) (s : Bool) (b x y : Int) : Int × Int × Int :=
  if askB op s b x y = true then (if (doN op s b x y).2 = 0 then ((doN op s b x y).1, 0, 0) else (0, (doN op s b x y).2, 0)) else (0, 0, 1)
/-- what Loose returns -/
def looseF (op : Int) (s : Bool) (b x y : Int) : Int × Int := if askB op s b x y = true then ((doN op s b x y).1, 0) else (0, 1)
/-- what Neg returns -/
def negF (s : Bool) (b x : Int) : Int × Int × Int :=
  if (decide (1 ≤ b ∧ b ≤ 31) && fitsB s b x) = true then (if fitsB s b (-x) = true then (-x, 0, 0) else (0, 1, 0)) else (0, 0, 1)
theorem askB_parts {op : Int} {s : Bool} {b x y : Int} (h : askB op s b x y = true) : (1 ≤ b ∧ b ≤ 31) ∧ (5 ≤ op ∧ op ≤ 17) ∧ fitsB s b x = true ∧ fitsB s b y = true := by
  unfold askB at h
  simp only [Bool.and_eq_true, decide_eq_true_eq] at h
  exact ⟨h.1, h.2.1, h.2.2.1, h.2.2.2⟩

theorem Do_any (op : Int) (s : Bool) (b x y : Int) (w : World) :
    Calls Tryd.prog 14 #[.int .i64 op, .agg #[.bool s, .int .i64 b], .int .i64 x, .int .i64 y] w
      fun e w' => e = .returned (.tuple #[.int .i64 (doF op s b x y).1, .int .i64 (doF op s b x y).2.1, .int .i64 (doF op s b x y).2.2]) ∧ Q w w' := by
  cases ha : askB op s b x y
  · have e : doF op s b x y = (0, 0, 1) := by simp [doF, ha]
    rw [e]; clear e
    have Ha := hide ha
    clear ha
    go_enter Tryd.func14, Tryd.ntmps14
    go_wp2_with fail
    refine (asked_bad _ _ _ _ _ _ Ha.out).mono ?_
    rintro e w1 ⟨rfl, hqw1⟩
    obtain ⟨hcw1, hfw1, hzw1⟩ := hqw1.facts
    try simp at hzw1
    try have hs0w1 : w.heap.size < w1.heap.size := by omega
    try have hs1w1 : w.heap.size + 1 < w1.heap.size := by omega
    go_wp2_with fail
    go_ret3
    exact ⟨rfl, (by repeat (first | exact Q.refl _ | assumption | refine Q.drew ?_ | refine Q.drewN ?_ _ | refine Q.alloc ?_ _ | refine Q.set ?_ (by first | (simp; done) | (simp; omega) | omega) _ | refine Q.trans ?_ (by assumption)))⟩
  · obtain ⟨⟨h1, h2⟩, ⟨h3, h4⟩, hx, hy⟩ := askB_parts ha
    by_cases hz : (doN op s b x y).2 = 0
    · have e : doF op s b x y = ((doN op s b x y).1, 0, 0) := by simp [doF, ha, hz]
      rw [e]; clear e ha
      generalize hd : doN op s b x y = d at *
      obtain ⟨d1, d2⟩ := d
      dsimp only at hz
      subst hz
      have Hd := hide hd
      clear hd
      go_enter Tryd.func14, Tryd.ntmps14
      go_wp2_with fail
      refine (asked_ok _ _ _ _ _ _ h1 h2 h3 h4 hx hy).mono ?_
      rintro e w1 ⟨rfl, hqw1⟩
      obtain ⟨hcw1, hfw1, hzw1⟩ := hqw1.facts
      try simp at hzw1
      try have hs0w1 : w.heap.size < w1.heap.size := by omega
      try have hs1w1 : w.heap.size + 1 < w1.heap.size := by omega
      go_wp2_with fail
      refine (do_any _ _ _ _ _ _ h1 h2 h3 h4 hx hy).mono ?_
      rintro e w2 ⟨rfl, hq2⟩
      rw [Hd.out]
      go_wp2_with fail
      go_ret3
      exact ⟨rfl, (by repeat (first | exact Q.refl _ | assumption | refine Q.drew ?_ | refine Q.drewN ?_ _ | refine Q.alloc ?_ _ | refine Q.set ?_ (by first | (simp; done) | (simp; omega) | omega) _ | refine Q.trans ?_ (by assumption)))⟩
    · have e : doF op s b x y = (0, (doN op s b x y).2, 0) := by simp [doF, ha, hz]
      rw [e]; clear e ha
      generalize hd : doN op s b x y = d at *
      obtain ⟨d1, d2⟩ := d
      dsimp only at hz
      have Hd := hide hd
      clear hd
      go_enter Tryd.func14, Tryd.ntmps14
      go_wp2_with fail
      refine (asked_ok _ _ _ _ _ _ h1 h2 h3 h4 hx hy).mono ?_
      rintro e w1 ⟨rfl, hqw1⟩
      obtain ⟨hcw1, hfw1, hzw1⟩ := hqw1.facts
      try simp at hzw1
      try have hs0w1 : w.heap.size < w1.heap.size := by omega
      try have hs1w1 : w.heap.size + 1 < w1.heap.size := by omega
      go_wp2_with fail
      refine (do_any _ _ _ _ _ _ h1 h2 h3 h4 hx hy).mono ?_
      rintro e w2 ⟨rfl, hq2⟩
      rw [Hd.out]
      go_wp2_with fail
      go_ret3
      exact ⟨rfl, (by repeat (first | exact Q.refl _ | assumption | refine Q.drew ?_ | refine Q.drewN ?_ _ | refine Q.alloc ?_ _ | refine Q.set ?_ (by first | (simp; done) | (simp; omega) | omega) _ | refine Q.trans ?_ (by assumption)))⟩

theorem Loose_any (op : Int) (s : Bool) (b x y : Int) (w : World) :
    Calls Tryd.prog 15 #[.int .i64 op, .agg #[.bool s, .int .i64 b], .int .i64 x, .int .i64 y] w
      fun e w' => e = .returned (.tuple #[.int .i64 (looseF op s b x y).1, .int .i64 (looseF op s b x y).2]) ∧ Q w w' := by
  cases ha : askB op s b x y
  · have e : looseF op s b x y = (0, 1) := by simp [looseF, ha]
    rw [e]; clear e
    have Ha := hide ha
    clear ha
    go_enter Tryd.func15, Tryd.ntmps15
    go_wp2_with fail
    refine (asked_bad _ _ _ _ _ _ Ha.out).mono ?_
    rintro e w1 ⟨rfl, hqw1⟩
    obtain ⟨hcw1, hfw1, hzw1⟩ := hqw1.facts
    try simp at hzw1
    try have hs0w1 : w.heap.size < w1.heap.size := by omega
    try have hs1w1 : w.heap.size + 1 < w1.heap.size := by omega
    go_wp2_with fail
    go_ret2
    exact ⟨rfl, (by repeat (first | exact Q.refl _ | assumption | refine Q.drew ?_ | refine Q.drewN ?_ _ | refine Q.alloc ?_ _ | refine Q.set ?_ (by first | (simp; done) | (simp; omega) | omega) _ | refine Q.trans ?_ (by assumption)))⟩
  · obtain ⟨⟨h1, h2⟩, ⟨h3, h4⟩, hx, hy⟩ := askB_parts ha
    have e : looseF op s b x y = ((doN op s b x y).1, 0) := by simp [looseF, ha]
    rw [e]; clear e ha
    go_enter Tryd.func15, Tryd.ntmps15
    go_wp2_with fail
    refine (asked_ok _ _ _ _ _ _ h1 h2 h3 h4 hx hy).mono ?_
    rintro e w1 ⟨rfl, hqw1⟩
    obtain ⟨hcw1, hfw1, hzw1⟩ := hqw1.facts
    try simp at hzw1
    try have hs0w1 : w.heap.size < w1.heap.size := by omega
    try have hs1w1 : w.heap.size + 1 < w1.heap.size := by omega
    go_wp2_with fail
    refine (do_any _ _ _ _ _ _ h1 h2 h3 h4 hx hy).mono ?_
    rintro e w2 ⟨rfl, hqw2⟩
    obtain ⟨hcw2, hfw2, hzw2⟩ := hqw2.facts
    try simp at hzw2
    try have hs0w2 : w.heap.size < w2.heap.size := by omega
    try have hs1w2 : w.heap.size + 1 < w2.heap.size := by omega
    go_wp2_with fail
    go_ret2
    exact ⟨rfl, (by repeat (first | exact Q.refl _ | assumption | refine Q.drew ?_ | refine Q.drewN ?_ _ | refine Q.alloc ?_ _ | refine Q.set ?_ (by first | (simp; done) | (simp; omega) | omega) _ | refine Q.trans ?_ (by assumption)))⟩

end Go.Proofs.YtcjljmegppnlcaaDoor
