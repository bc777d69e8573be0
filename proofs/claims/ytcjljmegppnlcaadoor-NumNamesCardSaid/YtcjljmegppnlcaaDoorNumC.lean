/- The walks of package num's operations: which are asked rightly, the table of operations, an operation done. Conditions: as each theorem says. -/
import Derived.Test.YtcjljmegppnlcaaDoorNumB
import Derived.Laws.EntriesVeiled
namespace Go.Proofs.YtcjljmegppnlcaaDoor
open Go.RowKit NP

/-- which numbers an operation may be asked of -/
def askB (op : Int) (s : Bool) (b x y : Int) : Bool := decide (1 ≤ b ∧ b ≤ 31) && (decide (5 ≤ op ∧ op ≤ 17) && (fitsB s b x && fitsB s b y))

theorem asked_ok (op : Int) (s : Bool) (b x y : Int) (w : World) (h1 : 1 ≤ b) (h2 : b ≤ 31) (h3 : 5 ≤ op) (h4 : op ≤ 17) (hx : fitsB s b x = true) (hy : fitsB s b y = true) :
    Calls Tryd.prog 23 #[.int .i64 op, .agg #[.bool s, .int .i64 b], .int .i64 x, .int .i64 y] w fun e w' => e = .returned (.int .i64 0) ∧ Q w w' := by
  go_enter Tryd.func23, Tryd.ntmps23
  go_wp2_with fail
  refine (validate_ok _ _ _ h1 h2).mono ?_
  rintro e w1 ⟨rfl, hqw1⟩
  obtain ⟨hcw1, hfw1, hzw1⟩ := hqw1.facts
  try simp at hzw1
  try have hs0w1 : w.heap.size < w1.heap.size := by omega
  try have hs1w1 : w.heap.size + 1 < w1.heap.size := by omega
  go_wp2_with fail
  refine (fits_any _ _ _ _ h1 h2).mono ?_
  rintro e w2 ⟨rfl, hqw2⟩
  obtain ⟨hcw2, hfw2, hzw2⟩ := hqw2.facts
  try simp at hzw2
  try have hs0w2 : w.heap.size < w2.heap.size := by omega
  try have hs1w2 : w.heap.size + 1 < w2.heap.size := by omega
  go_wp2_with fail
  refine (fits_any _ _ _ _ h1 h2).mono ?_
  rintro e w3 ⟨rfl, hqw3⟩
  obtain ⟨hcw3, hfw3, hzw3⟩ := hqw3.facts
  try simp at hzw3
  try have hs0w3 : w.heap.size < w3.heap.size := by omega
  try have hs1w3 : w.heap.size + 1 < w3.heap.size := by omega
  go_wp2_with fail
  go_ret
  exact ⟨rfl, (by repeat (first | exact Q.refl _ | assumption | refine Q.drew ?_ | refine Q.drewN ?_ _ | refine Q.alloc ?_ _ | refine Q.set ?_ (by first | (simp; done) | (simp; omega) | omega) _ | refine Q.trans ?_ (by assumption)))⟩

theorem asked_bad (op : Int) (s : Bool) (b x y : Int) (w : World) (h : askB op s b x y = false) :
    Calls Tryd.prog 23 #[.int .i64 op, .agg #[.bool s, .int .i64 b], .int .i64 x, .int .i64 y] w fun e w' => e = .returned (.int .i64 1) ∧ Q w w' := by
  by_cases hv : 1 ≤ b ∧ b ≤ 31
  · obtain ⟨h1, h2⟩ := hv
    by_cases h3 : op < 5
    · clear h
      go_enter Tryd.func23, Tryd.ntmps23
      go_wp2_with fail
      refine (validate_ok _ _ _ h1 h2).mono ?_
      rintro e w1 ⟨rfl, hqw1⟩
      obtain ⟨hcw1, hfw1, hzw1⟩ := hqw1.facts
      try simp at hzw1
      try have hs0w1 : w.heap.size < w1.heap.size := by omega
      try have hs1w1 : w.heap.size + 1 < w1.heap.size := by omega
      go_wp2_with fail
      go_ret
      exact ⟨rfl, (by repeat (first | exact Q.refl _ | assumption | refine Q.drew ?_ | refine Q.drewN ?_ _ | refine Q.alloc ?_ _ | refine Q.set ?_ (by first | (simp; done) | (simp; omega) | omega) _ | refine Q.trans ?_ (by assumption)))⟩
    · by_cases h4 : 17 < op
      · clear h
        go_enter Tryd.func23, Tryd.ntmps23
        go_wp2_with fail
        refine (validate_ok _ _ _ h1 h2).mono ?_
        rintro e w1 ⟨rfl, hqw1⟩
        obtain ⟨hcw1, hfw1, hzw1⟩ := hqw1.facts
        try simp at hzw1
        try have hs0w1 : w.heap.size < w1.heap.size := by omega
        try have hs1w1 : w.heap.size + 1 < w1.heap.size := by omega
        go_wp2_with fail
        go_ret
        exact ⟨rfl, (by repeat (first | exact Q.refl _ | assumption | refine Q.drew ?_ | refine Q.drewN ?_ _ | refine Q.alloc ?_ _ | refine Q.set ?_ (by first | (simp; done) | (simp; omega) | omega) _ | refine Q.trans ?_ (by assumption)))⟩
      · cases hx : fitsB s b x
        · clear h
          go_enter Tryd.func23, Tryd.ntmps23
          go_wp2_with fail
          refine (validate_ok _ _ _ h1 h2).mono ?_
          rintro e w1 ⟨rfl, hqw1⟩
          obtain ⟨hcw1, hfw1, hzw1⟩ := hqw1.facts
          try simp at hzw1
          try have hs0w1 : w.heap.size < w1.heap.size := by omega
          try have hs1w1 : w.heap.size + 1 < w1.heap.size := by omega
          go_wp2_with fail
          refine (fits_any _ _ _ _ h1 h2).mono ?_
          rintro e w2 ⟨rfl, hqw2⟩
          obtain ⟨hcw2, hfw2, hzw2⟩ := hqw2.facts
          try simp at hzw2
          try have hs0w2 : w.heap.size < w2.heap.size := by omega
          try have hs1w2 : w.heap.size + 1 < w2.heap.size := by omega
          go_wp2_with fail
          go_ret
          exact ⟨rfl, (by repeat (first | exact Q.refl _ | assumption | refine Q.drew ?_ | refine Q.drewN ?_ _ | refine Q.alloc ?_ _ | refine Q.set ?_ (by first | (simp; done) | (simp; omega) | omega) _ | refine Q.trans ?_ (by assumption)))⟩
        · have hy : fitsB s b y = false := by
            unfold askB at h
            rw [hx] at h
            simpa [h1, h2, show 5 ≤ op by omega, show op ≤ 17 by omega] using h
          clear h
          go_enter Tryd.func23, Tryd.ntmps23
          go_wp2_with fail
          refine (validate_ok _ _ _ h1 h2).mono ?_
          rintro e w1 ⟨rfl, hqw1⟩
          obtain ⟨hcw1, hfw1, hzw1⟩ := hqw1.facts
          try simp at hzw1
          try have hs0w1 : w.heap.size < w1.heap.size := by omega
          try have hs1w1 : w.heap.size + 1 < w1.heap.size := by omega
          go_wp2_with fail
          refine (fits_any _ _ _ _ h1 h2).mono ?_
          rintro e w2 ⟨rfl, hqw2⟩
          obtain ⟨hcw2, hfw2, hzw2⟩ := hqw2.facts
          try simp at hzw2
          try have hs0w2 : w.heap.size < w2.heap.size := by omega
          try have hs1w2 : w.heap.size + 1 < w2.heap.size := by omega
          go_wp2_with fail
          refine (fits_any _ _ _ _ h1 h2).mono ?_
          rintro e w3 ⟨rfl, hqw3⟩
          obtain ⟨hcw3, hfw3, hzw3⟩ := hqw3.facts
          try simp at hzw3
          try have hs0w3 : w.heap.size < w3.heap.size := by omega
          try have hs1w3 : w.heap.size + 1 < w3.heap.size := by omega
          go_wp2_with fail
          go_ret
          exact ⟨rfl, (by repeat (first | exact Q.refl _ | assumption | refine Q.drew ?_ | refine Q.drewN ?_ _ | refine Q.alloc ?_ _ | refine Q.set ?_ (by first | (simp; done) | (simp; omega) | omega) _ | refine Q.trans ?_ (by assumption)))⟩
  · clear h
    go_enter Tryd.func23, Tryd.ntmps23
    go_wp2_with fail
    refine (validate_bad _ _ _ hv).mono ?_
    rintro e w1 ⟨rfl, hqw1⟩
    obtain ⟨hcw1, hfw1, hzw1⟩ := hqw1.facts
    try simp at hzw1
    try have hs0w1 : w.heap.size < w1.heap.size := by omega
    try have hs1w1 : w.heap.size + 1 < w1.heap.size := by omega
    go_wp2_with fail
    go_ret
    exact ⟨rfl, (by repeat (first | exact Q.refl _ | assumption | refine Q.drew ?_ | refine Q.drewN ?_ _ | refine Q.alloc ?_ _ | refine Q.set ?_ (by first | (simp; done) | (simp; omega) | omega) _ | refine Q.trans ?_ (by assumption)))⟩

end Go.Proofs.YtcjljmegppnlcaaDoor
