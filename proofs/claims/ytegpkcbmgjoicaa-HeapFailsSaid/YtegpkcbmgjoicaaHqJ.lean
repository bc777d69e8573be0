/- The law HeapFills, walked. Conditions: the byte is one. -/
import Derived.Test.YtegpkcbmgjoicaaHqI
namespace Go.Proofs.Ytegpkcbmgjoicaa
open Go.RowKit HP
set_option linter.unusedVariables false
/-- the last piece so far -/
def lastP (P : Int) (j : Nat) : Int := ((j - 1 : Nat) : Int) * P
def FillRel (P size : Int) (w : World) (g : Nat) (v9 v10 : Value) (wr : World) : Prop :=
  ∃ (j : Nat) (m : HM), v9 = .int .i64 (j : Int) ∧ v10 = .int .i64 (lastP P j) ∧ j ≤ 64 ∧ Hid ((j : Int) * P ≤ size) ∧ Hid (Own w wr g m ∧ Inv m ∧ m.calls = j ∧ Pool P size (List.range j) m)
theorem fills_big (size P b : Int) (w : World) (h : 400 < size) : Calls Try.prog 3 #[.int .i64 size, .int .i64 P, .int .u8 b] w fun e w' => e = .returned (.bool true) ∧ Q w w' := by
  have hd : decide (400 < size) = true := by simpa using h
  go_enter Try.func3, Try.ntmps3
  go_wp2_with fail
  refine (known_any _).mono ?_
  rintro e w1 ⟨rfl, hqw1⟩
  obtain ⟨hcw1, hfw1, hzw1⟩ := hqw1.facts
  try simp at hzw1
  try have hs0w1 : w.heap.size < w1.heap.size := by omega
  try have hs1w1 : w.heap.size + 1 < w1.heap.size := by omega
  go_wp2_with fail
  go_ret
  exact ⟨rfl, (by repeat (first | exact Q.refl _ | assumption | refine Q.drew ?_ | refine Q.drewN ?_ _ | refine Q.alloc ?_ _ | refine Q.set ?_ (by first | (simp; done) | (simp; omega) | omega) _ | refine Q.trans ?_ (by assumption)))⟩
theorem fills_bad (size P b : Int) (w : World) (h : ¬ 400 < size) (hs : shapeB 3 size P = false) : Calls Try.prog 3 #[.int .i64 size, .int .i64 P, .int .u8 b] w fun e w' => e = .returned (.bool true) ∧ Q w w' := by
  have hd : decide (400 < size) = false := by simpa using h
  have HN : Hid (Calls Try.prog 9 #[.int .i64 3, .int .i64 size, .int .i64 P] w fun e w' => e = .returned (.tuple #[.pointer none, .int .i64 1]) ∧ Q w w') := (new_any 3 size P w).mono (by
    rintro e w' (⟨-, h1, h2⟩ | ⟨h1, -⟩)
    · exact ⟨h1, h2⟩
    · rw [hs] at h1; cases h1)
  clear hs
  go_enter Try.func3, Try.ntmps3
  go_wp2_with fail
  refine (HN.out).mono ?_
  rintro e w1 ⟨rfl, hqw1⟩
  obtain ⟨hcw1, hfw1, hzw1⟩ := hqw1.facts
  try simp at hzw1
  try have hs0w1 : w.heap.size < w1.heap.size := by omega
  try have hs1w1 : w.heap.size + 1 < w1.heap.size := by omega
  go_wp2_with fail
  refine (known_any _).mono ?_
  rintro e w2 ⟨rfl, hqw2⟩
  obtain ⟨hcw2, hfw2, hzw2⟩ := hqw2.facts
  try simp at hzw2
  try have hs0w2 : w.heap.size < w2.heap.size := by omega
  try have hs1w2 : w.heap.size + 1 < w2.heap.size := by omega
  go_wp2_with fail
  go_ret
  exact ⟨rfl, (by repeat (first | exact Q.refl _ | assumption | refine Q.drew ?_ | refine Q.drewN ?_ _ | refine Q.alloc ?_ _ | refine Q.set ?_ (by first | (simp; done) | (simp; omega) | omega) _ | refine Q.trans ?_ (by assumption)))⟩
set_option maxHeartbeats 4000000 in
set_option maxRecDepth 100000 in
theorem fills_good (size P b : Int) (w : World) (h : ¬ 400 < size) (hs : shapeB 3 size P = true) (hb0 : 0 ≤ b) (hb1 : b ≤ 255) : Calls Try.prog 3 #[.int .i64 size, .int .i64 P, .int .u8 b] w fun e w' => e = .returned (.bool true) ∧ Q w w' := by
  have hd : decide (400 < size) = false := by simpa using h
  have HN := hide (own_new hs w)
  have HI := hide (newM_inv hs)
  have hsh := hs
  simp [shapeB] at hsh
  obtain ⟨⟨s1, s2⟩, s3, s4⟩ := hsh
  have s5 : size ≤ 400 := by omega
  have HS := hide (And.intro s3 (And.intro s4 s5))
  have hP0 : ¬ P = 0 := by omega
  clear hs
  go_enter Try.func3, Try.ntmps3
  go_wp2_with fail
  refine HN.out.mono ?_
  rintro e w1 ⟨g, rfl, o1⟩
  have O1 := hide o1
  clear o1
  go_wp2_with fail
  go_loopw [9, 10] (fun v9 v10 wr => FillRel P size w g v9 v10 wr) (fun v9 _ _ => 100 - (intOf v9).toNat)
  case atStart => exact ⟨0, _, rfl, by simp [lastP], by omega, hide (by simp; omega), hide ⟨O1.out, HI.out, rfl, pool_new⟩⟩
  case round =>
    obtain ⟨j, m, rfl, rfl, hj, HJ, HO⟩ := hrel
    have hj1 : decide ((j : Int) ≤ 64) = true := by simp; omega
    have hj2 : decide (j ≤ 64) = true := by simp; omega
    obtain ⟨L, hL⟩ : ∃ L, L = lastP P j := ⟨_, rfl⟩
    rw [← hL]
    have HL := hide hL
    clear hL
    by_cases hit : j < 64 ∧ (j : Int) * P + P ≤ size
    · have HT := hide hit
      have hj3 := hit.1
      obtain ⟨c1, c2⟩ := fill_step HS.out.1 HS.out.2.1 HS.out.2.2 HO.out.2.2.2 hit.1 hit.2
      have HA : Hid (Calls Try.prog 10 #[.pointer (some ⟨g, 0, none⟩), .int .i64 P, .int .i64 1] wr fun e w' => e = .returned (.tuple #[.int .i64 ((j : Int) * P), .int .i64 0]) ∧ Own w w' g (allocM m P 1).1) := by
        have := own_alloc HO.out.1 HO.out.2.1 (by have := HO.out.2.2.1; omega) P 1
        rw [c1] at this
        exact this
      have HC2 := hide c2
      clear hit c1 c2
      obtain ⟨K, hK⟩ : ∃ K, K = (j : Int) * P := ⟨_, rfl⟩
      rw [← hK] at HA
      have HK := hide hK
      clear hK
      go_wp2_with fail
      refine HA.out.mono ?_
      rintro e w2 ⟨rfl, o2⟩
      have O2 := hide o2
      clear o2
      go_wp2_with fail
      go_roundw
      case rel =>
        refine ⟨j + 1, (allocM m P 1).1, by go_num, by rw [HK.out]; rfl, by omega, hide ?_, hide ⟨O2.out, alloc_inv HO.out.2.1 _ _, ?_, HC2.out⟩⟩
        · rw [mulP_succ]; exact HT.out.2
        · have e : (allocM m P 1).1.calls = m.calls + 1 := alloc_calls m P (by have := sizeB_P HS.out.1 HS.out.2.1 HS.out.2.2; exact this)
          rw [e, HO.out.2.2.1]
          push_cast
          rfl
      case measure => simp [intOf] <;> omega
    · have he : j = 64 ∨ size < (j : Int) * P + P := by omega
      obtain ⟨c1, c2⟩ := fill_end HS.out.1 HS.out.2.1 HS.out.2.2 HO.out.2.2.2 he
      have hj0 : 0 < j := by
        rcases Nat.eq_zero_or_pos j with e | e
        · subst e
          exfalso
          have := HS.out
          simp at he
          omega
        · exact e
      have hme : Hid (min (size / P) 64 = (j : Int)) := hide (pieces_end HS.out.1 HS.out.2.1 hj HJ.out he)
      obtain ⟨T, hT, hTj⟩ : ∃ T : Nat, b % (j : Int) = (T : Int) ∧ T < j := by
        have h1 := Int.emod_nonneg b (show (j : Int) ≠ 0 by omega)
        have h2 := Int.emod_lt_of_pos b (show 0 < (j : Int) by omega)
        exact ⟨(b % (j : Int)).toNat, by omega, by omega⟩
      obtain ⟨p1, p2, p3⟩ := pool_back HS.out.1 HS.out.2.1 HS.out.2.2 c2 hj hTj HJ.out
      obtain ⟨K, hK⟩ : ∃ K, K = (T : Int) * P := ⟨_, rfl⟩
      rw [← hK] at p1 p2 p3
      have hK0 : 0 ≤ K := by rw [hK]; exact Int.mul_nonneg (by omega) (by have := HS.out.1; omega)
      have hK1 : K ≤ 400 := by
        have h1 : (T : Int) * P ≤ (j : Int) * P := Int.mul_le_mul_of_nonneg_right (by omega) (by have := HS.out.1; omega)
        have := HJ.out
        have := HS.out.2.2
        omega
      have hL0 : 0 ≤ L ∧ L ≤ 400 := by
        have h1 : ((j - 1 : Nat) : Int) * P ≤ (j : Int) * P := Int.mul_le_mul_of_nonneg_right (by omega) (by have := HS.out.1; omega)
        have h2 : 0 ≤ ((j - 1 : Nat) : Int) * P := Int.mul_nonneg (by omega) (by have := HS.out.1; omega)
        have := HJ.out
        have := HS.out.2.2
        have h3 : L = ((j - 1 : Nat) : Int) * P := HL.out
        omega
      have hLe : ((j : Int) - 1) * P = L := by
        rw [HL.out]
        unfold lastP
        rw [show ((j - 1 : Nat) : Int) = (j : Int) - 1 by omega]
      obtain ⟨u, hu⟩ : ∃ u, u = (allocM m P 1).2.1 := ⟨_, rfl⟩
      obtain ⟨m2, hm2⟩ : ∃ m2, m2 = (allocM m P 1).1 := ⟨_, rfl⟩
      have hI2 : Inv m2 := by rw [hm2]; exact alloc_inv HO.out.2.1 _ _
      have hc2 : m2.calls ≤ 1000 := by
        rw [hm2, alloc_calls m P (sizeB_P HS.out.1 HS.out.2.1 HS.out.2.2), HO.out.2.2.1]
        omega
      have HA : Hid (Calls Try.prog 10 #[.pointer (some ⟨g, 0, none⟩), .int .i64 P, .int .i64 1] wr fun e w' => e = .returned (.tuple #[.int .i64 u, .int .i64 3]) ∧ Own w w' g m2) := by
        have := own_alloc HO.out.1 HO.out.2.1 (by have := HO.out.2.2.1; omega) P 1
        rw [c1, ← hu, ← hm2] at this
        exact this
      rw [← hm2] at p1 p2 p3
      obtain ⟨m3, hm3⟩ : ∃ m3, m3 = (freeM m2 K).1 := ⟨_, rfl⟩
      rw [← hm3] at p2 p3
      have hI3 : Inv m3 := by rw [hm3]; exact free_inv hI2 K
      have hc3 : m3.calls ≤ 1000 := by
        rw [hm3]
        unfold freeM
        split <;> exact hc2
      have HF1 : Hid (∀ W, Own w W g m2 → Calls Try.prog 11 #[.pointer (some ⟨g, 0, none⟩), .int .i64 K] W fun e w' => e = .returned (.int .i64 0) ∧ Own w w' g m3) := fun W O => by
        have := own_free O hI2 K (by omega) (by omega)
        rw [p1, ← hm3] at this
        exact this
      have HF2 : Hid (∀ W, Own w W g m3 → Calls Try.prog 11 #[.pointer (some ⟨g, 0, none⟩), .int .i64 K] W fun e w' => e = .returned (.int .i64 9) ∧ Own w w' g m3) := fun W O => by
        have := own_free O hI3 K (by omega) (by omega)
        rw [p2] at this
        exact this
      have HF3 : Hid (∀ W, Own w W g m3 → Calls Try.prog 10 #[.pointer (some ⟨g, 0, none⟩), .int .i64 1, .int .i64 1] W fun e w' => e = .returned (.tuple #[.int .i64 K, .int .i64 0]) ∧ Q w w') := fun W O => by
        have := own_alloc O hI3 (by omega) 1 1
        rw [p3] at this
        refine this.mono ?_
        rintro e w' ⟨e1, o⟩
        exact ⟨e1, o.toQ⟩
      have hme := hme.out
      have hq0 : (b.tmod (j : Int)) = (T : Int) := by rw [Int.tmod_eq_emod_of_nonneg hb0]; exact hT
      have hq1 : size.tdiv P = size / P := Int.tdiv_eq_ediv_of_nonneg (by have := HS.out; omega)
      obtain ⟨D, hD⟩ : ∃ D, D = size / P := ⟨_, rfl⟩
      have hD0 : 0 ≤ D := by rw [hD]; exact Int.ediv_nonneg (by omega) (by omega)
      have hD1 : D ≤ size := by rw [hD]; exact Int.ediv_le_self _ (by omega)
      have hw : wrap64 (size / P) = D := by rw [← hD]; simp [wrap64]; omega
      rw [← hD] at hme hq1
      rw [hK] at HF1 HF2 HF3 hK0 hK1
      have hcase : (D ≤ 64 ∧ D = (j : Int)) ∨ (64 < D ∧ j = 64) := by
        rcases Int.le_total D 64 with h1 | h1
        · rw [Int.min_eq_left h1] at hme
          exact .inl ⟨h1, hme⟩
        · rw [Int.min_eq_right h1] at hme
          rcases Int.lt_or_eq_of_le h1 with h2 | h2
          · exact .inr ⟨h2, by omega⟩
          · exact .inl ⟨by omega, by omega⟩
      clear hme p1 p2 p3 hm2 hm3 hI2 hI3 hc2 hc3 c1 c2 he hit hu hD
      rcases hcase with ⟨hc1, hc2⟩ | ⟨hc1, hc2⟩
      · subst hc2
        have hne : ((j : Int) != (j : Int)) = false := by simp
        have hle : ((L : Int) != L) = false := by simp
        go_wp2_with fail
        refine HA.out.mono ?_
        rintro e w2 ⟨rfl, o2⟩
        have O2 := hide o2
        clear o2
        go_wp2_with fail
        refine (HF1.out _ O2.out).mono ?_
        rintro e w3 ⟨rfl, o3⟩
        have O3 := hide o3
        clear o3
        go_wp2_with fail
        refine (HF2.out _ O3.out).mono ?_
        rintro e w4 ⟨rfl, o4⟩
        have O4 := hide o4
        clear o4
        go_wp2_with fail
        refine (HF3.out _ O4.out).mono ?_
        rintro e w5 ⟨rfl, hq5⟩
        have hs5 := hq5.size
        go_wp2_with fail
        refine (known_any _).mono ?_
        rintro e w6 ⟨rfl, hqw6⟩
        obtain ⟨hcw6, hfw6, hzw6⟩ := hqw6.facts
        try simp at hzw6
        try have hs0w6 : w.heap.size < w6.heap.size := by omega
        try have hs1w6 : w.heap.size + 1 < w6.heap.size := by omega
        go_wp2_with fail
        go_ret
        exact ⟨rfl, (by repeat (first | exact Q.refl _ | assumption | refine Q.drew ?_ | refine Q.drewN ?_ _ | refine Q.alloc ?_ _ | refine Q.set ?_ (by first | (simp; done) | (simp; omega) | omega) _ | refine Q.trans ?_ (by assumption)))⟩
      · have hne : ((j : Int) != 64) = false := by simp; omega
        have hne2 : (j != 64) = false := by simp; omega
        clear hc2
        have hnD : ¬ D ≤ 64 := by omega
        have hdD : decide (D ≤ 64) = false := by simpa using hc1
        have hle : ((L : Int) != L) = false := by simp
        go_wp2_with fail
        refine HA.out.mono ?_
        rintro e w2 ⟨rfl, o2⟩
        have O2 := hide o2
        clear o2
        go_wp2_with fail
        refine (HF1.out _ O2.out).mono ?_
        rintro e w3 ⟨rfl, o3⟩
        have O3 := hide o3
        clear o3
        go_wp2_with fail
        refine (HF2.out _ O3.out).mono ?_
        rintro e w4 ⟨rfl, o4⟩
        have O4 := hide o4
        clear o4
        go_wp2_with fail
        refine (HF3.out _ O4.out).mono ?_
        rintro e w5 ⟨rfl, hq5⟩
        have hs5 := hq5.size
        go_wp2_with fail
        refine (known_any _).mono ?_
        rintro e w6 ⟨rfl, hqw6⟩
        obtain ⟨hcw6, hfw6, hzw6⟩ := hqw6.facts
        try simp at hzw6
        try have hs0w6 : w.heap.size < w6.heap.size := by omega
        try have hs1w6 : w.heap.size + 1 < w6.heap.size := by omega
        go_wp2_with fail
        go_ret
        exact ⟨rfl, (by repeat (first | exact Q.refl _ | assumption | refine Q.drew ?_ | refine Q.drewN ?_ _ | refine Q.alloc ?_ _ | refine Q.set ?_ (by first | (simp; done) | (simp; omega) | omega) _ | refine Q.trans ?_ (by assumption)))⟩
theorem heapFills_any (size P b : Int) (w : World) (hb : 0 ≤ b ∧ b ≤ 255) : Calls Try.prog 3 #[.int .i64 size, .int .i64 P, .int .u8 b] w fun e w' => e = .returned (.bool true) ∧ Q w w' := by
  by_cases h : 400 < size
  · exact fills_big size P b w h
  · cases hs : shapeB 3 size P
    · exact fills_bad size P b w h hs
    · exact fills_good size P b w h hs hb.1 hb.2
end Go.Proofs.Ytegpkcbmgjoicaa
