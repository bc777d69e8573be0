/- The walk of the law NumNames. Conditions: the text is not longer than a text can be. -/
import Derived.Test.YtcjljmegppnlcaaDoorNumNc
import Derived.Test.YtcjljmegppnlcaaDoorNumKn
namespace Go.Proofs.YtcjljmegppnlcaaDoor
open Go.RowKit NP
set_option linter.unusedVariables false
theorem eql_Int (s : Bool) (b : Int) (w : World) : (binOp .eql 23 (.agg #[.bool s, .int .i64 b]) (.agg #[.bool s, .int .i64 b])).run Tryd.prog w = .ok (.bool true) w := by
  simp [go_sem, Tryd.underlying23, Tryd.underlying4, Tryd.underlying3]
theorem neq_Int (s : Bool) (b : Int) (w : World) : (binOp .neq 23 (.agg #[.bool s, .int .i64 b]) (.agg #[.bool s, .int .i64 b])).run Tryd.prog w = .ok (.bool false) w := by
  simp [go_sem, Tryd.underlying23, Tryd.underlying4, Tryd.underlying3]
set_option maxRecDepth 100000 in
set_option maxHeartbeats 8000000 in
theorem NumNames_core (ts : Bool) (tb : Int) (S A Y : ByteArray) (e : Int) (cs : Bool) (cb g : Int) (xs : Bool) (xb i j : Int)
    (hN : ∀ W, Calls Tryd.prog 4 #[.agg #[.bool ts, .int .i64 tb]] W fun z w' => z = .returned (.tuple #[.string A, .int .i64 e]) ∧ Q W w')
    (hN2 : ∀ W, Calls Tryd.prog 5 #[.agg #[.bool ts, .int .i64 tb]] W fun z w' => z = .returned (.tuple #[.string A, .int .i64 e]) ∧ Q W w')
    (hR : ∀ W, Calls Tryd.prog 6 #[.string S] W fun z w' => z = .returned (.tuple #[.agg #[.bool cs, .int .i64 cb], .int .i64 g]) ∧ Q W w')
    (hR2 : ∀ W, Calls Tryd.prog 7 #[.string S] W fun z w' => z = .returned (.tuple #[.agg #[.bool cs, .int .i64 cb], .int .i64 g]) ∧ Q W w')
    (hR3 : ∀ W, Calls Tryd.prog 6 #[.string A] W fun z w' => z = .returned (.tuple #[.agg #[.bool xs, .int .i64 xb], .int .i64 i]) ∧ Q W w')
    (hN3 : ∀ W, Calls Tryd.prog 4 #[.agg #[.bool cs, .int .i64 cb]] W fun z w' => z = .returned (.tuple #[.string Y, .int .i64 j]) ∧ Q W w')
    (h1 : e = 0 → i = 0 ∧ xs = ts ∧ xb = tb) (h2 : g = 0 → j = 0 ∧ Y = S) (w : World) :
    Calls Tryd.prog 3 #[.agg #[.bool ts, .int .i64 tb], .string S] w fun z w' => z = .returned (.bool true) ∧ Q w w' := by
  have HN := hide hN
  have HN2 := hide hN2
  have HR := hide hR
  have HR2 := hide hR2
  have HR3 := hide hR3
  have HN3 := hide hN3
  have hAA : (A.toList == A.toList) = true := by simp
  have hSS : (S.toList == S.toList) = true := by simp
  have hee : (e != e) = false := by simp
  have hgg : (g != g) = false := by simp
  have hcc := neq_Int cs cb
  have htt := eql_Int ts tb
  obtain ⟨w0, hw0⟩ : ∃ w0, w.alloc (.cells #[.bool ts, .int .i64 tb] 23) = w0 := ⟨_, rfl⟩
  have HBT := hide (show w0.heap[w.heap.size]? = some (.cells #[.bool ts, .int .i64 tb] 23 (0, 0)) by rw [← hw0]; exact heap_alloc_new w _)
  have HW0 := hide hw0
  have HQ0 := hide (show Q w w0 by rw [← hw0]; exact (Q.refl w).alloc _)
  clear hN hN2 hR hR2 hR3 hN3 hw0
  by_cases he : e = 0
  · by_cases hg : g = 0
    · skip
      obtain ⟨e1, e2, e3⟩ := h1 he
      subst e1; subst e2; subst e3
      subst he
      obtain ⟨e1, e2⟩ := h2 hg
      subst e1; subst e2
      subst hg
      clear h1 h2
      go_enter Tryd.func3, Tryd.ntmps3
      go_wp2_with fail
      rw [HW0.out]
      refine (HN.out _).mono ?_
      rintro e' w1 ⟨rfl, hq1⟩
      have bBT := (hq1.below.block _ (Array.getElem?_eq_some_iff.1 HBT.out).1).trans HBT.out
      have BT0_w1 : w1.cell? ⟨w.heap.size, 0, none⟩ = some (.bool xs) := by rw [cell_of_row w1 _ 0 _ _ _ bBT]; rfl
      have BT1_w1 : w1.cell? ⟨w.heap.size, 1, none⟩ = some (.int .i64 xb) := by rw [cell_of_row w1 _ 1 _ _ _ bBT]; rfl
      have ltBT_w1 : w.heap.size < w1.heap.size := (Array.getElem?_eq_some_iff.1 bBT).1
      have HBT := hide bBT
      clear bBT
      have HQ1 := hide (HQ0.out.trans hq1)
      clear hq1
      go_wp2_with fail
      refine (HN2.out _).mono ?_
      rintro e' w2 ⟨rfl, hq2⟩
      have bBT := (hq2.below.block _ (Array.getElem?_eq_some_iff.1 HBT.out).1).trans HBT.out
      have BT0_w2 : w2.cell? ⟨w.heap.size, 0, none⟩ = some (.bool xs) := by rw [cell_of_row w2 _ 0 _ _ _ bBT]; rfl
      have BT1_w2 : w2.cell? ⟨w.heap.size, 1, none⟩ = some (.int .i64 xb) := by rw [cell_of_row w2 _ 1 _ _ _ bBT]; rfl
      have ltBT_w2 : w.heap.size < w2.heap.size := (Array.getElem?_eq_some_iff.1 bBT).1
      have HBT := hide bBT
      clear bBT
      have HQ2 := hide (HQ1.out.trans hq2)
      clear hq2
      go_wp2_with fail
      refine (HR.out _).mono ?_
      rintro e' w3 ⟨rfl, hq3⟩
      have bBT := (hq3.below.block _ (Array.getElem?_eq_some_iff.1 HBT.out).1).trans HBT.out
      have BT0_w3 : w3.cell? ⟨w.heap.size, 0, none⟩ = some (.bool xs) := by rw [cell_of_row w3 _ 0 _ _ _ bBT]; rfl
      have BT1_w3 : w3.cell? ⟨w.heap.size, 1, none⟩ = some (.int .i64 xb) := by rw [cell_of_row w3 _ 1 _ _ _ bBT]; rfl
      have ltBT_w3 : w.heap.size < w3.heap.size := (Array.getElem?_eq_some_iff.1 bBT).1
      have HBT := hide bBT
      clear bBT
      have HQ3 := hide (HQ2.out.trans hq3)
      clear hq3
      obtain ⟨w3a, hw3a⟩ : ∃ w3a, w3.alloc (.cells #[.bool cs, .int .i64 cb] 23) = w3a := ⟨_, rfl⟩
      have hqa3 : Q w3 w3a := by rw [← hw3a]; exact (Q.refl w3).alloc _
      have bBC : w3a.heap[w3.heap.size]? = some (.cells #[.bool cs, .int .i64 cb] 23 (0, 0)) := by rw [← hw3a]; exact heap_alloc_new w3 _
      have bBT := (hqa3.below.block _ (Array.getElem?_eq_some_iff.1 HBT.out).1).trans HBT.out
      have BT0_w3a : w3a.cell? ⟨w.heap.size, 0, none⟩ = some (.bool xs) := by rw [cell_of_row w3a _ 0 _ _ _ bBT]; rfl
      have BT1_w3a : w3a.cell? ⟨w.heap.size, 1, none⟩ = some (.int .i64 xb) := by rw [cell_of_row w3a _ 1 _ _ _ bBT]; rfl
      have ltBT_w3a : w.heap.size < w3a.heap.size := (Array.getElem?_eq_some_iff.1 bBT).1
      have HBT := hide bBT
      clear bBT
      have BC0_w3a : w3a.cell? ⟨w3.heap.size, 0, none⟩ = some (.bool cs) := by rw [cell_of_row w3a _ 0 _ _ _ bBC]; rfl
      have BC1_w3a : w3a.cell? ⟨w3.heap.size, 1, none⟩ = some (.int .i64 cb) := by rw [cell_of_row w3a _ 1 _ _ _ bBC]; rfl
      have HBC := hide bBC
      have HW3a := hide hw3a
      have HQ3a := hide (HQ3.out.trans hqa3)
      clear hw3a hqa3 bBC
      go_wp2_with fail
      rw [HW3a.out]
      refine (HR2.out _).mono ?_
      rintro e' w4 ⟨rfl, hq4⟩
      have bBT := (hq4.below.block _ (Array.getElem?_eq_some_iff.1 HBT.out).1).trans HBT.out
      have BT0_w4 : w4.cell? ⟨w.heap.size, 0, none⟩ = some (.bool xs) := by rw [cell_of_row w4 _ 0 _ _ _ bBT]; rfl
      have BT1_w4 : w4.cell? ⟨w.heap.size, 1, none⟩ = some (.int .i64 xb) := by rw [cell_of_row w4 _ 1 _ _ _ bBT]; rfl
      have ltBT_w4 : w.heap.size < w4.heap.size := (Array.getElem?_eq_some_iff.1 bBT).1
      have HBT := hide bBT
      clear bBT
      have bBC := (hq4.below.block _ (Array.getElem?_eq_some_iff.1 HBC.out).1).trans HBC.out
      have BC0_w4 : w4.cell? ⟨w3.heap.size, 0, none⟩ = some (.bool cs) := by rw [cell_of_row w4 _ 0 _ _ _ bBC]; rfl
      have BC1_w4 : w4.cell? ⟨w3.heap.size, 1, none⟩ = some (.int .i64 cb) := by rw [cell_of_row w4 _ 1 _ _ _ bBC]; rfl
      have ltBC_w4 : w3.heap.size < w4.heap.size := (Array.getElem?_eq_some_iff.1 bBC).1
      have HBC := hide bBC
      clear bBC
      have HQ4 := hide (HQ3a.out.trans hq4)
      clear hq4
      obtain ⟨w4a, hw4a⟩ : ∃ w4a, w4.alloc (.cells #[.bool cs, .int .i64 cb] 23) = w4a := ⟨_, rfl⟩
      have hqa4 : Q w4 w4a := by rw [← hw4a]; exact (Q.refl w4).alloc _
      have bBD : w4a.heap[w4.heap.size]? = some (.cells #[.bool cs, .int .i64 cb] 23 (0, 0)) := by rw [← hw4a]; exact heap_alloc_new w4 _
      have bBT := (hqa4.below.block _ (Array.getElem?_eq_some_iff.1 HBT.out).1).trans HBT.out
      have BT0_w4a : w4a.cell? ⟨w.heap.size, 0, none⟩ = some (.bool xs) := by rw [cell_of_row w4a _ 0 _ _ _ bBT]; rfl
      have BT1_w4a : w4a.cell? ⟨w.heap.size, 1, none⟩ = some (.int .i64 xb) := by rw [cell_of_row w4a _ 1 _ _ _ bBT]; rfl
      have ltBT_w4a : w.heap.size < w4a.heap.size := (Array.getElem?_eq_some_iff.1 bBT).1
      have HBT := hide bBT
      clear bBT
      have bBC := (hqa4.below.block _ (Array.getElem?_eq_some_iff.1 HBC.out).1).trans HBC.out
      have BC0_w4a : w4a.cell? ⟨w3.heap.size, 0, none⟩ = some (.bool cs) := by rw [cell_of_row w4a _ 0 _ _ _ bBC]; rfl
      have BC1_w4a : w4a.cell? ⟨w3.heap.size, 1, none⟩ = some (.int .i64 cb) := by rw [cell_of_row w4a _ 1 _ _ _ bBC]; rfl
      have ltBC_w4a : w3.heap.size < w4a.heap.size := (Array.getElem?_eq_some_iff.1 bBC).1
      have HBC := hide bBC
      clear bBC
      have BD0_w4a : w4a.cell? ⟨w4.heap.size, 0, none⟩ = some (.bool cs) := by rw [cell_of_row w4a _ 0 _ _ _ bBD]; rfl
      have BD1_w4a : w4a.cell? ⟨w4.heap.size, 1, none⟩ = some (.int .i64 cb) := by rw [cell_of_row w4a _ 1 _ _ _ bBD]; rfl
      have HBD := hide bBD
      have HW4a := hide hw4a
      have HQ4a := hide (HQ4.out.trans hqa4)
      clear hw4a hqa4 bBD
      go_wp2_with fail
      rw [HW4a.out]
      refine (HR3.out _).mono ?_
      rintro e' w5 ⟨rfl, hq5⟩
      have bBT := (hq5.below.block _ (Array.getElem?_eq_some_iff.1 HBT.out).1).trans HBT.out
      have BT0_w5 : w5.cell? ⟨w.heap.size, 0, none⟩ = some (.bool xs) := by rw [cell_of_row w5 _ 0 _ _ _ bBT]; rfl
      have BT1_w5 : w5.cell? ⟨w.heap.size, 1, none⟩ = some (.int .i64 xb) := by rw [cell_of_row w5 _ 1 _ _ _ bBT]; rfl
      have ltBT_w5 : w.heap.size < w5.heap.size := (Array.getElem?_eq_some_iff.1 bBT).1
      have HBT := hide bBT
      clear bBT
      have bBC := (hq5.below.block _ (Array.getElem?_eq_some_iff.1 HBC.out).1).trans HBC.out
      have BC0_w5 : w5.cell? ⟨w3.heap.size, 0, none⟩ = some (.bool cs) := by rw [cell_of_row w5 _ 0 _ _ _ bBC]; rfl
      have BC1_w5 : w5.cell? ⟨w3.heap.size, 1, none⟩ = some (.int .i64 cb) := by rw [cell_of_row w5 _ 1 _ _ _ bBC]; rfl
      have ltBC_w5 : w3.heap.size < w5.heap.size := (Array.getElem?_eq_some_iff.1 bBC).1
      have HBC := hide bBC
      clear bBC
      have bBD := (hq5.below.block _ (Array.getElem?_eq_some_iff.1 HBD.out).1).trans HBD.out
      have BD0_w5 : w5.cell? ⟨w4.heap.size, 0, none⟩ = some (.bool cs) := by rw [cell_of_row w5 _ 0 _ _ _ bBD]; rfl
      have BD1_w5 : w5.cell? ⟨w4.heap.size, 1, none⟩ = some (.int .i64 cb) := by rw [cell_of_row w5 _ 1 _ _ _ bBD]; rfl
      have ltBD_w5 : w4.heap.size < w5.heap.size := (Array.getElem?_eq_some_iff.1 bBD).1
      have HBD := hide bBD
      clear bBD
      have HQ5 := hide (HQ4a.out.trans hq5)
      clear hq5
      obtain ⟨w5a, hw5a⟩ : ∃ w5a, w5.alloc (.cells #[.bool xs, .int .i64 xb] 23) = w5a := ⟨_, rfl⟩
      have hqa5 : Q w5 w5a := by rw [← hw5a]; exact (Q.refl w5).alloc _
      have bBX : w5a.heap[w5.heap.size]? = some (.cells #[.bool xs, .int .i64 xb] 23 (0, 0)) := by rw [← hw5a]; exact heap_alloc_new w5 _
      have bBT := (hqa5.below.block _ (Array.getElem?_eq_some_iff.1 HBT.out).1).trans HBT.out
      have BT0_w5a : w5a.cell? ⟨w.heap.size, 0, none⟩ = some (.bool xs) := by rw [cell_of_row w5a _ 0 _ _ _ bBT]; rfl
      have BT1_w5a : w5a.cell? ⟨w.heap.size, 1, none⟩ = some (.int .i64 xb) := by rw [cell_of_row w5a _ 1 _ _ _ bBT]; rfl
      have ltBT_w5a : w.heap.size < w5a.heap.size := (Array.getElem?_eq_some_iff.1 bBT).1
      have HBT := hide bBT
      clear bBT
      have bBC := (hqa5.below.block _ (Array.getElem?_eq_some_iff.1 HBC.out).1).trans HBC.out
      have BC0_w5a : w5a.cell? ⟨w3.heap.size, 0, none⟩ = some (.bool cs) := by rw [cell_of_row w5a _ 0 _ _ _ bBC]; rfl
      have BC1_w5a : w5a.cell? ⟨w3.heap.size, 1, none⟩ = some (.int .i64 cb) := by rw [cell_of_row w5a _ 1 _ _ _ bBC]; rfl
      have ltBC_w5a : w3.heap.size < w5a.heap.size := (Array.getElem?_eq_some_iff.1 bBC).1
      have HBC := hide bBC
      clear bBC
      have bBD := (hqa5.below.block _ (Array.getElem?_eq_some_iff.1 HBD.out).1).trans HBD.out
      have BD0_w5a : w5a.cell? ⟨w4.heap.size, 0, none⟩ = some (.bool cs) := by rw [cell_of_row w5a _ 0 _ _ _ bBD]; rfl
      have BD1_w5a : w5a.cell? ⟨w4.heap.size, 1, none⟩ = some (.int .i64 cb) := by rw [cell_of_row w5a _ 1 _ _ _ bBD]; rfl
      have ltBD_w5a : w4.heap.size < w5a.heap.size := (Array.getElem?_eq_some_iff.1 bBD).1
      have HBD := hide bBD
      clear bBD
      have BX0_w5a : w5a.cell? ⟨w5.heap.size, 0, none⟩ = some (.bool xs) := by rw [cell_of_row w5a _ 0 _ _ _ bBX]; rfl
      have BX1_w5a : w5a.cell? ⟨w5.heap.size, 1, none⟩ = some (.int .i64 xb) := by rw [cell_of_row w5a _ 1 _ _ _ bBX]; rfl
      have HBX := hide bBX
      have HW5a := hide hw5a
      have HQ5a := hide (HQ5.out.trans hqa5)
      clear hw5a hqa5 bBX
      go_wp2_with fail
      rw [HW5a.out]
      refine (HN3.out _).mono ?_
      rintro e' w6 ⟨rfl, hq6⟩
      have bBT := (hq6.below.block _ (Array.getElem?_eq_some_iff.1 HBT.out).1).trans HBT.out
      have BT0_w6 : w6.cell? ⟨w.heap.size, 0, none⟩ = some (.bool xs) := by rw [cell_of_row w6 _ 0 _ _ _ bBT]; rfl
      have BT1_w6 : w6.cell? ⟨w.heap.size, 1, none⟩ = some (.int .i64 xb) := by rw [cell_of_row w6 _ 1 _ _ _ bBT]; rfl
      have ltBT_w6 : w.heap.size < w6.heap.size := (Array.getElem?_eq_some_iff.1 bBT).1
      have HBT := hide bBT
      clear bBT
      have bBC := (hq6.below.block _ (Array.getElem?_eq_some_iff.1 HBC.out).1).trans HBC.out
      have BC0_w6 : w6.cell? ⟨w3.heap.size, 0, none⟩ = some (.bool cs) := by rw [cell_of_row w6 _ 0 _ _ _ bBC]; rfl
      have BC1_w6 : w6.cell? ⟨w3.heap.size, 1, none⟩ = some (.int .i64 cb) := by rw [cell_of_row w6 _ 1 _ _ _ bBC]; rfl
      have ltBC_w6 : w3.heap.size < w6.heap.size := (Array.getElem?_eq_some_iff.1 bBC).1
      have HBC := hide bBC
      clear bBC
      have bBD := (hq6.below.block _ (Array.getElem?_eq_some_iff.1 HBD.out).1).trans HBD.out
      have BD0_w6 : w6.cell? ⟨w4.heap.size, 0, none⟩ = some (.bool cs) := by rw [cell_of_row w6 _ 0 _ _ _ bBD]; rfl
      have BD1_w6 : w6.cell? ⟨w4.heap.size, 1, none⟩ = some (.int .i64 cb) := by rw [cell_of_row w6 _ 1 _ _ _ bBD]; rfl
      have ltBD_w6 : w4.heap.size < w6.heap.size := (Array.getElem?_eq_some_iff.1 bBD).1
      have HBD := hide bBD
      clear bBD
      have bBX := (hq6.below.block _ (Array.getElem?_eq_some_iff.1 HBX.out).1).trans HBX.out
      have BX0_w6 : w6.cell? ⟨w5.heap.size, 0, none⟩ = some (.bool xs) := by rw [cell_of_row w6 _ 0 _ _ _ bBX]; rfl
      have BX1_w6 : w6.cell? ⟨w5.heap.size, 1, none⟩ = some (.int .i64 xb) := by rw [cell_of_row w6 _ 1 _ _ _ bBX]; rfl
      have ltBX_w6 : w5.heap.size < w6.heap.size := (Array.getElem?_eq_some_iff.1 bBX).1
      have HBX := hide bBX
      clear bBX
      have HQ6 := hide (HQ5a.out.trans hq6)
      clear hq6
      go_wp2_with fail
      refine (known_any _).mono ?_
      rintro e' w7 ⟨rfl, hq7⟩
      have HQ7 := hide (HQ6.out.trans hq7)
      clear hq7
      go_wp2_with fail
      go_ret
      exact ⟨rfl, HQ7.out⟩
    · skip
      obtain ⟨e1, e2, e3⟩ := h1 he
      subst e1; subst e2; subst e3
      subst he
      have hg2 : (g != 0) = true := by simpa using hg
      clear hg
      clear h1 h2
      go_enter Tryd.func3, Tryd.ntmps3
      go_wp2_with fail
      rw [HW0.out]
      refine (HN.out _).mono ?_
      rintro e' w1 ⟨rfl, hq1⟩
      have bBT := (hq1.below.block _ (Array.getElem?_eq_some_iff.1 HBT.out).1).trans HBT.out
      have BT0_w1 : w1.cell? ⟨w.heap.size, 0, none⟩ = some (.bool xs) := by rw [cell_of_row w1 _ 0 _ _ _ bBT]; rfl
      have BT1_w1 : w1.cell? ⟨w.heap.size, 1, none⟩ = some (.int .i64 xb) := by rw [cell_of_row w1 _ 1 _ _ _ bBT]; rfl
      have ltBT_w1 : w.heap.size < w1.heap.size := (Array.getElem?_eq_some_iff.1 bBT).1
      have HBT := hide bBT
      clear bBT
      have HQ1 := hide (HQ0.out.trans hq1)
      clear hq1
      go_wp2_with fail
      refine (HN2.out _).mono ?_
      rintro e' w2 ⟨rfl, hq2⟩
      have bBT := (hq2.below.block _ (Array.getElem?_eq_some_iff.1 HBT.out).1).trans HBT.out
      have BT0_w2 : w2.cell? ⟨w.heap.size, 0, none⟩ = some (.bool xs) := by rw [cell_of_row w2 _ 0 _ _ _ bBT]; rfl
      have BT1_w2 : w2.cell? ⟨w.heap.size, 1, none⟩ = some (.int .i64 xb) := by rw [cell_of_row w2 _ 1 _ _ _ bBT]; rfl
      have ltBT_w2 : w.heap.size < w2.heap.size := (Array.getElem?_eq_some_iff.1 bBT).1
      have HBT := hide bBT
      clear bBT
      have HQ2 := hide (HQ1.out.trans hq2)
      clear hq2
      go_wp2_with fail
      refine (HR.out _).mono ?_
      rintro e' w3 ⟨rfl, hq3⟩
      have bBT := (hq3.below.block _ (Array.getElem?_eq_some_iff.1 HBT.out).1).trans HBT.out
      have BT0_w3 : w3.cell? ⟨w.heap.size, 0, none⟩ = some (.bool xs) := by rw [cell_of_row w3 _ 0 _ _ _ bBT]; rfl
      have BT1_w3 : w3.cell? ⟨w.heap.size, 1, none⟩ = some (.int .i64 xb) := by rw [cell_of_row w3 _ 1 _ _ _ bBT]; rfl
      have ltBT_w3 : w.heap.size < w3.heap.size := (Array.getElem?_eq_some_iff.1 bBT).1
      have HBT := hide bBT
      clear bBT
      have HQ3 := hide (HQ2.out.trans hq3)
      clear hq3
      obtain ⟨w3a, hw3a⟩ : ∃ w3a, w3.alloc (.cells #[.bool cs, .int .i64 cb] 23) = w3a := ⟨_, rfl⟩
      have hqa3 : Q w3 w3a := by rw [← hw3a]; exact (Q.refl w3).alloc _
      have bBC : w3a.heap[w3.heap.size]? = some (.cells #[.bool cs, .int .i64 cb] 23 (0, 0)) := by rw [← hw3a]; exact heap_alloc_new w3 _
      have bBT := (hqa3.below.block _ (Array.getElem?_eq_some_iff.1 HBT.out).1).trans HBT.out
      have BT0_w3a : w3a.cell? ⟨w.heap.size, 0, none⟩ = some (.bool xs) := by rw [cell_of_row w3a _ 0 _ _ _ bBT]; rfl
      have BT1_w3a : w3a.cell? ⟨w.heap.size, 1, none⟩ = some (.int .i64 xb) := by rw [cell_of_row w3a _ 1 _ _ _ bBT]; rfl
      have ltBT_w3a : w.heap.size < w3a.heap.size := (Array.getElem?_eq_some_iff.1 bBT).1
      have HBT := hide bBT
      clear bBT
      have BC0_w3a : w3a.cell? ⟨w3.heap.size, 0, none⟩ = some (.bool cs) := by rw [cell_of_row w3a _ 0 _ _ _ bBC]; rfl
      have BC1_w3a : w3a.cell? ⟨w3.heap.size, 1, none⟩ = some (.int .i64 cb) := by rw [cell_of_row w3a _ 1 _ _ _ bBC]; rfl
      have HBC := hide bBC
      have HW3a := hide hw3a
      have HQ3a := hide (HQ3.out.trans hqa3)
      clear hw3a hqa3 bBC
      go_wp2_with fail
      rw [HW3a.out]
      refine (HR2.out _).mono ?_
      rintro e' w4 ⟨rfl, hq4⟩
      have bBT := (hq4.below.block _ (Array.getElem?_eq_some_iff.1 HBT.out).1).trans HBT.out
      have BT0_w4 : w4.cell? ⟨w.heap.size, 0, none⟩ = some (.bool xs) := by rw [cell_of_row w4 _ 0 _ _ _ bBT]; rfl
      have BT1_w4 : w4.cell? ⟨w.heap.size, 1, none⟩ = some (.int .i64 xb) := by rw [cell_of_row w4 _ 1 _ _ _ bBT]; rfl
      have ltBT_w4 : w.heap.size < w4.heap.size := (Array.getElem?_eq_some_iff.1 bBT).1
      have HBT := hide bBT
      clear bBT
      have bBC := (hq4.below.block _ (Array.getElem?_eq_some_iff.1 HBC.out).1).trans HBC.out
      have BC0_w4 : w4.cell? ⟨w3.heap.size, 0, none⟩ = some (.bool cs) := by rw [cell_of_row w4 _ 0 _ _ _ bBC]; rfl
      have BC1_w4 : w4.cell? ⟨w3.heap.size, 1, none⟩ = some (.int .i64 cb) := by rw [cell_of_row w4 _ 1 _ _ _ bBC]; rfl
      have ltBC_w4 : w3.heap.size < w4.heap.size := (Array.getElem?_eq_some_iff.1 bBC).1
      have HBC := hide bBC
      clear bBC
      have HQ4 := hide (HQ3a.out.trans hq4)
      clear hq4
      obtain ⟨w4a, hw4a⟩ : ∃ w4a, w4.alloc (.cells #[.bool cs, .int .i64 cb] 23) = w4a := ⟨_, rfl⟩
      have hqa4 : Q w4 w4a := by rw [← hw4a]; exact (Q.refl w4).alloc _
      have bBD : w4a.heap[w4.heap.size]? = some (.cells #[.bool cs, .int .i64 cb] 23 (0, 0)) := by rw [← hw4a]; exact heap_alloc_new w4 _
      have bBT := (hqa4.below.block _ (Array.getElem?_eq_some_iff.1 HBT.out).1).trans HBT.out
      have BT0_w4a : w4a.cell? ⟨w.heap.size, 0, none⟩ = some (.bool xs) := by rw [cell_of_row w4a _ 0 _ _ _ bBT]; rfl
      have BT1_w4a : w4a.cell? ⟨w.heap.size, 1, none⟩ = some (.int .i64 xb) := by rw [cell_of_row w4a _ 1 _ _ _ bBT]; rfl
      have ltBT_w4a : w.heap.size < w4a.heap.size := (Array.getElem?_eq_some_iff.1 bBT).1
      have HBT := hide bBT
      clear bBT
      have bBC := (hqa4.below.block _ (Array.getElem?_eq_some_iff.1 HBC.out).1).trans HBC.out
      have BC0_w4a : w4a.cell? ⟨w3.heap.size, 0, none⟩ = some (.bool cs) := by rw [cell_of_row w4a _ 0 _ _ _ bBC]; rfl
      have BC1_w4a : w4a.cell? ⟨w3.heap.size, 1, none⟩ = some (.int .i64 cb) := by rw [cell_of_row w4a _ 1 _ _ _ bBC]; rfl
      have ltBC_w4a : w3.heap.size < w4a.heap.size := (Array.getElem?_eq_some_iff.1 bBC).1
      have HBC := hide bBC
      clear bBC
      have BD0_w4a : w4a.cell? ⟨w4.heap.size, 0, none⟩ = some (.bool cs) := by rw [cell_of_row w4a _ 0 _ _ _ bBD]; rfl
      have BD1_w4a : w4a.cell? ⟨w4.heap.size, 1, none⟩ = some (.int .i64 cb) := by rw [cell_of_row w4a _ 1 _ _ _ bBD]; rfl
      have HBD := hide bBD
      have HW4a := hide hw4a
      have HQ4a := hide (HQ4.out.trans hqa4)
      clear hw4a hqa4 bBD
      go_wp2_with fail
      rw [HW4a.out]
      refine (HR3.out _).mono ?_
      rintro e' w5 ⟨rfl, hq5⟩
      have bBT := (hq5.below.block _ (Array.getElem?_eq_some_iff.1 HBT.out).1).trans HBT.out
      have BT0_w5 : w5.cell? ⟨w.heap.size, 0, none⟩ = some (.bool xs) := by rw [cell_of_row w5 _ 0 _ _ _ bBT]; rfl
      have BT1_w5 : w5.cell? ⟨w.heap.size, 1, none⟩ = some (.int .i64 xb) := by rw [cell_of_row w5 _ 1 _ _ _ bBT]; rfl
      have ltBT_w5 : w.heap.size < w5.heap.size := (Array.getElem?_eq_some_iff.1 bBT).1
      have HBT := hide bBT
      clear bBT
      have bBC := (hq5.below.block _ (Array.getElem?_eq_some_iff.1 HBC.out).1).trans HBC.out
      have BC0_w5 : w5.cell? ⟨w3.heap.size, 0, none⟩ = some (.bool cs) := by rw [cell_of_row w5 _ 0 _ _ _ bBC]; rfl
      have BC1_w5 : w5.cell? ⟨w3.heap.size, 1, none⟩ = some (.int .i64 cb) := by rw [cell_of_row w5 _ 1 _ _ _ bBC]; rfl
      have ltBC_w5 : w3.heap.size < w5.heap.size := (Array.getElem?_eq_some_iff.1 bBC).1
      have HBC := hide bBC
      clear bBC
      have bBD := (hq5.below.block _ (Array.getElem?_eq_some_iff.1 HBD.out).1).trans HBD.out
      have BD0_w5 : w5.cell? ⟨w4.heap.size, 0, none⟩ = some (.bool cs) := by rw [cell_of_row w5 _ 0 _ _ _ bBD]; rfl
      have BD1_w5 : w5.cell? ⟨w4.heap.size, 1, none⟩ = some (.int .i64 cb) := by rw [cell_of_row w5 _ 1 _ _ _ bBD]; rfl
      have ltBD_w5 : w4.heap.size < w5.heap.size := (Array.getElem?_eq_some_iff.1 bBD).1
      have HBD := hide bBD
      clear bBD
      have HQ5 := hide (HQ4a.out.trans hq5)
      clear hq5
      obtain ⟨w5a, hw5a⟩ : ∃ w5a, w5.alloc (.cells #[.bool xs, .int .i64 xb] 23) = w5a := ⟨_, rfl⟩
      have hqa5 : Q w5 w5a := by rw [← hw5a]; exact (Q.refl w5).alloc _
      have bBX : w5a.heap[w5.heap.size]? = some (.cells #[.bool xs, .int .i64 xb] 23 (0, 0)) := by rw [← hw5a]; exact heap_alloc_new w5 _
      have bBT := (hqa5.below.block _ (Array.getElem?_eq_some_iff.1 HBT.out).1).trans HBT.out
      have BT0_w5a : w5a.cell? ⟨w.heap.size, 0, none⟩ = some (.bool xs) := by rw [cell_of_row w5a _ 0 _ _ _ bBT]; rfl
      have BT1_w5a : w5a.cell? ⟨w.heap.size, 1, none⟩ = some (.int .i64 xb) := by rw [cell_of_row w5a _ 1 _ _ _ bBT]; rfl
      have ltBT_w5a : w.heap.size < w5a.heap.size := (Array.getElem?_eq_some_iff.1 bBT).1
      have HBT := hide bBT
      clear bBT
      have bBC := (hqa5.below.block _ (Array.getElem?_eq_some_iff.1 HBC.out).1).trans HBC.out
      have BC0_w5a : w5a.cell? ⟨w3.heap.size, 0, none⟩ = some (.bool cs) := by rw [cell_of_row w5a _ 0 _ _ _ bBC]; rfl
      have BC1_w5a : w5a.cell? ⟨w3.heap.size, 1, none⟩ = some (.int .i64 cb) := by rw [cell_of_row w5a _ 1 _ _ _ bBC]; rfl
      have ltBC_w5a : w3.heap.size < w5a.heap.size := (Array.getElem?_eq_some_iff.1 bBC).1
      have HBC := hide bBC
      clear bBC
      have bBD := (hqa5.below.block _ (Array.getElem?_eq_some_iff.1 HBD.out).1).trans HBD.out
      have BD0_w5a : w5a.cell? ⟨w4.heap.size, 0, none⟩ = some (.bool cs) := by rw [cell_of_row w5a _ 0 _ _ _ bBD]; rfl
      have BD1_w5a : w5a.cell? ⟨w4.heap.size, 1, none⟩ = some (.int .i64 cb) := by rw [cell_of_row w5a _ 1 _ _ _ bBD]; rfl
      have ltBD_w5a : w4.heap.size < w5a.heap.size := (Array.getElem?_eq_some_iff.1 bBD).1
      have HBD := hide bBD
      clear bBD
      have BX0_w5a : w5a.cell? ⟨w5.heap.size, 0, none⟩ = some (.bool xs) := by rw [cell_of_row w5a _ 0 _ _ _ bBX]; rfl
      have BX1_w5a : w5a.cell? ⟨w5.heap.size, 1, none⟩ = some (.int .i64 xb) := by rw [cell_of_row w5a _ 1 _ _ _ bBX]; rfl
      have HBX := hide bBX
      have HW5a := hide hw5a
      have HQ5a := hide (HQ5.out.trans hqa5)
      clear hw5a hqa5 bBX
      go_wp2_with fail
      rw [HW5a.out]
      refine (HN3.out _).mono ?_
      rintro e' w6 ⟨rfl, hq6⟩
      have bBT := (hq6.below.block _ (Array.getElem?_eq_some_iff.1 HBT.out).1).trans HBT.out
      have BT0_w6 : w6.cell? ⟨w.heap.size, 0, none⟩ = some (.bool xs) := by rw [cell_of_row w6 _ 0 _ _ _ bBT]; rfl
      have BT1_w6 : w6.cell? ⟨w.heap.size, 1, none⟩ = some (.int .i64 xb) := by rw [cell_of_row w6 _ 1 _ _ _ bBT]; rfl
      have ltBT_w6 : w.heap.size < w6.heap.size := (Array.getElem?_eq_some_iff.1 bBT).1
      have HBT := hide bBT
      clear bBT
      have bBC := (hq6.below.block _ (Array.getElem?_eq_some_iff.1 HBC.out).1).trans HBC.out
      have BC0_w6 : w6.cell? ⟨w3.heap.size, 0, none⟩ = some (.bool cs) := by rw [cell_of_row w6 _ 0 _ _ _ bBC]; rfl
      have BC1_w6 : w6.cell? ⟨w3.heap.size, 1, none⟩ = some (.int .i64 cb) := by rw [cell_of_row w6 _ 1 _ _ _ bBC]; rfl
      have ltBC_w6 : w3.heap.size < w6.heap.size := (Array.getElem?_eq_some_iff.1 bBC).1
      have HBC := hide bBC
      clear bBC
      have bBD := (hq6.below.block _ (Array.getElem?_eq_some_iff.1 HBD.out).1).trans HBD.out
      have BD0_w6 : w6.cell? ⟨w4.heap.size, 0, none⟩ = some (.bool cs) := by rw [cell_of_row w6 _ 0 _ _ _ bBD]; rfl
      have BD1_w6 : w6.cell? ⟨w4.heap.size, 1, none⟩ = some (.int .i64 cb) := by rw [cell_of_row w6 _ 1 _ _ _ bBD]; rfl
      have ltBD_w6 : w4.heap.size < w6.heap.size := (Array.getElem?_eq_some_iff.1 bBD).1
      have HBD := hide bBD
      clear bBD
      have bBX := (hq6.below.block _ (Array.getElem?_eq_some_iff.1 HBX.out).1).trans HBX.out
      have BX0_w6 : w6.cell? ⟨w5.heap.size, 0, none⟩ = some (.bool xs) := by rw [cell_of_row w6 _ 0 _ _ _ bBX]; rfl
      have BX1_w6 : w6.cell? ⟨w5.heap.size, 1, none⟩ = some (.int .i64 xb) := by rw [cell_of_row w6 _ 1 _ _ _ bBX]; rfl
      have ltBX_w6 : w5.heap.size < w6.heap.size := (Array.getElem?_eq_some_iff.1 bBX).1
      have HBX := hide bBX
      clear bBX
      have HQ6 := hide (HQ5a.out.trans hq6)
      clear hq6
      go_wp2_with fail
      refine (known_any _).mono ?_
      rintro e' w7 ⟨rfl, hq7⟩
      have HQ7 := hide (HQ6.out.trans hq7)
      clear hq7
      go_wp2_with fail
      go_ret
      exact ⟨rfl, HQ7.out⟩
  · by_cases hg : g = 0
    · skip
      have he2 : (e != 0) = true := by simpa using he
      clear he
      obtain ⟨e1, e2⟩ := h2 hg
      subst e1; subst e2
      subst hg
      clear h1 h2
      go_enter Tryd.func3, Tryd.ntmps3
      go_wp2_with fail
      rw [HW0.out]
      refine (HN.out _).mono ?_
      rintro e' w1 ⟨rfl, hq1⟩
      have bBT := (hq1.below.block _ (Array.getElem?_eq_some_iff.1 HBT.out).1).trans HBT.out
      have BT0_w1 : w1.cell? ⟨w.heap.size, 0, none⟩ = some (.bool ts) := by rw [cell_of_row w1 _ 0 _ _ _ bBT]; rfl
      have BT1_w1 : w1.cell? ⟨w.heap.size, 1, none⟩ = some (.int .i64 tb) := by rw [cell_of_row w1 _ 1 _ _ _ bBT]; rfl
      have ltBT_w1 : w.heap.size < w1.heap.size := (Array.getElem?_eq_some_iff.1 bBT).1
      have HBT := hide bBT
      clear bBT
      have HQ1 := hide (HQ0.out.trans hq1)
      clear hq1
      go_wp2_with fail
      refine (HN2.out _).mono ?_
      rintro e' w2 ⟨rfl, hq2⟩
      have bBT := (hq2.below.block _ (Array.getElem?_eq_some_iff.1 HBT.out).1).trans HBT.out
      have BT0_w2 : w2.cell? ⟨w.heap.size, 0, none⟩ = some (.bool ts) := by rw [cell_of_row w2 _ 0 _ _ _ bBT]; rfl
      have BT1_w2 : w2.cell? ⟨w.heap.size, 1, none⟩ = some (.int .i64 tb) := by rw [cell_of_row w2 _ 1 _ _ _ bBT]; rfl
      have ltBT_w2 : w.heap.size < w2.heap.size := (Array.getElem?_eq_some_iff.1 bBT).1
      have HBT := hide bBT
      clear bBT
      have HQ2 := hide (HQ1.out.trans hq2)
      clear hq2
      go_wp2_with fail
      refine (HR.out _).mono ?_
      rintro e' w3 ⟨rfl, hq3⟩
      have bBT := (hq3.below.block _ (Array.getElem?_eq_some_iff.1 HBT.out).1).trans HBT.out
      have BT0_w3 : w3.cell? ⟨w.heap.size, 0, none⟩ = some (.bool ts) := by rw [cell_of_row w3 _ 0 _ _ _ bBT]; rfl
      have BT1_w3 : w3.cell? ⟨w.heap.size, 1, none⟩ = some (.int .i64 tb) := by rw [cell_of_row w3 _ 1 _ _ _ bBT]; rfl
      have ltBT_w3 : w.heap.size < w3.heap.size := (Array.getElem?_eq_some_iff.1 bBT).1
      have HBT := hide bBT
      clear bBT
      have HQ3 := hide (HQ2.out.trans hq3)
      clear hq3
      obtain ⟨w3a, hw3a⟩ : ∃ w3a, w3.alloc (.cells #[.bool cs, .int .i64 cb] 23) = w3a := ⟨_, rfl⟩
      have hqa3 : Q w3 w3a := by rw [← hw3a]; exact (Q.refl w3).alloc _
      have bBC : w3a.heap[w3.heap.size]? = some (.cells #[.bool cs, .int .i64 cb] 23 (0, 0)) := by rw [← hw3a]; exact heap_alloc_new w3 _
      have bBT := (hqa3.below.block _ (Array.getElem?_eq_some_iff.1 HBT.out).1).trans HBT.out
      have BT0_w3a : w3a.cell? ⟨w.heap.size, 0, none⟩ = some (.bool ts) := by rw [cell_of_row w3a _ 0 _ _ _ bBT]; rfl
      have BT1_w3a : w3a.cell? ⟨w.heap.size, 1, none⟩ = some (.int .i64 tb) := by rw [cell_of_row w3a _ 1 _ _ _ bBT]; rfl
      have ltBT_w3a : w.heap.size < w3a.heap.size := (Array.getElem?_eq_some_iff.1 bBT).1
      have HBT := hide bBT
      clear bBT
      have BC0_w3a : w3a.cell? ⟨w3.heap.size, 0, none⟩ = some (.bool cs) := by rw [cell_of_row w3a _ 0 _ _ _ bBC]; rfl
      have BC1_w3a : w3a.cell? ⟨w3.heap.size, 1, none⟩ = some (.int .i64 cb) := by rw [cell_of_row w3a _ 1 _ _ _ bBC]; rfl
      have HBC := hide bBC
      have HW3a := hide hw3a
      have HQ3a := hide (HQ3.out.trans hqa3)
      clear hw3a hqa3 bBC
      go_wp2_with fail
      rw [HW3a.out]
      refine (HR2.out _).mono ?_
      rintro e' w4 ⟨rfl, hq4⟩
      have bBT := (hq4.below.block _ (Array.getElem?_eq_some_iff.1 HBT.out).1).trans HBT.out
      have BT0_w4 : w4.cell? ⟨w.heap.size, 0, none⟩ = some (.bool ts) := by rw [cell_of_row w4 _ 0 _ _ _ bBT]; rfl
      have BT1_w4 : w4.cell? ⟨w.heap.size, 1, none⟩ = some (.int .i64 tb) := by rw [cell_of_row w4 _ 1 _ _ _ bBT]; rfl
      have ltBT_w4 : w.heap.size < w4.heap.size := (Array.getElem?_eq_some_iff.1 bBT).1
      have HBT := hide bBT
      clear bBT
      have bBC := (hq4.below.block _ (Array.getElem?_eq_some_iff.1 HBC.out).1).trans HBC.out
      have BC0_w4 : w4.cell? ⟨w3.heap.size, 0, none⟩ = some (.bool cs) := by rw [cell_of_row w4 _ 0 _ _ _ bBC]; rfl
      have BC1_w4 : w4.cell? ⟨w3.heap.size, 1, none⟩ = some (.int .i64 cb) := by rw [cell_of_row w4 _ 1 _ _ _ bBC]; rfl
      have ltBC_w4 : w3.heap.size < w4.heap.size := (Array.getElem?_eq_some_iff.1 bBC).1
      have HBC := hide bBC
      clear bBC
      have HQ4 := hide (HQ3a.out.trans hq4)
      clear hq4
      obtain ⟨w4a, hw4a⟩ : ∃ w4a, w4.alloc (.cells #[.bool cs, .int .i64 cb] 23) = w4a := ⟨_, rfl⟩
      have hqa4 : Q w4 w4a := by rw [← hw4a]; exact (Q.refl w4).alloc _
      have bBD : w4a.heap[w4.heap.size]? = some (.cells #[.bool cs, .int .i64 cb] 23 (0, 0)) := by rw [← hw4a]; exact heap_alloc_new w4 _
      have bBT := (hqa4.below.block _ (Array.getElem?_eq_some_iff.1 HBT.out).1).trans HBT.out
      have BT0_w4a : w4a.cell? ⟨w.heap.size, 0, none⟩ = some (.bool ts) := by rw [cell_of_row w4a _ 0 _ _ _ bBT]; rfl
      have BT1_w4a : w4a.cell? ⟨w.heap.size, 1, none⟩ = some (.int .i64 tb) := by rw [cell_of_row w4a _ 1 _ _ _ bBT]; rfl
      have ltBT_w4a : w.heap.size < w4a.heap.size := (Array.getElem?_eq_some_iff.1 bBT).1
      have HBT := hide bBT
      clear bBT
      have bBC := (hqa4.below.block _ (Array.getElem?_eq_some_iff.1 HBC.out).1).trans HBC.out
      have BC0_w4a : w4a.cell? ⟨w3.heap.size, 0, none⟩ = some (.bool cs) := by rw [cell_of_row w4a _ 0 _ _ _ bBC]; rfl
      have BC1_w4a : w4a.cell? ⟨w3.heap.size, 1, none⟩ = some (.int .i64 cb) := by rw [cell_of_row w4a _ 1 _ _ _ bBC]; rfl
      have ltBC_w4a : w3.heap.size < w4a.heap.size := (Array.getElem?_eq_some_iff.1 bBC).1
      have HBC := hide bBC
      clear bBC
      have BD0_w4a : w4a.cell? ⟨w4.heap.size, 0, none⟩ = some (.bool cs) := by rw [cell_of_row w4a _ 0 _ _ _ bBD]; rfl
      have BD1_w4a : w4a.cell? ⟨w4.heap.size, 1, none⟩ = some (.int .i64 cb) := by rw [cell_of_row w4a _ 1 _ _ _ bBD]; rfl
      have HBD := hide bBD
      have HW4a := hide hw4a
      have HQ4a := hide (HQ4.out.trans hqa4)
      clear hw4a hqa4 bBD
      go_wp2_with fail
      rw [HW4a.out]
      refine (HR3.out _).mono ?_
      rintro e' w5 ⟨rfl, hq5⟩
      have bBT := (hq5.below.block _ (Array.getElem?_eq_some_iff.1 HBT.out).1).trans HBT.out
      have BT0_w5 : w5.cell? ⟨w.heap.size, 0, none⟩ = some (.bool ts) := by rw [cell_of_row w5 _ 0 _ _ _ bBT]; rfl
      have BT1_w5 : w5.cell? ⟨w.heap.size, 1, none⟩ = some (.int .i64 tb) := by rw [cell_of_row w5 _ 1 _ _ _ bBT]; rfl
      have ltBT_w5 : w.heap.size < w5.heap.size := (Array.getElem?_eq_some_iff.1 bBT).1
      have HBT := hide bBT
      clear bBT
      have bBC := (hq5.below.block _ (Array.getElem?_eq_some_iff.1 HBC.out).1).trans HBC.out
      have BC0_w5 : w5.cell? ⟨w3.heap.size, 0, none⟩ = some (.bool cs) := by rw [cell_of_row w5 _ 0 _ _ _ bBC]; rfl
      have BC1_w5 : w5.cell? ⟨w3.heap.size, 1, none⟩ = some (.int .i64 cb) := by rw [cell_of_row w5 _ 1 _ _ _ bBC]; rfl
      have ltBC_w5 : w3.heap.size < w5.heap.size := (Array.getElem?_eq_some_iff.1 bBC).1
      have HBC := hide bBC
      clear bBC
      have bBD := (hq5.below.block _ (Array.getElem?_eq_some_iff.1 HBD.out).1).trans HBD.out
      have BD0_w5 : w5.cell? ⟨w4.heap.size, 0, none⟩ = some (.bool cs) := by rw [cell_of_row w5 _ 0 _ _ _ bBD]; rfl
      have BD1_w5 : w5.cell? ⟨w4.heap.size, 1, none⟩ = some (.int .i64 cb) := by rw [cell_of_row w5 _ 1 _ _ _ bBD]; rfl
      have ltBD_w5 : w4.heap.size < w5.heap.size := (Array.getElem?_eq_some_iff.1 bBD).1
      have HBD := hide bBD
      clear bBD
      have HQ5 := hide (HQ4a.out.trans hq5)
      clear hq5
      obtain ⟨w5a, hw5a⟩ : ∃ w5a, w5.alloc (.cells #[.bool xs, .int .i64 xb] 23) = w5a := ⟨_, rfl⟩
      have hqa5 : Q w5 w5a := by rw [← hw5a]; exact (Q.refl w5).alloc _
      have bBX : w5a.heap[w5.heap.size]? = some (.cells #[.bool xs, .int .i64 xb] 23 (0, 0)) := by rw [← hw5a]; exact heap_alloc_new w5 _
      have bBT := (hqa5.below.block _ (Array.getElem?_eq_some_iff.1 HBT.out).1).trans HBT.out
      have BT0_w5a : w5a.cell? ⟨w.heap.size, 0, none⟩ = some (.bool ts) := by rw [cell_of_row w5a _ 0 _ _ _ bBT]; rfl
      have BT1_w5a : w5a.cell? ⟨w.heap.size, 1, none⟩ = some (.int .i64 tb) := by rw [cell_of_row w5a _ 1 _ _ _ bBT]; rfl
      have ltBT_w5a : w.heap.size < w5a.heap.size := (Array.getElem?_eq_some_iff.1 bBT).1
      have HBT := hide bBT
      clear bBT
      have bBC := (hqa5.below.block _ (Array.getElem?_eq_some_iff.1 HBC.out).1).trans HBC.out
      have BC0_w5a : w5a.cell? ⟨w3.heap.size, 0, none⟩ = some (.bool cs) := by rw [cell_of_row w5a _ 0 _ _ _ bBC]; rfl
      have BC1_w5a : w5a.cell? ⟨w3.heap.size, 1, none⟩ = some (.int .i64 cb) := by rw [cell_of_row w5a _ 1 _ _ _ bBC]; rfl
      have ltBC_w5a : w3.heap.size < w5a.heap.size := (Array.getElem?_eq_some_iff.1 bBC).1
      have HBC := hide bBC
      clear bBC
      have bBD := (hqa5.below.block _ (Array.getElem?_eq_some_iff.1 HBD.out).1).trans HBD.out
      have BD0_w5a : w5a.cell? ⟨w4.heap.size, 0, none⟩ = some (.bool cs) := by rw [cell_of_row w5a _ 0 _ _ _ bBD]; rfl
      have BD1_w5a : w5a.cell? ⟨w4.heap.size, 1, none⟩ = some (.int .i64 cb) := by rw [cell_of_row w5a _ 1 _ _ _ bBD]; rfl
      have ltBD_w5a : w4.heap.size < w5a.heap.size := (Array.getElem?_eq_some_iff.1 bBD).1
      have HBD := hide bBD
      clear bBD
      have BX0_w5a : w5a.cell? ⟨w5.heap.size, 0, none⟩ = some (.bool xs) := by rw [cell_of_row w5a _ 0 _ _ _ bBX]; rfl
      have BX1_w5a : w5a.cell? ⟨w5.heap.size, 1, none⟩ = some (.int .i64 xb) := by rw [cell_of_row w5a _ 1 _ _ _ bBX]; rfl
      have HBX := hide bBX
      have HW5a := hide hw5a
      have HQ5a := hide (HQ5.out.trans hqa5)
      clear hw5a hqa5 bBX
      go_wp2_with fail
      rw [HW5a.out]
      refine (HN3.out _).mono ?_
      rintro e' w6 ⟨rfl, hq6⟩
      have bBT := (hq6.below.block _ (Array.getElem?_eq_some_iff.1 HBT.out).1).trans HBT.out
      have BT0_w6 : w6.cell? ⟨w.heap.size, 0, none⟩ = some (.bool ts) := by rw [cell_of_row w6 _ 0 _ _ _ bBT]; rfl
      have BT1_w6 : w6.cell? ⟨w.heap.size, 1, none⟩ = some (.int .i64 tb) := by rw [cell_of_row w6 _ 1 _ _ _ bBT]; rfl
      have ltBT_w6 : w.heap.size < w6.heap.size := (Array.getElem?_eq_some_iff.1 bBT).1
      have HBT := hide bBT
      clear bBT
      have bBC := (hq6.below.block _ (Array.getElem?_eq_some_iff.1 HBC.out).1).trans HBC.out
      have BC0_w6 : w6.cell? ⟨w3.heap.size, 0, none⟩ = some (.bool cs) := by rw [cell_of_row w6 _ 0 _ _ _ bBC]; rfl
      have BC1_w6 : w6.cell? ⟨w3.heap.size, 1, none⟩ = some (.int .i64 cb) := by rw [cell_of_row w6 _ 1 _ _ _ bBC]; rfl
      have ltBC_w6 : w3.heap.size < w6.heap.size := (Array.getElem?_eq_some_iff.1 bBC).1
      have HBC := hide bBC
      clear bBC
      have bBD := (hq6.below.block _ (Array.getElem?_eq_some_iff.1 HBD.out).1).trans HBD.out
      have BD0_w6 : w6.cell? ⟨w4.heap.size, 0, none⟩ = some (.bool cs) := by rw [cell_of_row w6 _ 0 _ _ _ bBD]; rfl
      have BD1_w6 : w6.cell? ⟨w4.heap.size, 1, none⟩ = some (.int .i64 cb) := by rw [cell_of_row w6 _ 1 _ _ _ bBD]; rfl
      have ltBD_w6 : w4.heap.size < w6.heap.size := (Array.getElem?_eq_some_iff.1 bBD).1
      have HBD := hide bBD
      clear bBD
      have bBX := (hq6.below.block _ (Array.getElem?_eq_some_iff.1 HBX.out).1).trans HBX.out
      have BX0_w6 : w6.cell? ⟨w5.heap.size, 0, none⟩ = some (.bool xs) := by rw [cell_of_row w6 _ 0 _ _ _ bBX]; rfl
      have BX1_w6 : w6.cell? ⟨w5.heap.size, 1, none⟩ = some (.int .i64 xb) := by rw [cell_of_row w6 _ 1 _ _ _ bBX]; rfl
      have ltBX_w6 : w5.heap.size < w6.heap.size := (Array.getElem?_eq_some_iff.1 bBX).1
      have HBX := hide bBX
      clear bBX
      have HQ6 := hide (HQ5a.out.trans hq6)
      clear hq6
      go_wp2_with fail
      refine (known_any _).mono ?_
      rintro e' w7 ⟨rfl, hq7⟩
      have HQ7 := hide (HQ6.out.trans hq7)
      clear hq7
      go_wp2_with fail
      go_ret
      exact ⟨rfl, HQ7.out⟩
    · skip
      have he2 : (e != 0) = true := by simpa using he
      clear he
      have hg2 : (g != 0) = true := by simpa using hg
      clear hg
      clear h1 h2
      go_enter Tryd.func3, Tryd.ntmps3
      go_wp2_with fail
      rw [HW0.out]
      refine (HN.out _).mono ?_
      rintro e' w1 ⟨rfl, hq1⟩
      have bBT := (hq1.below.block _ (Array.getElem?_eq_some_iff.1 HBT.out).1).trans HBT.out
      have BT0_w1 : w1.cell? ⟨w.heap.size, 0, none⟩ = some (.bool ts) := by rw [cell_of_row w1 _ 0 _ _ _ bBT]; rfl
      have BT1_w1 : w1.cell? ⟨w.heap.size, 1, none⟩ = some (.int .i64 tb) := by rw [cell_of_row w1 _ 1 _ _ _ bBT]; rfl
      have ltBT_w1 : w.heap.size < w1.heap.size := (Array.getElem?_eq_some_iff.1 bBT).1
      have HBT := hide bBT
      clear bBT
      have HQ1 := hide (HQ0.out.trans hq1)
      clear hq1
      go_wp2_with fail
      refine (HN2.out _).mono ?_
      rintro e' w2 ⟨rfl, hq2⟩
      have bBT := (hq2.below.block _ (Array.getElem?_eq_some_iff.1 HBT.out).1).trans HBT.out
      have BT0_w2 : w2.cell? ⟨w.heap.size, 0, none⟩ = some (.bool ts) := by rw [cell_of_row w2 _ 0 _ _ _ bBT]; rfl
      have BT1_w2 : w2.cell? ⟨w.heap.size, 1, none⟩ = some (.int .i64 tb) := by rw [cell_of_row w2 _ 1 _ _ _ bBT]; rfl
      have ltBT_w2 : w.heap.size < w2.heap.size := (Array.getElem?_eq_some_iff.1 bBT).1
      have HBT := hide bBT
      clear bBT
      have HQ2 := hide (HQ1.out.trans hq2)
      clear hq2
      go_wp2_with fail
      refine (HR.out _).mono ?_
      rintro e' w3 ⟨rfl, hq3⟩
      have bBT := (hq3.below.block _ (Array.getElem?_eq_some_iff.1 HBT.out).1).trans HBT.out
      have BT0_w3 : w3.cell? ⟨w.heap.size, 0, none⟩ = some (.bool ts) := by rw [cell_of_row w3 _ 0 _ _ _ bBT]; rfl
      have BT1_w3 : w3.cell? ⟨w.heap.size, 1, none⟩ = some (.int .i64 tb) := by rw [cell_of_row w3 _ 1 _ _ _ bBT]; rfl
      have ltBT_w3 : w.heap.size < w3.heap.size := (Array.getElem?_eq_some_iff.1 bBT).1
      have HBT := hide bBT
      clear bBT
      have HQ3 := hide (HQ2.out.trans hq3)
      clear hq3
      obtain ⟨w3a, hw3a⟩ : ∃ w3a, w3.alloc (.cells #[.bool cs, .int .i64 cb] 23) = w3a := ⟨_, rfl⟩
      have hqa3 : Q w3 w3a := by rw [← hw3a]; exact (Q.refl w3).alloc _
      have bBC : w3a.heap[w3.heap.size]? = some (.cells #[.bool cs, .int .i64 cb] 23 (0, 0)) := by rw [← hw3a]; exact heap_alloc_new w3 _
      have bBT := (hqa3.below.block _ (Array.getElem?_eq_some_iff.1 HBT.out).1).trans HBT.out
      have BT0_w3a : w3a.cell? ⟨w.heap.size, 0, none⟩ = some (.bool ts) := by rw [cell_of_row w3a _ 0 _ _ _ bBT]; rfl
      have BT1_w3a : w3a.cell? ⟨w.heap.size, 1, none⟩ = some (.int .i64 tb) := by rw [cell_of_row w3a _ 1 _ _ _ bBT]; rfl
      have ltBT_w3a : w.heap.size < w3a.heap.size := (Array.getElem?_eq_some_iff.1 bBT).1
      have HBT := hide bBT
      clear bBT
      have BC0_w3a : w3a.cell? ⟨w3.heap.size, 0, none⟩ = some (.bool cs) := by rw [cell_of_row w3a _ 0 _ _ _ bBC]; rfl
      have BC1_w3a : w3a.cell? ⟨w3.heap.size, 1, none⟩ = some (.int .i64 cb) := by rw [cell_of_row w3a _ 1 _ _ _ bBC]; rfl
      have HBC := hide bBC
      have HW3a := hide hw3a
      have HQ3a := hide (HQ3.out.trans hqa3)
      clear hw3a hqa3 bBC
      go_wp2_with fail
      rw [HW3a.out]
      refine (HR2.out _).mono ?_
      rintro e' w4 ⟨rfl, hq4⟩
      have bBT := (hq4.below.block _ (Array.getElem?_eq_some_iff.1 HBT.out).1).trans HBT.out
      have BT0_w4 : w4.cell? ⟨w.heap.size, 0, none⟩ = some (.bool ts) := by rw [cell_of_row w4 _ 0 _ _ _ bBT]; rfl
      have BT1_w4 : w4.cell? ⟨w.heap.size, 1, none⟩ = some (.int .i64 tb) := by rw [cell_of_row w4 _ 1 _ _ _ bBT]; rfl
      have ltBT_w4 : w.heap.size < w4.heap.size := (Array.getElem?_eq_some_iff.1 bBT).1
      have HBT := hide bBT
      clear bBT
      have bBC := (hq4.below.block _ (Array.getElem?_eq_some_iff.1 HBC.out).1).trans HBC.out
      have BC0_w4 : w4.cell? ⟨w3.heap.size, 0, none⟩ = some (.bool cs) := by rw [cell_of_row w4 _ 0 _ _ _ bBC]; rfl
      have BC1_w4 : w4.cell? ⟨w3.heap.size, 1, none⟩ = some (.int .i64 cb) := by rw [cell_of_row w4 _ 1 _ _ _ bBC]; rfl
      have ltBC_w4 : w3.heap.size < w4.heap.size := (Array.getElem?_eq_some_iff.1 bBC).1
      have HBC := hide bBC
      clear bBC
      have HQ4 := hide (HQ3a.out.trans hq4)
      clear hq4
      obtain ⟨w4a, hw4a⟩ : ∃ w4a, w4.alloc (.cells #[.bool cs, .int .i64 cb] 23) = w4a := ⟨_, rfl⟩
      have hqa4 : Q w4 w4a := by rw [← hw4a]; exact (Q.refl w4).alloc _
      have bBD : w4a.heap[w4.heap.size]? = some (.cells #[.bool cs, .int .i64 cb] 23 (0, 0)) := by rw [← hw4a]; exact heap_alloc_new w4 _
      have bBT := (hqa4.below.block _ (Array.getElem?_eq_some_iff.1 HBT.out).1).trans HBT.out
      have BT0_w4a : w4a.cell? ⟨w.heap.size, 0, none⟩ = some (.bool ts) := by rw [cell_of_row w4a _ 0 _ _ _ bBT]; rfl
      have BT1_w4a : w4a.cell? ⟨w.heap.size, 1, none⟩ = some (.int .i64 tb) := by rw [cell_of_row w4a _ 1 _ _ _ bBT]; rfl
      have ltBT_w4a : w.heap.size < w4a.heap.size := (Array.getElem?_eq_some_iff.1 bBT).1
      have HBT := hide bBT
      clear bBT
      have bBC := (hqa4.below.block _ (Array.getElem?_eq_some_iff.1 HBC.out).1).trans HBC.out
      have BC0_w4a : w4a.cell? ⟨w3.heap.size, 0, none⟩ = some (.bool cs) := by rw [cell_of_row w4a _ 0 _ _ _ bBC]; rfl
      have BC1_w4a : w4a.cell? ⟨w3.heap.size, 1, none⟩ = some (.int .i64 cb) := by rw [cell_of_row w4a _ 1 _ _ _ bBC]; rfl
      have ltBC_w4a : w3.heap.size < w4a.heap.size := (Array.getElem?_eq_some_iff.1 bBC).1
      have HBC := hide bBC
      clear bBC
      have BD0_w4a : w4a.cell? ⟨w4.heap.size, 0, none⟩ = some (.bool cs) := by rw [cell_of_row w4a _ 0 _ _ _ bBD]; rfl
      have BD1_w4a : w4a.cell? ⟨w4.heap.size, 1, none⟩ = some (.int .i64 cb) := by rw [cell_of_row w4a _ 1 _ _ _ bBD]; rfl
      have HBD := hide bBD
      have HW4a := hide hw4a
      have HQ4a := hide (HQ4.out.trans hqa4)
      clear hw4a hqa4 bBD
      go_wp2_with fail
      rw [HW4a.out]
      refine (HR3.out _).mono ?_
      rintro e' w5 ⟨rfl, hq5⟩
      have bBT := (hq5.below.block _ (Array.getElem?_eq_some_iff.1 HBT.out).1).trans HBT.out
      have BT0_w5 : w5.cell? ⟨w.heap.size, 0, none⟩ = some (.bool ts) := by rw [cell_of_row w5 _ 0 _ _ _ bBT]; rfl
      have BT1_w5 : w5.cell? ⟨w.heap.size, 1, none⟩ = some (.int .i64 tb) := by rw [cell_of_row w5 _ 1 _ _ _ bBT]; rfl
      have ltBT_w5 : w.heap.size < w5.heap.size := (Array.getElem?_eq_some_iff.1 bBT).1
      have HBT := hide bBT
      clear bBT
      have bBC := (hq5.below.block _ (Array.getElem?_eq_some_iff.1 HBC.out).1).trans HBC.out
      have BC0_w5 : w5.cell? ⟨w3.heap.size, 0, none⟩ = some (.bool cs) := by rw [cell_of_row w5 _ 0 _ _ _ bBC]; rfl
      have BC1_w5 : w5.cell? ⟨w3.heap.size, 1, none⟩ = some (.int .i64 cb) := by rw [cell_of_row w5 _ 1 _ _ _ bBC]; rfl
      have ltBC_w5 : w3.heap.size < w5.heap.size := (Array.getElem?_eq_some_iff.1 bBC).1
      have HBC := hide bBC
      clear bBC
      have bBD := (hq5.below.block _ (Array.getElem?_eq_some_iff.1 HBD.out).1).trans HBD.out
      have BD0_w5 : w5.cell? ⟨w4.heap.size, 0, none⟩ = some (.bool cs) := by rw [cell_of_row w5 _ 0 _ _ _ bBD]; rfl
      have BD1_w5 : w5.cell? ⟨w4.heap.size, 1, none⟩ = some (.int .i64 cb) := by rw [cell_of_row w5 _ 1 _ _ _ bBD]; rfl
      have ltBD_w5 : w4.heap.size < w5.heap.size := (Array.getElem?_eq_some_iff.1 bBD).1
      have HBD := hide bBD
      clear bBD
      have HQ5 := hide (HQ4a.out.trans hq5)
      clear hq5
      obtain ⟨w5a, hw5a⟩ : ∃ w5a, w5.alloc (.cells #[.bool xs, .int .i64 xb] 23) = w5a := ⟨_, rfl⟩
      have hqa5 : Q w5 w5a := by rw [← hw5a]; exact (Q.refl w5).alloc _
      have bBX : w5a.heap[w5.heap.size]? = some (.cells #[.bool xs, .int .i64 xb] 23 (0, 0)) := by rw [← hw5a]; exact heap_alloc_new w5 _
      have bBT := (hqa5.below.block _ (Array.getElem?_eq_some_iff.1 HBT.out).1).trans HBT.out
      have BT0_w5a : w5a.cell? ⟨w.heap.size, 0, none⟩ = some (.bool ts) := by rw [cell_of_row w5a _ 0 _ _ _ bBT]; rfl
      have BT1_w5a : w5a.cell? ⟨w.heap.size, 1, none⟩ = some (.int .i64 tb) := by rw [cell_of_row w5a _ 1 _ _ _ bBT]; rfl
      have ltBT_w5a : w.heap.size < w5a.heap.size := (Array.getElem?_eq_some_iff.1 bBT).1
      have HBT := hide bBT
      clear bBT
      have bBC := (hqa5.below.block _ (Array.getElem?_eq_some_iff.1 HBC.out).1).trans HBC.out
      have BC0_w5a : w5a.cell? ⟨w3.heap.size, 0, none⟩ = some (.bool cs) := by rw [cell_of_row w5a _ 0 _ _ _ bBC]; rfl
      have BC1_w5a : w5a.cell? ⟨w3.heap.size, 1, none⟩ = some (.int .i64 cb) := by rw [cell_of_row w5a _ 1 _ _ _ bBC]; rfl
      have ltBC_w5a : w3.heap.size < w5a.heap.size := (Array.getElem?_eq_some_iff.1 bBC).1
      have HBC := hide bBC
      clear bBC
      have bBD := (hqa5.below.block _ (Array.getElem?_eq_some_iff.1 HBD.out).1).trans HBD.out
      have BD0_w5a : w5a.cell? ⟨w4.heap.size, 0, none⟩ = some (.bool cs) := by rw [cell_of_row w5a _ 0 _ _ _ bBD]; rfl
      have BD1_w5a : w5a.cell? ⟨w4.heap.size, 1, none⟩ = some (.int .i64 cb) := by rw [cell_of_row w5a _ 1 _ _ _ bBD]; rfl
      have ltBD_w5a : w4.heap.size < w5a.heap.size := (Array.getElem?_eq_some_iff.1 bBD).1
      have HBD := hide bBD
      clear bBD
      have BX0_w5a : w5a.cell? ⟨w5.heap.size, 0, none⟩ = some (.bool xs) := by rw [cell_of_row w5a _ 0 _ _ _ bBX]; rfl
      have BX1_w5a : w5a.cell? ⟨w5.heap.size, 1, none⟩ = some (.int .i64 xb) := by rw [cell_of_row w5a _ 1 _ _ _ bBX]; rfl
      have HBX := hide bBX
      have HW5a := hide hw5a
      have HQ5a := hide (HQ5.out.trans hqa5)
      clear hw5a hqa5 bBX
      go_wp2_with fail
      rw [HW5a.out]
      refine (HN3.out _).mono ?_
      rintro e' w6 ⟨rfl, hq6⟩
      have bBT := (hq6.below.block _ (Array.getElem?_eq_some_iff.1 HBT.out).1).trans HBT.out
      have BT0_w6 : w6.cell? ⟨w.heap.size, 0, none⟩ = some (.bool ts) := by rw [cell_of_row w6 _ 0 _ _ _ bBT]; rfl
      have BT1_w6 : w6.cell? ⟨w.heap.size, 1, none⟩ = some (.int .i64 tb) := by rw [cell_of_row w6 _ 1 _ _ _ bBT]; rfl
      have ltBT_w6 : w.heap.size < w6.heap.size := (Array.getElem?_eq_some_iff.1 bBT).1
      have HBT := hide bBT
      clear bBT
      have bBC := (hq6.below.block _ (Array.getElem?_eq_some_iff.1 HBC.out).1).trans HBC.out
      have BC0_w6 : w6.cell? ⟨w3.heap.size, 0, none⟩ = some (.bool cs) := by rw [cell_of_row w6 _ 0 _ _ _ bBC]; rfl
      have BC1_w6 : w6.cell? ⟨w3.heap.size, 1, none⟩ = some (.int .i64 cb) := by rw [cell_of_row w6 _ 1 _ _ _ bBC]; rfl
      have ltBC_w6 : w3.heap.size < w6.heap.size := (Array.getElem?_eq_some_iff.1 bBC).1
      have HBC := hide bBC
      clear bBC
      have bBD := (hq6.below.block _ (Array.getElem?_eq_some_iff.1 HBD.out).1).trans HBD.out
      have BD0_w6 : w6.cell? ⟨w4.heap.size, 0, none⟩ = some (.bool cs) := by rw [cell_of_row w6 _ 0 _ _ _ bBD]; rfl
      have BD1_w6 : w6.cell? ⟨w4.heap.size, 1, none⟩ = some (.int .i64 cb) := by rw [cell_of_row w6 _ 1 _ _ _ bBD]; rfl
      have ltBD_w6 : w4.heap.size < w6.heap.size := (Array.getElem?_eq_some_iff.1 bBD).1
      have HBD := hide bBD
      clear bBD
      have bBX := (hq6.below.block _ (Array.getElem?_eq_some_iff.1 HBX.out).1).trans HBX.out
      have BX0_w6 : w6.cell? ⟨w5.heap.size, 0, none⟩ = some (.bool xs) := by rw [cell_of_row w6 _ 0 _ _ _ bBX]; rfl
      have BX1_w6 : w6.cell? ⟨w5.heap.size, 1, none⟩ = some (.int .i64 xb) := by rw [cell_of_row w6 _ 1 _ _ _ bBX]; rfl
      have ltBX_w6 : w5.heap.size < w6.heap.size := (Array.getElem?_eq_some_iff.1 bBX).1
      have HBX := hide bBX
      clear bBX
      have HQ6 := hide (HQ5a.out.trans hq6)
      clear hq6
      go_wp2_with fail
      refine (known_any _).mono ?_
      rintro e' w7 ⟨rfl, hq7⟩
      have HQ7 := hide (HQ6.out.trans hq7)
      clear hq7
      go_wp2_with fail
      go_ret
      exact ⟨rfl, HQ7.out⟩
end Go.Proofs.YtcjljmegppnlcaaDoor
