/- The reference's Resize, whole, and its Act. The reference's New. Conditions: as each theorem says. -/
import Derived.Test.YtegpkcbmgjoicaaGreatHsO
namespace Go.Proofs.YtegpkcbmgjoicaaGreat
open Go.RowKit HP
set_option linter.unusedVariables false
theorem rResize_any (v : RV) (at_ z : Int) (w : World) (H : RmR w v) (N : RmN v.m) (hk : 0 ≤ v.m.kind ∧ v.m.kind ≤ 3) (hpc : v.m.kind = 3 → 1 ≤ v.m.piece) (hl64 : v.m.bl.length ≤ 64) (hcl : v.m.calls < 1000000)
    (hfit : ∀ (j : Nat) (x y : Int), v.m.bl[j]? = some (x, y) → (decide (1 ≤ z) && decide (z ≤ 4096)) = true → staysR (countR v.m).1 j x y z = true → x + z ≤ v.m.size) :
    Calls Tryz.prog 25 #[v.val, .int .i64 at_, .int .i64 z] w (MPost2 (rresizeM v.m at_ z) w v) := by
  unfold rresizeM
  cases hz : (decide (1 ≤ z) && decide (z ≤ 4096))
  · rw [if_pos rfl]
    exact rResize_bad1 v at_ z w H hz
  rw [if_neg (by decide)]
  rcases idxI_cases (fun p : Int × Int => p.1 == at_) v.m.bl with e | ⟨j, ⟨x, y⟩, e, hx⟩
  · rw [if_pos (by rw [e]; decide)]
    exact rResize_bad2 v at_ z w H N hz e
  rw [if_neg (by rw [e]; omega)]
  cases hf : (countR v.m).2
  · rw [if_neg (by decide), e, Int.toNat_natCast, hx, Option.getD_some]
    unfold rsizedM
    dsimp only
    cases hst : staysR (countR v.m).1 j x y z
    · rw [if_neg (by decide)]
      have h := rResize_move v at_ z j x y w H N hz hx e hf hcl hst hk hpc hl64
      revert h
      cases roomR (countR v.m).1 z (alignOfM x)
      · exact fun h => h
      · exact fun h => h
    · rw [if_pos rfl]
      have hft := hfit j x y hx hz hst
      by_cases h1 : v.m.kind = 1
      · by_cases he : x + y = v.m.top
        · exact rResize_stay_a v at_ z j x y w H N hz hx e hf hcl hst hft h1 he
        · exact rResize_stay_c v at_ z j x y w H N hz hx e hf hcl hst hft h1 he
      · by_cases h2 : v.m.kind = 2
        · by_cases he : x + y = v.m.top
          · exact rResize_stay_b v at_ z j x y w H N hz hx e hf hcl hst hft h2 he
          · exact rResize_stay_d v at_ z j x y w H N hz hx e hf hcl hst hft h2 he
        · exact rResize_stay_e v at_ z j x y w H N hz hx e hf hcl hst hft ⟨h1, h2⟩ trivial
  · rw [if_pos rfl]
    exact rResize_bad3 v at_ z j x y w H N hz hx e hf
noncomputable def ractM (m : RM) (op a b : Int) : RM × Int × Int :=
  if op = 0 then rallocM m a b
  else if op = 1 then ((freeMR m a).1, 0, (freeMR m a).2)
  else if op = 2 then rresizeM m a b
  else if op = 3 then (if m.kind = 0 ∨ m.kind = 3 then (m, 0, 7) else ({ m with bl := [], top := 0 }, 0, 0))
  else if op = 4 then ((failR m a).1, 0, (failR m a).2)
  else if op = 5 then ((storeMR m a b).1, 0, (storeMR m a b).2)
  else if op = 6 then (m, loadR m a)
  else (m, 0, 0)
/-- what is known of a heap of the reference ahead of an act -/
structure RmK (m : RM) : Prop where
  N : RmN m
  kind : 0 ≤ m.kind ∧ m.kind ≤ 3
  piece : m.kind = 3 → 1 ≤ m.piece
  size : 0 < m.size
  len : m.bl.length ≤ 64
  calls : m.calls < 1000000
  fit : ∀ (j : Nat) (x y z : Int), m.bl[j]? = some (x, y) → (decide (1 ≤ z) && decide (z ≤ 4096)) = true → staysR (countR m).1 j x y z = true → x + z ≤ m.size
set_option maxRecDepth 100000 in
set_option maxHeartbeats 8000000 in
theorem rAct0_any (v : RV) (a b : Int) (w : World) (H : RmR w v) (K : RmK v.m) : Calls Tryz.prog 10 #[v.val, .agg #[.int .i64 0, .int .i64 a, .int .i64 b]] w (MPost2 (ractM v.m 0 a b) w v) := by
  have hr : ractM v.m 0 a b = ((rallocM v.m a b).1, (rallocM v.m a b).2.1, (rallocM v.m a b).2.2) := by unfold ractM; rw [if_pos rfl]
  rw [hr]
  clear hr
  have HC : Hid (∀ W, Q w W → Calls Tryz.prog 23 #[v.val, .int .i64 a, .int .i64 b] W fun e w' => ∃ v', e = .returned (.tuple #[v'.val, .int .i64 (rallocM v.m a b).2.1, .int .i64 (rallocM v.m a b).2.2]) ∧ v'.m = (rallocM v.m a b).1 ∧ RmR w' v' ∧ Fr W.heap.size v v' ∧ Q W w') := fun W h => by
    exact rAlloc_any v a b W (H.up h) K.N K.kind K.piece K.size K.calls
  have HRM := hide H
  obtain ⟨MM, hMM⟩ : ∃ MM, MM = (rallocM v.m a b).1 := ⟨_, rfl⟩
  obtain ⟨X, hX⟩ : ∃ X, X = ((rallocM v.m a b).2.1 : Int) := ⟨_, rfl⟩
  obtain ⟨Y, hY⟩ : ∃ Y, Y = (rallocM v.m a b).2.2 := ⟨_, rfl⟩
  rw [← hMM, ← hX, ← hY] at HC
  rw [← hMM, ← hX, ← hY]
  clear hMM hX hY H K
  unfold RV.val RV.cells at HC ⊢
  obtain ⟨A0, n, c, B, k, d, ⟨m0, m1, m2, bl, ys, m5, m6, m7, m8⟩⟩ := v
  dsimp only at HC ⊢
  obtain ⟨w1, hw1⟩ : ∃ w1, ((w.alloc (.cells #[.int .i64 m0, .int .i64 m1, .int .i64 m2, .slice A0 n c, .slice B k d, .int .i64 m5, .int .i64 m6, .int .i64 m7, .int .i64 m8] MT)).alloc (.cells #[.int .i64 0, .int .i64 a, .int .i64 b] 40)).alloc (.cells #[.int .i64 0, .int .i64 0, .int .i64 0, .slice none 0 0, .slice none 0 0, .int .i64 0, .int .i64 0, .int .i64 0, .int .i64 0] MT) = w1 := ⟨_, rfl⟩
  have hq1 : Q w w1 := by rw [← hw1]; exact (((Q.refl w).alloc _).alloc _).alloc _
  have hs2 : w.heap.size + 2 < w1.heap.size := by rw [← hw1]; simp
  have hs0 : w.heap.size < w1.heap.size := by omega
  have hs1 : w.heap.size + 1 < w1.heap.size := by omega
  have q0 : w1.heap[w.heap.size]? = some (.cells #[.int .i64 m0, .int .i64 m1, .int .i64 m2, .slice A0 n c, .slice B k d, .int .i64 m5, .int .i64 m6, .int .i64 m7, .int .i64 m8] MT (0, 0)) := by
    rw [← hw1, (((Q.refl (w.alloc _)).alloc _).alloc _).below.block _ (by simp)]
    exact heap_alloc_new w _
  have a1 : w1.heap[w.heap.size + 1]? = some (.cells #[.int .i64 0, .int .i64 a, .int .i64 b] 40 (0, 0)) := by
    rw [← hw1, ((Q.refl ((w.alloc _).alloc _)).alloc _).below.block _ (by simp)]
    have h := heap_alloc_new (w.alloc (.cells #[.int .i64 m0, .int .i64 m1, .int .i64 m2, .slice A0 n c, .slice B k d, .int .i64 m5, .int .i64 m6, .int .i64 m7, .int .i64 m8] MT)) (.cells #[.int .i64 0, .int .i64 a, .int .i64 b] 40)
    rwa [show (w.alloc (.cells #[.int .i64 m0, .int .i64 m1, .int .i64 m2, .slice A0 n c, .slice B k d, .int .i64 m5, .int .i64 m6, .int .i64 m7, .int .i64 m8] MT)).heap.size = w.heap.size + 1 by simp] at h
  have q1 : w1.heap[w.heap.size + 2]? = some (.cells #[.int .i64 0, .int .i64 0, .int .i64 0, .slice none 0 0, .slice none 0 0, .int .i64 0, .int .i64 0, .int .i64 0, .int .i64 0] MT (0, 0)) := by
    have h := heap_alloc_new ((w.alloc (.cells #[.int .i64 m0, .int .i64 m1, .int .i64 m2, .slice A0 n c, .slice B k d, .int .i64 m5, .int .i64 m6, .int .i64 m7, .int .i64 m8] MT)).alloc (.cells #[.int .i64 0, .int .i64 a, .int .i64 b] 40)) (.cells #[.int .i64 0, .int .i64 0, .int .i64 0, .slice none 0 0, .slice none 0 0, .int .i64 0, .int .i64 0, .int .i64 0, .int .i64 0] MT)
    rw [show ((w.alloc (.cells #[.int .i64 m0, .int .i64 m1, .int .i64 m2, .slice A0 n c, .slice B k d, .int .i64 m5, .int .i64 m6, .int .i64 m7, .int .i64 m8] MT)).alloc (.cells #[.int .i64 0, .int .i64 a, .int .i64 b] 40)).heap.size = w.heap.size + 2 by simp, hw1] at h
    exact h
  have HW1 := hide hw1
  have HR0 := hide q0
  have HR1 := hide q1
  have HQ1 := hide hq1
  obtain ⟨k0, k1, k2, k3, k4, k5, k6, k7, k8⟩ := cells9 q0
  obtain ⟨z0, z1, z2, z3, z4, z5, z6, z7, z8⟩ := cells9 q1
  obtain ⟨y0, y1, y2, y3, y4, y5, y6, y7, y8⟩ := free9 q1
  have i0 : w1.cell? ⟨w.heap.size + 1, 0, none⟩ = some (.int .i64 0) := by rw [cell_of_row _ _ _ _ _ _ a1]; rfl
  have i1 : w1.cell? ⟨w.heap.size + 1, 1, none⟩ = some (.int .i64 a) := by rw [cell_of_row _ _ _ _ _ _ a1]; rfl
  have i2 : w1.cell? ⟨w.heap.size + 1, 2, none⟩ = some (.int .i64 b) := by rw [cell_of_row _ _ _ _ _ _ a1]; rfl
  have HCW := hide (HC.out w1 HQ1.out)
  clear hw1 hq1 q0 q1 a1 HC
  go_enter Tryz.func10, Tryz.ntmps10
  go_wp2_with fail
  rw [HW1.out]
  refine HCW.out.mono ?_
  rintro e w2 ⟨⟨A', n', c', B', k', d', ⟨r0, r1, r2, rb, ry, r5, r6, r7, r8⟩⟩, rfl, hm, hR, hfr, hq2⟩
  have hs22 := hq2.size
  have q1 := (hq2.below.block _ hs2).trans HR1.out
  obtain ⟨z0, z1, z2, z3, z4, z5, z6, z7, z8⟩ := cells9 q1
  obtain ⟨y0, y1, y2, y3, y4, y5, y6, y7, y8⟩ := free9 q1
  have HR12 := hide q1
  have HQ2 := hide (HQ1.out.trans hq2)
  have HM := hide hm
  have HRR := hide hR
  have HFR := hide hfr
  dsimp only [RV.val, RV.cells]
  have hs0' : w.heap.size < w2.heap.size := by omega
  have hs2' : w.heap.size + 2 < w2.heap.size := by omega
  clear q1 hq2 hm hR hfr
  go_wp2_with fail
  have hg := row9 (w := w2) (b := w.heap.size + 2) (.int .i64 r0) (.int .i64 r1) (.int .i64 r2) (.slice A' n' c') (.slice B' k' d') (.int .i64 r5) (.int .i64 r6) (.int .i64 r7) (.int .i64 r8) HR12.out
  have hF := q9 (w0 := w) (w := w2) (b := w.heap.size + 2) (.int .i64 r0) (.int .i64 r1) (.int .i64 r2) (.slice A' n' c') (.slice B' k' d') (.int .i64 r5) (.int .i64 r6) (.int .i64 r7) (.int .i64 r8) (HQ2.out) (by omega)
  refine bodyPost_ret (v := .tuple #[.agg #[.int .i64 r0, .int .i64 r1, .int .i64 r2, .slice A' n' c', .slice B' k' d', .int .i64 r5, .int .i64 r6, .int .i64 r7, .int .i64 r8], .int .i64 X, .int .i64 Y]) (ret_m3 (p := 4) (u := 5) (x := 6) rfl rfl (by simp) (by simp) (by simp) hg) rfl ?_
  have hR9 := RmR.keep HRM.out HRR.out HFR.out (b := w.heap.size + 2) (by omega) hs2 (fun g _ => keep9 w2 (w.heap.size + 2) (.int .i64 r0) (.int .i64 r1) (.int .i64 r2) (.slice A' n' c') (.slice B' k' d') (.int .i64 r5) (.int .i64 r6) (.int .i64 r7) (.int .i64 r8) g) (by simp [World.setCell])
  exact ⟨⟨A', n', c', B', k', d', ⟨r0, r1, r2, rb, ry, r5, r6, r7, r8⟩⟩, rfl, HM.out, hR9, Fr.trans (Fr.refl w.heap.size _) HFR.out (by omega), hF⟩
set_option maxRecDepth 100000 in
set_option maxHeartbeats 8000000 in
theorem rAct1_any (v : RV) (a b : Int) (w : World) (H : RmR w v) (K : RmK v.m) : Calls Tryz.prog 10 #[v.val, .agg #[.int .i64 1, .int .i64 a, .int .i64 b]] w (MPost2 (ractM v.m 1 a b) w v) := by
  have hr : ractM v.m 1 a b = ((freeMR v.m a).1, 0, (freeMR v.m a).2) := by unfold ractM; rw [if_neg (by decide), if_pos rfl]
  rw [hr]
  clear hr
  have HC : Hid (∀ W, Q w W → Calls Tryz.prog 24 #[v.val, .int .i64 a] W fun e w' => ∃ v', e = .returned (.tuple #[v'.val, .int .i64 (freeMR v.m a).2]) ∧ v'.m = (freeMR v.m a).1 ∧ RmR w' v' ∧ Fr W.heap.size v v' ∧ Q W w') := fun W h => by
    exact rFree_any v a W (H.up h) K.N
  have HRM := hide H
  obtain ⟨MM, hMM⟩ : ∃ MM, MM = (freeMR v.m a).1 := ⟨_, rfl⟩
  obtain ⟨Y, hY⟩ : ∃ Y, Y = (freeMR v.m a).2 := ⟨_, rfl⟩
  rw [← hMM, ← hY] at HC
  rw [← hMM, ← hY]
  clear hMM hY H K
  unfold RV.val RV.cells at HC ⊢
  obtain ⟨A0, n, c, B, k, d, ⟨m0, m1, m2, bl, ys, m5, m6, m7, m8⟩⟩ := v
  dsimp only at HC ⊢
  obtain ⟨w1, hw1⟩ : ∃ w1, ((w.alloc (.cells #[.int .i64 m0, .int .i64 m1, .int .i64 m2, .slice A0 n c, .slice B k d, .int .i64 m5, .int .i64 m6, .int .i64 m7, .int .i64 m8] MT)).alloc (.cells #[.int .i64 1, .int .i64 a, .int .i64 b] 40)).alloc (.cells #[.int .i64 0, .int .i64 0, .int .i64 0, .slice none 0 0, .slice none 0 0, .int .i64 0, .int .i64 0, .int .i64 0, .int .i64 0] MT) = w1 := ⟨_, rfl⟩
  have hq1 : Q w w1 := by rw [← hw1]; exact (((Q.refl w).alloc _).alloc _).alloc _
  have hs2 : w.heap.size + 2 < w1.heap.size := by rw [← hw1]; simp
  have hs0 : w.heap.size < w1.heap.size := by omega
  have hs1 : w.heap.size + 1 < w1.heap.size := by omega
  have q0 : w1.heap[w.heap.size]? = some (.cells #[.int .i64 m0, .int .i64 m1, .int .i64 m2, .slice A0 n c, .slice B k d, .int .i64 m5, .int .i64 m6, .int .i64 m7, .int .i64 m8] MT (0, 0)) := by
    rw [← hw1, (((Q.refl (w.alloc _)).alloc _).alloc _).below.block _ (by simp)]
    exact heap_alloc_new w _
  have a1 : w1.heap[w.heap.size + 1]? = some (.cells #[.int .i64 1, .int .i64 a, .int .i64 b] 40 (0, 0)) := by
    rw [← hw1, ((Q.refl ((w.alloc _).alloc _)).alloc _).below.block _ (by simp)]
    have h := heap_alloc_new (w.alloc (.cells #[.int .i64 m0, .int .i64 m1, .int .i64 m2, .slice A0 n c, .slice B k d, .int .i64 m5, .int .i64 m6, .int .i64 m7, .int .i64 m8] MT)) (.cells #[.int .i64 1, .int .i64 a, .int .i64 b] 40)
    rwa [show (w.alloc (.cells #[.int .i64 m0, .int .i64 m1, .int .i64 m2, .slice A0 n c, .slice B k d, .int .i64 m5, .int .i64 m6, .int .i64 m7, .int .i64 m8] MT)).heap.size = w.heap.size + 1 by simp] at h
  have q1 : w1.heap[w.heap.size + 2]? = some (.cells #[.int .i64 0, .int .i64 0, .int .i64 0, .slice none 0 0, .slice none 0 0, .int .i64 0, .int .i64 0, .int .i64 0, .int .i64 0] MT (0, 0)) := by
    have h := heap_alloc_new ((w.alloc (.cells #[.int .i64 m0, .int .i64 m1, .int .i64 m2, .slice A0 n c, .slice B k d, .int .i64 m5, .int .i64 m6, .int .i64 m7, .int .i64 m8] MT)).alloc (.cells #[.int .i64 1, .int .i64 a, .int .i64 b] 40)) (.cells #[.int .i64 0, .int .i64 0, .int .i64 0, .slice none 0 0, .slice none 0 0, .int .i64 0, .int .i64 0, .int .i64 0, .int .i64 0] MT)
    rw [show ((w.alloc (.cells #[.int .i64 m0, .int .i64 m1, .int .i64 m2, .slice A0 n c, .slice B k d, .int .i64 m5, .int .i64 m6, .int .i64 m7, .int .i64 m8] MT)).alloc (.cells #[.int .i64 1, .int .i64 a, .int .i64 b] 40)).heap.size = w.heap.size + 2 by simp, hw1] at h
    exact h
  have HW1 := hide hw1
  have HR0 := hide q0
  have HR1 := hide q1
  have HQ1 := hide hq1
  obtain ⟨k0, k1, k2, k3, k4, k5, k6, k7, k8⟩ := cells9 q0
  obtain ⟨z0, z1, z2, z3, z4, z5, z6, z7, z8⟩ := cells9 q1
  obtain ⟨y0, y1, y2, y3, y4, y5, y6, y7, y8⟩ := free9 q1
  have i0 : w1.cell? ⟨w.heap.size + 1, 0, none⟩ = some (.int .i64 1) := by rw [cell_of_row _ _ _ _ _ _ a1]; rfl
  have i1 : w1.cell? ⟨w.heap.size + 1, 1, none⟩ = some (.int .i64 a) := by rw [cell_of_row _ _ _ _ _ _ a1]; rfl
  have i2 : w1.cell? ⟨w.heap.size + 1, 2, none⟩ = some (.int .i64 b) := by rw [cell_of_row _ _ _ _ _ _ a1]; rfl
  have HCW := hide (HC.out w1 HQ1.out)
  clear hw1 hq1 q0 q1 a1 HC
  go_enter Tryz.func10, Tryz.ntmps10
  go_wp2_with fail
  rw [HW1.out]
  refine HCW.out.mono ?_
  rintro e w2 ⟨⟨A', n', c', B', k', d', ⟨r0, r1, r2, rb, ry, r5, r6, r7, r8⟩⟩, rfl, hm, hR, hfr, hq2⟩
  have hs22 := hq2.size
  have q1 := (hq2.below.block _ hs2).trans HR1.out
  obtain ⟨z0, z1, z2, z3, z4, z5, z6, z7, z8⟩ := cells9 q1
  obtain ⟨y0, y1, y2, y3, y4, y5, y6, y7, y8⟩ := free9 q1
  have HR12 := hide q1
  have HQ2 := hide (HQ1.out.trans hq2)
  have HM := hide hm
  have HRR := hide hR
  have HFR := hide hfr
  dsimp only [RV.val, RV.cells]
  have hs0' : w.heap.size < w2.heap.size := by omega
  have hs2' : w.heap.size + 2 < w2.heap.size := by omega
  clear q1 hq2 hm hR hfr
  go_wp2_with fail
  have hg0 := row9 (w := w2) (b := w.heap.size + 2) (.int .i64 r0) (.int .i64 r1) (.int .i64 r2) (.slice A' n' c') (.slice B' k' d') (.int .i64 r5) (.int .i64 r6) (.int .i64 r7) (.int .i64 r8) HR12.out
  obtain ⟨W9, hW9⟩ : ∃ W9, W9 = (((((((((w2.setCell ⟨w.heap.size + 2, 0, none⟩ (.int .i64 r0)).setCell ⟨w.heap.size + 2, 1, none⟩ (.int .i64 r1)).setCell ⟨w.heap.size + 2, 2, none⟩ (.int .i64 r2)).setCell ⟨w.heap.size + 2, 3, none⟩ (.slice A' n' c')).setCell ⟨w.heap.size + 2, 4, none⟩ (.slice B' k' d')).setCell ⟨w.heap.size + 2, 5, none⟩ (.int .i64 r5)).setCell ⟨w.heap.size + 2, 6, none⟩ (.int .i64 r6)).setCell ⟨w.heap.size + 2, 7, none⟩ (.int .i64 r7)).setCell ⟨w.heap.size + 2, 8, none⟩ (.int .i64 r8)) := ⟨_, rfl⟩
  have hg : (W9.alloc (.cells #[.int .i64 r0, .int .i64 r1, .int .i64 r2, .slice A' n' c', .slice B' k' d', .int .i64 r5, .int .i64 r6, .int .i64 r7, .int .i64 r8] MT)).heap[w.heap.size + 2]? = some (.cells #[.int .i64 r0, .int .i64 r1, .int .i64 r2, .slice A' n' c', .slice B' k' d', .int .i64 r5, .int .i64 r6, .int .i64 r7, .int .i64 r8] MT (0, 0)) := (((Q.refl W9).alloc _).below.block _ (by rw [hW9]; simp [World.setCell]; omega)).trans (by rw [hW9]; exact hg0)
  have hF : Q w (W9.alloc (.cells #[.int .i64 r0, .int .i64 r1, .int .i64 r2, .slice A' n' c', .slice B' k' d', .int .i64 r5, .int .i64 r6, .int .i64 r7, .int .i64 r8] MT)) := Q.alloc (by rw [hW9]; exact q9 (w0 := w) (w := w2) (b := w.heap.size + 2) (.int .i64 r0) (.int .i64 r1) (.int .i64 r2) (.slice A' n' c') (.slice B' k' d') (.int .i64 r5) (.int .i64 r6) (.int .i64 r7) (.int .i64 r8) HQ2.out (by omega)) _
  have hR9 : RmR (W9.alloc (.cells #[.int .i64 r0, .int .i64 r1, .int .i64 r2, .slice A' n' c', .slice B' k' d', .int .i64 r5, .int .i64 r6, .int .i64 r7, .int .i64 r8] MT)) ⟨A', n', c', B', k', d', ⟨r0, r1, r2, rb, ry, r5, r6, r7, r8⟩⟩ := (show RmR W9 ⟨A', n', c', B', k', d', ⟨r0, r1, r2, rb, ry, r5, r6, r7, r8⟩⟩ from by rw [hW9]; exact RmR.keep HRM.out HRR.out HFR.out (b := w.heap.size + 2) (by omega) hs2 (fun g _ => keep9 w2 (w.heap.size + 2) (.int .i64 r0) (.int .i64 r1) (.int .i64 r2) (.slice A' n' c') (.slice B' k' d') (.int .i64 r5) (.int .i64 r6) (.int .i64 r7) (.int .i64 r8) g) (by simp [World.setCell])).up ((Q.refl W9).alloc _)
  subst hW9
  refine bodyPost_ret (v := .tuple #[.agg #[.int .i64 r0, .int .i64 r1, .int .i64 r2, .slice A' n' c', .slice B' k' d', .int .i64 r5, .int .i64 r6, .int .i64 r7, .int .i64 r8], .int .i64 0, .int .i64 Y]) (ret_m3 (p := 4) (u := 5) (x := 6) rfl rfl (by simp) (by simp) (by simp) hg) rfl ?_
  exact ⟨⟨A', n', c', B', k', d', ⟨r0, r1, r2, rb, ry, r5, r6, r7, r8⟩⟩, rfl, HM.out, hR9, Fr.trans (Fr.refl w.heap.size _) HFR.out (by omega), hF⟩
set_option maxRecDepth 100000 in
set_option maxHeartbeats 8000000 in
theorem rAct2_any (v : RV) (a b : Int) (w : World) (H : RmR w v) (K : RmK v.m) : Calls Tryz.prog 10 #[v.val, .agg #[.int .i64 2, .int .i64 a, .int .i64 b]] w (MPost2 (ractM v.m 2 a b) w v) := by
  have hr : ractM v.m 2 a b = ((rresizeM v.m a b).1, (rresizeM v.m a b).2.1, (rresizeM v.m a b).2.2) := by unfold ractM; rw [if_neg (by decide), if_neg (by decide), if_pos rfl]
  rw [hr]
  clear hr
  have HC : Hid (∀ W, Q w W → Calls Tryz.prog 25 #[v.val, .int .i64 a, .int .i64 b] W fun e w' => ∃ v', e = .returned (.tuple #[v'.val, .int .i64 (rresizeM v.m a b).2.1, .int .i64 (rresizeM v.m a b).2.2]) ∧ v'.m = (rresizeM v.m a b).1 ∧ RmR w' v' ∧ Fr W.heap.size v v' ∧ Q W w') := fun W h => by
    exact rResize_any v a b W (H.up h) K.N K.kind K.piece K.len K.calls (fun j x y h1 h2 h3 => K.fit j x y b h1 h2 h3)
  have HRM := hide H
  obtain ⟨MM, hMM⟩ : ∃ MM, MM = (rresizeM v.m a b).1 := ⟨_, rfl⟩
  obtain ⟨X, hX⟩ : ∃ X, X = ((rresizeM v.m a b).2.1 : Int) := ⟨_, rfl⟩
  obtain ⟨Y, hY⟩ : ∃ Y, Y = (rresizeM v.m a b).2.2 := ⟨_, rfl⟩
  rw [← hMM, ← hX, ← hY] at HC
  rw [← hMM, ← hX, ← hY]
  clear hMM hX hY H K
  unfold RV.val RV.cells at HC ⊢
  obtain ⟨A0, n, c, B, k, d, ⟨m0, m1, m2, bl, ys, m5, m6, m7, m8⟩⟩ := v
  dsimp only at HC ⊢
  obtain ⟨w1, hw1⟩ : ∃ w1, ((w.alloc (.cells #[.int .i64 m0, .int .i64 m1, .int .i64 m2, .slice A0 n c, .slice B k d, .int .i64 m5, .int .i64 m6, .int .i64 m7, .int .i64 m8] MT)).alloc (.cells #[.int .i64 2, .int .i64 a, .int .i64 b] 40)).alloc (.cells #[.int .i64 0, .int .i64 0, .int .i64 0, .slice none 0 0, .slice none 0 0, .int .i64 0, .int .i64 0, .int .i64 0, .int .i64 0] MT) = w1 := ⟨_, rfl⟩
  have hq1 : Q w w1 := by rw [← hw1]; exact (((Q.refl w).alloc _).alloc _).alloc _
  have hs2 : w.heap.size + 2 < w1.heap.size := by rw [← hw1]; simp
  have hs0 : w.heap.size < w1.heap.size := by omega
  have hs1 : w.heap.size + 1 < w1.heap.size := by omega
  have q0 : w1.heap[w.heap.size]? = some (.cells #[.int .i64 m0, .int .i64 m1, .int .i64 m2, .slice A0 n c, .slice B k d, .int .i64 m5, .int .i64 m6, .int .i64 m7, .int .i64 m8] MT (0, 0)) := by
    rw [← hw1, (((Q.refl (w.alloc _)).alloc _).alloc _).below.block _ (by simp)]
    exact heap_alloc_new w _
  have a1 : w1.heap[w.heap.size + 1]? = some (.cells #[.int .i64 2, .int .i64 a, .int .i64 b] 40 (0, 0)) := by
    rw [← hw1, ((Q.refl ((w.alloc _).alloc _)).alloc _).below.block _ (by simp)]
    have h := heap_alloc_new (w.alloc (.cells #[.int .i64 m0, .int .i64 m1, .int .i64 m2, .slice A0 n c, .slice B k d, .int .i64 m5, .int .i64 m6, .int .i64 m7, .int .i64 m8] MT)) (.cells #[.int .i64 2, .int .i64 a, .int .i64 b] 40)
    rwa [show (w.alloc (.cells #[.int .i64 m0, .int .i64 m1, .int .i64 m2, .slice A0 n c, .slice B k d, .int .i64 m5, .int .i64 m6, .int .i64 m7, .int .i64 m8] MT)).heap.size = w.heap.size + 1 by simp] at h
  have q1 : w1.heap[w.heap.size + 2]? = some (.cells #[.int .i64 0, .int .i64 0, .int .i64 0, .slice none 0 0, .slice none 0 0, .int .i64 0, .int .i64 0, .int .i64 0, .int .i64 0] MT (0, 0)) := by
    have h := heap_alloc_new ((w.alloc (.cells #[.int .i64 m0, .int .i64 m1, .int .i64 m2, .slice A0 n c, .slice B k d, .int .i64 m5, .int .i64 m6, .int .i64 m7, .int .i64 m8] MT)).alloc (.cells #[.int .i64 2, .int .i64 a, .int .i64 b] 40)) (.cells #[.int .i64 0, .int .i64 0, .int .i64 0, .slice none 0 0, .slice none 0 0, .int .i64 0, .int .i64 0, .int .i64 0, .int .i64 0] MT)
    rw [show ((w.alloc (.cells #[.int .i64 m0, .int .i64 m1, .int .i64 m2, .slice A0 n c, .slice B k d, .int .i64 m5, .int .i64 m6, .int .i64 m7, .int .i64 m8] MT)).alloc (.cells #[.int .i64 2, .int .i64 a, .int .i64 b] 40)).heap.size = w.heap.size + 2 by simp, hw1] at h
    exact h
  have HW1 := hide hw1
  have HR0 := hide q0
  have HR1 := hide q1
  have HQ1 := hide hq1
  obtain ⟨k0, k1, k2, k3, k4, k5, k6, k7, k8⟩ := cells9 q0
  obtain ⟨z0, z1, z2, z3, z4, z5, z6, z7, z8⟩ := cells9 q1
  obtain ⟨y0, y1, y2, y3, y4, y5, y6, y7, y8⟩ := free9 q1
  have i0 : w1.cell? ⟨w.heap.size + 1, 0, none⟩ = some (.int .i64 2) := by rw [cell_of_row _ _ _ _ _ _ a1]; rfl
  have i1 : w1.cell? ⟨w.heap.size + 1, 1, none⟩ = some (.int .i64 a) := by rw [cell_of_row _ _ _ _ _ _ a1]; rfl
  have i2 : w1.cell? ⟨w.heap.size + 1, 2, none⟩ = some (.int .i64 b) := by rw [cell_of_row _ _ _ _ _ _ a1]; rfl
  have HCW := hide (HC.out w1 HQ1.out)
  clear hw1 hq1 q0 q1 a1 HC
  go_enter Tryz.func10, Tryz.ntmps10
  go_wp2_with fail
  rw [HW1.out]
  refine HCW.out.mono ?_
  rintro e w2 ⟨⟨A', n', c', B', k', d', ⟨r0, r1, r2, rb, ry, r5, r6, r7, r8⟩⟩, rfl, hm, hR, hfr, hq2⟩
  have hs22 := hq2.size
  have q1 := (hq2.below.block _ hs2).trans HR1.out
  obtain ⟨z0, z1, z2, z3, z4, z5, z6, z7, z8⟩ := cells9 q1
  obtain ⟨y0, y1, y2, y3, y4, y5, y6, y7, y8⟩ := free9 q1
  have HR12 := hide q1
  have HQ2 := hide (HQ1.out.trans hq2)
  have HM := hide hm
  have HRR := hide hR
  have HFR := hide hfr
  dsimp only [RV.val, RV.cells]
  have hs0' : w.heap.size < w2.heap.size := by omega
  have hs2' : w.heap.size + 2 < w2.heap.size := by omega
  clear q1 hq2 hm hR hfr
  go_wp2_with fail
  have hg := row9 (w := w2) (b := w.heap.size + 2) (.int .i64 r0) (.int .i64 r1) (.int .i64 r2) (.slice A' n' c') (.slice B' k' d') (.int .i64 r5) (.int .i64 r6) (.int .i64 r7) (.int .i64 r8) HR12.out
  have hF := q9 (w0 := w) (w := w2) (b := w.heap.size + 2) (.int .i64 r0) (.int .i64 r1) (.int .i64 r2) (.slice A' n' c') (.slice B' k' d') (.int .i64 r5) (.int .i64 r6) (.int .i64 r7) (.int .i64 r8) (HQ2.out) (by omega)
  refine bodyPost_ret (v := .tuple #[.agg #[.int .i64 r0, .int .i64 r1, .int .i64 r2, .slice A' n' c', .slice B' k' d', .int .i64 r5, .int .i64 r6, .int .i64 r7, .int .i64 r8], .int .i64 X, .int .i64 Y]) (ret_m3 (p := 4) (u := 5) (x := 6) rfl rfl (by simp) (by simp) (by simp) hg) rfl ?_
  have hR9 := RmR.keep HRM.out HRR.out HFR.out (b := w.heap.size + 2) (by omega) hs2 (fun g _ => keep9 w2 (w.heap.size + 2) (.int .i64 r0) (.int .i64 r1) (.int .i64 r2) (.slice A' n' c') (.slice B' k' d') (.int .i64 r5) (.int .i64 r6) (.int .i64 r7) (.int .i64 r8) g) (by simp [World.setCell])
  exact ⟨⟨A', n', c', B', k', d', ⟨r0, r1, r2, rb, ry, r5, r6, r7, r8⟩⟩, rfl, HM.out, hR9, Fr.trans (Fr.refl w.heap.size _) HFR.out (by omega), hF⟩
set_option maxRecDepth 100000 in
set_option maxHeartbeats 8000000 in
theorem rAct3_any (v : RV) (a b : Int) (w : World) (H : RmR w v) (K : RmK v.m) : Calls Tryz.prog 10 #[v.val, .agg #[.int .i64 3, .int .i64 a, .int .i64 b]] w (MPost2 (ractM v.m 3 a b) w v) := by
  have hr : ractM v.m 3 a b = ((if v.m.kind = 0 ∨ v.m.kind = 3 then v.m else { v.m with bl := [], top := 0 }), 0, (if v.m.kind = 0 ∨ v.m.kind = 3 then 7 else 0 : Int)) := by unfold ractM; rw [if_neg (by decide), if_neg (by decide), if_neg (by decide), if_pos rfl]; split <;> rfl
  rw [hr]
  clear hr
  have HC : Hid (∀ W, Q w W → Calls Tryz.prog 26 #[v.val] W fun e w' => ∃ v', e = .returned (.tuple #[v'.val, .int .i64 (if v.m.kind = 0 ∨ v.m.kind = 3 then 7 else 0 : Int)]) ∧ v'.m = (if v.m.kind = 0 ∨ v.m.kind = 3 then v.m else { v.m with bl := [], top := 0 }) ∧ RmR w' v' ∧ Fr W.heap.size v v' ∧ Q W w') := fun W h => by
    refine (rReset_any v W).mono ?_
    rintro e w' ⟨rfl, hq⟩
    unfold resetR
    split
    · exact ⟨v, rfl, rfl, (H.up h).up hq, Fr.refl _ _, hq⟩
    · exact ⟨_, rfl, rfl, ⟨Sl.nil w', ((H.up h).up hq).y, fun _ => ⟨rfl, rfl⟩, H.yn, TyA.none _ _, ((H.up h).up hq).tb⟩, ⟨.inr (fun g o e => by cases e), .inl ⟨rfl, rfl⟩⟩, hq⟩
  have HRM := hide H
  obtain ⟨MM, hMM⟩ : ∃ MM, MM = (if v.m.kind = 0 ∨ v.m.kind = 3 then v.m else { v.m with bl := [], top := 0 }) := ⟨_, rfl⟩
  obtain ⟨Y, hY⟩ : ∃ Y, Y = (if v.m.kind = 0 ∨ v.m.kind = 3 then 7 else 0 : Int) := ⟨_, rfl⟩
  rw [← hMM, ← hY] at HC
  rw [← hMM, ← hY]
  clear hMM hY H K
  unfold RV.val RV.cells at HC ⊢
  obtain ⟨A0, n, c, B, k, d, ⟨m0, m1, m2, bl, ys, m5, m6, m7, m8⟩⟩ := v
  dsimp only at HC ⊢
  obtain ⟨w1, hw1⟩ : ∃ w1, ((w.alloc (.cells #[.int .i64 m0, .int .i64 m1, .int .i64 m2, .slice A0 n c, .slice B k d, .int .i64 m5, .int .i64 m6, .int .i64 m7, .int .i64 m8] MT)).alloc (.cells #[.int .i64 3, .int .i64 a, .int .i64 b] 40)).alloc (.cells #[.int .i64 0, .int .i64 0, .int .i64 0, .slice none 0 0, .slice none 0 0, .int .i64 0, .int .i64 0, .int .i64 0, .int .i64 0] MT) = w1 := ⟨_, rfl⟩
  have hq1 : Q w w1 := by rw [← hw1]; exact (((Q.refl w).alloc _).alloc _).alloc _
  have hs2 : w.heap.size + 2 < w1.heap.size := by rw [← hw1]; simp
  have hs0 : w.heap.size < w1.heap.size := by omega
  have hs1 : w.heap.size + 1 < w1.heap.size := by omega
  have q0 : w1.heap[w.heap.size]? = some (.cells #[.int .i64 m0, .int .i64 m1, .int .i64 m2, .slice A0 n c, .slice B k d, .int .i64 m5, .int .i64 m6, .int .i64 m7, .int .i64 m8] MT (0, 0)) := by
    rw [← hw1, (((Q.refl (w.alloc _)).alloc _).alloc _).below.block _ (by simp)]
    exact heap_alloc_new w _
  have a1 : w1.heap[w.heap.size + 1]? = some (.cells #[.int .i64 3, .int .i64 a, .int .i64 b] 40 (0, 0)) := by
    rw [← hw1, ((Q.refl ((w.alloc _).alloc _)).alloc _).below.block _ (by simp)]
    have h := heap_alloc_new (w.alloc (.cells #[.int .i64 m0, .int .i64 m1, .int .i64 m2, .slice A0 n c, .slice B k d, .int .i64 m5, .int .i64 m6, .int .i64 m7, .int .i64 m8] MT)) (.cells #[.int .i64 3, .int .i64 a, .int .i64 b] 40)
    rwa [show (w.alloc (.cells #[.int .i64 m0, .int .i64 m1, .int .i64 m2, .slice A0 n c, .slice B k d, .int .i64 m5, .int .i64 m6, .int .i64 m7, .int .i64 m8] MT)).heap.size = w.heap.size + 1 by simp] at h
  have q1 : w1.heap[w.heap.size + 2]? = some (.cells #[.int .i64 0, .int .i64 0, .int .i64 0, .slice none 0 0, .slice none 0 0, .int .i64 0, .int .i64 0, .int .i64 0, .int .i64 0] MT (0, 0)) := by
    have h := heap_alloc_new ((w.alloc (.cells #[.int .i64 m0, .int .i64 m1, .int .i64 m2, .slice A0 n c, .slice B k d, .int .i64 m5, .int .i64 m6, .int .i64 m7, .int .i64 m8] MT)).alloc (.cells #[.int .i64 3, .int .i64 a, .int .i64 b] 40)) (.cells #[.int .i64 0, .int .i64 0, .int .i64 0, .slice none 0 0, .slice none 0 0, .int .i64 0, .int .i64 0, .int .i64 0, .int .i64 0] MT)
    rw [show ((w.alloc (.cells #[.int .i64 m0, .int .i64 m1, .int .i64 m2, .slice A0 n c, .slice B k d, .int .i64 m5, .int .i64 m6, .int .i64 m7, .int .i64 m8] MT)).alloc (.cells #[.int .i64 3, .int .i64 a, .int .i64 b] 40)).heap.size = w.heap.size + 2 by simp, hw1] at h
    exact h
  have HW1 := hide hw1
  have HR0 := hide q0
  have HR1 := hide q1
  have HQ1 := hide hq1
  obtain ⟨k0, k1, k2, k3, k4, k5, k6, k7, k8⟩ := cells9 q0
  obtain ⟨z0, z1, z2, z3, z4, z5, z6, z7, z8⟩ := cells9 q1
  obtain ⟨y0, y1, y2, y3, y4, y5, y6, y7, y8⟩ := free9 q1
  have i0 : w1.cell? ⟨w.heap.size + 1, 0, none⟩ = some (.int .i64 3) := by rw [cell_of_row _ _ _ _ _ _ a1]; rfl
  have i1 : w1.cell? ⟨w.heap.size + 1, 1, none⟩ = some (.int .i64 a) := by rw [cell_of_row _ _ _ _ _ _ a1]; rfl
  have i2 : w1.cell? ⟨w.heap.size + 1, 2, none⟩ = some (.int .i64 b) := by rw [cell_of_row _ _ _ _ _ _ a1]; rfl
  have HCW := hide (HC.out w1 HQ1.out)
  clear hw1 hq1 q0 q1 a1 HC
  go_enter Tryz.func10, Tryz.ntmps10
  go_wp2_with fail
  rw [HW1.out]
  refine HCW.out.mono ?_
  rintro e w2 ⟨⟨A', n', c', B', k', d', ⟨r0, r1, r2, rb, ry, r5, r6, r7, r8⟩⟩, rfl, hm, hR, hfr, hq2⟩
  have hs22 := hq2.size
  have q1 := (hq2.below.block _ hs2).trans HR1.out
  obtain ⟨z0, z1, z2, z3, z4, z5, z6, z7, z8⟩ := cells9 q1
  obtain ⟨y0, y1, y2, y3, y4, y5, y6, y7, y8⟩ := free9 q1
  have HR12 := hide q1
  have HQ2 := hide (HQ1.out.trans hq2)
  have HM := hide hm
  have HRR := hide hR
  have HFR := hide hfr
  dsimp only [RV.val, RV.cells]
  have hs0' : w.heap.size < w2.heap.size := by omega
  have hs2' : w.heap.size + 2 < w2.heap.size := by omega
  clear q1 hq2 hm hR hfr
  go_wp2_with fail
  have hg0 := row9 (w := w2) (b := w.heap.size + 2) (.int .i64 r0) (.int .i64 r1) (.int .i64 r2) (.slice A' n' c') (.slice B' k' d') (.int .i64 r5) (.int .i64 r6) (.int .i64 r7) (.int .i64 r8) HR12.out
  obtain ⟨W9, hW9⟩ : ∃ W9, W9 = (((((((((w2.setCell ⟨w.heap.size + 2, 0, none⟩ (.int .i64 r0)).setCell ⟨w.heap.size + 2, 1, none⟩ (.int .i64 r1)).setCell ⟨w.heap.size + 2, 2, none⟩ (.int .i64 r2)).setCell ⟨w.heap.size + 2, 3, none⟩ (.slice A' n' c')).setCell ⟨w.heap.size + 2, 4, none⟩ (.slice B' k' d')).setCell ⟨w.heap.size + 2, 5, none⟩ (.int .i64 r5)).setCell ⟨w.heap.size + 2, 6, none⟩ (.int .i64 r6)).setCell ⟨w.heap.size + 2, 7, none⟩ (.int .i64 r7)).setCell ⟨w.heap.size + 2, 8, none⟩ (.int .i64 r8)) := ⟨_, rfl⟩
  have hg : (W9.alloc (.cells #[.int .i64 r0, .int .i64 r1, .int .i64 r2, .slice A' n' c', .slice B' k' d', .int .i64 r5, .int .i64 r6, .int .i64 r7, .int .i64 r8] MT)).heap[w.heap.size + 2]? = some (.cells #[.int .i64 r0, .int .i64 r1, .int .i64 r2, .slice A' n' c', .slice B' k' d', .int .i64 r5, .int .i64 r6, .int .i64 r7, .int .i64 r8] MT (0, 0)) := (((Q.refl W9).alloc _).below.block _ (by rw [hW9]; simp [World.setCell]; omega)).trans (by rw [hW9]; exact hg0)
  have hF : Q w (W9.alloc (.cells #[.int .i64 r0, .int .i64 r1, .int .i64 r2, .slice A' n' c', .slice B' k' d', .int .i64 r5, .int .i64 r6, .int .i64 r7, .int .i64 r8] MT)) := Q.alloc (by rw [hW9]; exact q9 (w0 := w) (w := w2) (b := w.heap.size + 2) (.int .i64 r0) (.int .i64 r1) (.int .i64 r2) (.slice A' n' c') (.slice B' k' d') (.int .i64 r5) (.int .i64 r6) (.int .i64 r7) (.int .i64 r8) HQ2.out (by omega)) _
  have hR9 : RmR (W9.alloc (.cells #[.int .i64 r0, .int .i64 r1, .int .i64 r2, .slice A' n' c', .slice B' k' d', .int .i64 r5, .int .i64 r6, .int .i64 r7, .int .i64 r8] MT)) ⟨A', n', c', B', k', d', ⟨r0, r1, r2, rb, ry, r5, r6, r7, r8⟩⟩ := (show RmR W9 ⟨A', n', c', B', k', d', ⟨r0, r1, r2, rb, ry, r5, r6, r7, r8⟩⟩ from by rw [hW9]; exact RmR.keep HRM.out HRR.out HFR.out (b := w.heap.size + 2) (by omega) hs2 (fun g _ => keep9 w2 (w.heap.size + 2) (.int .i64 r0) (.int .i64 r1) (.int .i64 r2) (.slice A' n' c') (.slice B' k' d') (.int .i64 r5) (.int .i64 r6) (.int .i64 r7) (.int .i64 r8) g) (by simp [World.setCell])).up ((Q.refl W9).alloc _)
  subst hW9
  refine bodyPost_ret (v := .tuple #[.agg #[.int .i64 r0, .int .i64 r1, .int .i64 r2, .slice A' n' c', .slice B' k' d', .int .i64 r5, .int .i64 r6, .int .i64 r7, .int .i64 r8], .int .i64 0, .int .i64 Y]) (ret_m3 (p := 4) (u := 5) (x := 6) rfl rfl (by simp) (by simp) (by simp) hg) rfl ?_
  exact ⟨⟨A', n', c', B', k', d', ⟨r0, r1, r2, rb, ry, r5, r6, r7, r8⟩⟩, rfl, HM.out, hR9, Fr.trans (Fr.refl w.heap.size _) HFR.out (by omega), hF⟩
set_option maxRecDepth 100000 in
set_option maxHeartbeats 8000000 in
theorem rAct4_any (v : RV) (a b : Int) (w : World) (H : RmR w v) (K : RmK v.m) : Calls Tryz.prog 10 #[v.val, .agg #[.int .i64 4, .int .i64 a, .int .i64 b]] w (MPost2 (ractM v.m 4 a b) w v) := by
  have hr : ractM v.m 4 a b = ((failR v.m a).1, 0, (failR v.m a).2) := by unfold ractM; rw [if_neg (by decide), if_neg (by decide), if_neg (by decide), if_neg (by decide), if_pos rfl]
  rw [hr]
  clear hr
  have HC : Hid (∀ W, Q w W → Calls Tryz.prog 27 #[v.val, .int .i64 a] W fun e w' => ∃ v', e = .returned (.tuple #[v'.val, .int .i64 (failR v.m a).2]) ∧ v'.m = (failR v.m a).1 ∧ RmR w' v' ∧ Fr W.heap.size v v' ∧ Q W w') := fun W h => by
    refine (rFailAt_any v a W).mono ?_
    rintro e w' ⟨rfl, hq⟩
    have e1 : (failR v.m a).1.bl = v.m.bl := by unfold failR; split <;> rfl
    have e2 : (failR v.m a).1.ys = v.m.ys := by unfold failR; split <;> rfl
    exact ⟨_, rfl, rfl, ((H.up h).up hq).withM e1 e2, (Fr.refl _ _).withM e1 e2, hq⟩
  have HRM := hide H
  obtain ⟨MM, hMM⟩ : ∃ MM, MM = (failR v.m a).1 := ⟨_, rfl⟩
  obtain ⟨Y, hY⟩ : ∃ Y, Y = (failR v.m a).2 := ⟨_, rfl⟩
  rw [← hMM, ← hY] at HC
  rw [← hMM, ← hY]
  clear hMM hY H K
  unfold RV.val RV.cells at HC ⊢
  obtain ⟨A0, n, c, B, k, d, ⟨m0, m1, m2, bl, ys, m5, m6, m7, m8⟩⟩ := v
  dsimp only at HC ⊢
  obtain ⟨w1, hw1⟩ : ∃ w1, ((w.alloc (.cells #[.int .i64 m0, .int .i64 m1, .int .i64 m2, .slice A0 n c, .slice B k d, .int .i64 m5, .int .i64 m6, .int .i64 m7, .int .i64 m8] MT)).alloc (.cells #[.int .i64 4, .int .i64 a, .int .i64 b] 40)).alloc (.cells #[.int .i64 0, .int .i64 0, .int .i64 0, .slice none 0 0, .slice none 0 0, .int .i64 0, .int .i64 0, .int .i64 0, .int .i64 0] MT) = w1 := ⟨_, rfl⟩
  have hq1 : Q w w1 := by rw [← hw1]; exact (((Q.refl w).alloc _).alloc _).alloc _
  have hs2 : w.heap.size + 2 < w1.heap.size := by rw [← hw1]; simp
  have hs0 : w.heap.size < w1.heap.size := by omega
  have hs1 : w.heap.size + 1 < w1.heap.size := by omega
  have q0 : w1.heap[w.heap.size]? = some (.cells #[.int .i64 m0, .int .i64 m1, .int .i64 m2, .slice A0 n c, .slice B k d, .int .i64 m5, .int .i64 m6, .int .i64 m7, .int .i64 m8] MT (0, 0)) := by
    rw [← hw1, (((Q.refl (w.alloc _)).alloc _).alloc _).below.block _ (by simp)]
    exact heap_alloc_new w _
  have a1 : w1.heap[w.heap.size + 1]? = some (.cells #[.int .i64 4, .int .i64 a, .int .i64 b] 40 (0, 0)) := by
    rw [← hw1, ((Q.refl ((w.alloc _).alloc _)).alloc _).below.block _ (by simp)]
    have h := heap_alloc_new (w.alloc (.cells #[.int .i64 m0, .int .i64 m1, .int .i64 m2, .slice A0 n c, .slice B k d, .int .i64 m5, .int .i64 m6, .int .i64 m7, .int .i64 m8] MT)) (.cells #[.int .i64 4, .int .i64 a, .int .i64 b] 40)
    rwa [show (w.alloc (.cells #[.int .i64 m0, .int .i64 m1, .int .i64 m2, .slice A0 n c, .slice B k d, .int .i64 m5, .int .i64 m6, .int .i64 m7, .int .i64 m8] MT)).heap.size = w.heap.size + 1 by simp] at h
  have q1 : w1.heap[w.heap.size + 2]? = some (.cells #[.int .i64 0, .int .i64 0, .int .i64 0, .slice none 0 0, .slice none 0 0, .int .i64 0, .int .i64 0, .int .i64 0, .int .i64 0] MT (0, 0)) := by
    have h := heap_alloc_new ((w.alloc (.cells #[.int .i64 m0, .int .i64 m1, .int .i64 m2, .slice A0 n c, .slice B k d, .int .i64 m5, .int .i64 m6, .int .i64 m7, .int .i64 m8] MT)).alloc (.cells #[.int .i64 4, .int .i64 a, .int .i64 b] 40)) (.cells #[.int .i64 0, .int .i64 0, .int .i64 0, .slice none 0 0, .slice none 0 0, .int .i64 0, .int .i64 0, .int .i64 0, .int .i64 0] MT)
    rw [show ((w.alloc (.cells #[.int .i64 m0, .int .i64 m1, .int .i64 m2, .slice A0 n c, .slice B k d, .int .i64 m5, .int .i64 m6, .int .i64 m7, .int .i64 m8] MT)).alloc (.cells #[.int .i64 4, .int .i64 a, .int .i64 b] 40)).heap.size = w.heap.size + 2 by simp, hw1] at h
    exact h
  have HW1 := hide hw1
  have HR0 := hide q0
  have HR1 := hide q1
  have HQ1 := hide hq1
  obtain ⟨k0, k1, k2, k3, k4, k5, k6, k7, k8⟩ := cells9 q0
  obtain ⟨z0, z1, z2, z3, z4, z5, z6, z7, z8⟩ := cells9 q1
  obtain ⟨y0, y1, y2, y3, y4, y5, y6, y7, y8⟩ := free9 q1
  have i0 : w1.cell? ⟨w.heap.size + 1, 0, none⟩ = some (.int .i64 4) := by rw [cell_of_row _ _ _ _ _ _ a1]; rfl
  have i1 : w1.cell? ⟨w.heap.size + 1, 1, none⟩ = some (.int .i64 a) := by rw [cell_of_row _ _ _ _ _ _ a1]; rfl
  have i2 : w1.cell? ⟨w.heap.size + 1, 2, none⟩ = some (.int .i64 b) := by rw [cell_of_row _ _ _ _ _ _ a1]; rfl
  have HCW := hide (HC.out w1 HQ1.out)
  clear hw1 hq1 q0 q1 a1 HC
  go_enter Tryz.func10, Tryz.ntmps10
  go_wp2_with fail
  rw [HW1.out]
  refine HCW.out.mono ?_
  rintro e w2 ⟨⟨A', n', c', B', k', d', ⟨r0, r1, r2, rb, ry, r5, r6, r7, r8⟩⟩, rfl, hm, hR, hfr, hq2⟩
  have hs22 := hq2.size
  have q1 := (hq2.below.block _ hs2).trans HR1.out
  obtain ⟨z0, z1, z2, z3, z4, z5, z6, z7, z8⟩ := cells9 q1
  obtain ⟨y0, y1, y2, y3, y4, y5, y6, y7, y8⟩ := free9 q1
  have HR12 := hide q1
  have HQ2 := hide (HQ1.out.trans hq2)
  have HM := hide hm
  have HRR := hide hR
  have HFR := hide hfr
  dsimp only [RV.val, RV.cells]
  have hs0' : w.heap.size < w2.heap.size := by omega
  have hs2' : w.heap.size + 2 < w2.heap.size := by omega
  clear q1 hq2 hm hR hfr
  go_wp2_with fail
  have hg0 := row9 (w := w2) (b := w.heap.size + 2) (.int .i64 r0) (.int .i64 r1) (.int .i64 r2) (.slice A' n' c') (.slice B' k' d') (.int .i64 r5) (.int .i64 r6) (.int .i64 r7) (.int .i64 r8) HR12.out
  obtain ⟨W9, hW9⟩ : ∃ W9, W9 = (((((((((w2.setCell ⟨w.heap.size + 2, 0, none⟩ (.int .i64 r0)).setCell ⟨w.heap.size + 2, 1, none⟩ (.int .i64 r1)).setCell ⟨w.heap.size + 2, 2, none⟩ (.int .i64 r2)).setCell ⟨w.heap.size + 2, 3, none⟩ (.slice A' n' c')).setCell ⟨w.heap.size + 2, 4, none⟩ (.slice B' k' d')).setCell ⟨w.heap.size + 2, 5, none⟩ (.int .i64 r5)).setCell ⟨w.heap.size + 2, 6, none⟩ (.int .i64 r6)).setCell ⟨w.heap.size + 2, 7, none⟩ (.int .i64 r7)).setCell ⟨w.heap.size + 2, 8, none⟩ (.int .i64 r8)) := ⟨_, rfl⟩
  have hg : (W9.alloc (.cells #[.int .i64 r0, .int .i64 r1, .int .i64 r2, .slice A' n' c', .slice B' k' d', .int .i64 r5, .int .i64 r6, .int .i64 r7, .int .i64 r8] MT)).heap[w.heap.size + 2]? = some (.cells #[.int .i64 r0, .int .i64 r1, .int .i64 r2, .slice A' n' c', .slice B' k' d', .int .i64 r5, .int .i64 r6, .int .i64 r7, .int .i64 r8] MT (0, 0)) := (((Q.refl W9).alloc _).below.block _ (by rw [hW9]; simp [World.setCell]; omega)).trans (by rw [hW9]; exact hg0)
  have hF : Q w (W9.alloc (.cells #[.int .i64 r0, .int .i64 r1, .int .i64 r2, .slice A' n' c', .slice B' k' d', .int .i64 r5, .int .i64 r6, .int .i64 r7, .int .i64 r8] MT)) := Q.alloc (by rw [hW9]; exact q9 (w0 := w) (w := w2) (b := w.heap.size + 2) (.int .i64 r0) (.int .i64 r1) (.int .i64 r2) (.slice A' n' c') (.slice B' k' d') (.int .i64 r5) (.int .i64 r6) (.int .i64 r7) (.int .i64 r8) HQ2.out (by omega)) _
  have hR9 : RmR (W9.alloc (.cells #[.int .i64 r0, .int .i64 r1, .int .i64 r2, .slice A' n' c', .slice B' k' d', .int .i64 r5, .int .i64 r6, .int .i64 r7, .int .i64 r8] MT)) ⟨A', n', c', B', k', d', ⟨r0, r1, r2, rb, ry, r5, r6, r7, r8⟩⟩ := (show RmR W9 ⟨A', n', c', B', k', d', ⟨r0, r1, r2, rb, ry, r5, r6, r7, r8⟩⟩ from by rw [hW9]; exact RmR.keep HRM.out HRR.out HFR.out (b := w.heap.size + 2) (by omega) hs2 (fun g _ => keep9 w2 (w.heap.size + 2) (.int .i64 r0) (.int .i64 r1) (.int .i64 r2) (.slice A' n' c') (.slice B' k' d') (.int .i64 r5) (.int .i64 r6) (.int .i64 r7) (.int .i64 r8) g) (by simp [World.setCell])).up ((Q.refl W9).alloc _)
  subst hW9
  refine bodyPost_ret (v := .tuple #[.agg #[.int .i64 r0, .int .i64 r1, .int .i64 r2, .slice A' n' c', .slice B' k' d', .int .i64 r5, .int .i64 r6, .int .i64 r7, .int .i64 r8], .int .i64 0, .int .i64 Y]) (ret_m3 (p := 4) (u := 5) (x := 6) rfl rfl (by simp) (by simp) (by simp) hg) rfl ?_
  exact ⟨⟨A', n', c', B', k', d', ⟨r0, r1, r2, rb, ry, r5, r6, r7, r8⟩⟩, rfl, HM.out, hR9, Fr.trans (Fr.refl w.heap.size _) HFR.out (by omega), hF⟩
set_option maxRecDepth 100000 in
set_option maxHeartbeats 8000000 in
theorem rAct5_any (v : RV) (a b : Int) (w : World) (H : RmR w v) (K : RmK v.m) : Calls Tryz.prog 10 #[v.val, .agg #[.int .i64 5, .int .i64 a, .int .i64 b]] w (MPost2 (ractM v.m 5 a b) w v) := by
  have hr : ractM v.m 5 a b = ((storeMR v.m a b).1, 0, (storeMR v.m a b).2) := by unfold ractM; rw [if_neg (by decide), if_neg (by decide), if_neg (by decide), if_neg (by decide), if_neg (by decide), if_pos rfl]
  rw [hr]
  clear hr
  have HC : Hid (∀ W, Q w W → Calls Tryz.prog 28 #[v.val, .int .i64 a, .int .i64 b] W fun e w' => ∃ v', e = .returned (.tuple #[v'.val, .int .i64 (storeMR v.m a b).2]) ∧ v'.m = (storeMR v.m a b).1 ∧ RmR w' v' ∧ Fr W.heap.size v v' ∧ Q W w') := fun W h => by
    exact rStore_any v a b W (H.up h) K.N
  have HRM := hide H
  obtain ⟨MM, hMM⟩ : ∃ MM, MM = (storeMR v.m a b).1 := ⟨_, rfl⟩
  obtain ⟨Y, hY⟩ : ∃ Y, Y = (storeMR v.m a b).2 := ⟨_, rfl⟩
  rw [← hMM, ← hY] at HC
  rw [← hMM, ← hY]
  clear hMM hY H K
  unfold RV.val RV.cells at HC ⊢
  obtain ⟨A0, n, c, B, k, d, ⟨m0, m1, m2, bl, ys, m5, m6, m7, m8⟩⟩ := v
  dsimp only at HC ⊢
  obtain ⟨w1, hw1⟩ : ∃ w1, ((w.alloc (.cells #[.int .i64 m0, .int .i64 m1, .int .i64 m2, .slice A0 n c, .slice B k d, .int .i64 m5, .int .i64 m6, .int .i64 m7, .int .i64 m8] MT)).alloc (.cells #[.int .i64 5, .int .i64 a, .int .i64 b] 40)).alloc (.cells #[.int .i64 0, .int .i64 0, .int .i64 0, .slice none 0 0, .slice none 0 0, .int .i64 0, .int .i64 0, .int .i64 0, .int .i64 0] MT) = w1 := ⟨_, rfl⟩
  have hq1 : Q w w1 := by rw [← hw1]; exact (((Q.refl w).alloc _).alloc _).alloc _
  have hs2 : w.heap.size + 2 < w1.heap.size := by rw [← hw1]; simp
  have hs0 : w.heap.size < w1.heap.size := by omega
  have hs1 : w.heap.size + 1 < w1.heap.size := by omega
  have q0 : w1.heap[w.heap.size]? = some (.cells #[.int .i64 m0, .int .i64 m1, .int .i64 m2, .slice A0 n c, .slice B k d, .int .i64 m5, .int .i64 m6, .int .i64 m7, .int .i64 m8] MT (0, 0)) := by
    rw [← hw1, (((Q.refl (w.alloc _)).alloc _).alloc _).below.block _ (by simp)]
    exact heap_alloc_new w _
  have a1 : w1.heap[w.heap.size + 1]? = some (.cells #[.int .i64 5, .int .i64 a, .int .i64 b] 40 (0, 0)) := by
    rw [← hw1, ((Q.refl ((w.alloc _).alloc _)).alloc _).below.block _ (by simp)]
    have h := heap_alloc_new (w.alloc (.cells #[.int .i64 m0, .int .i64 m1, .int .i64 m2, .slice A0 n c, .slice B k d, .int .i64 m5, .int .i64 m6, .int .i64 m7, .int .i64 m8] MT)) (.cells #[.int .i64 5, .int .i64 a, .int .i64 b] 40)
    rwa [show (w.alloc (.cells #[.int .i64 m0, .int .i64 m1, .int .i64 m2, .slice A0 n c, .slice B k d, .int .i64 m5, .int .i64 m6, .int .i64 m7, .int .i64 m8] MT)).heap.size = w.heap.size + 1 by simp] at h
  have q1 : w1.heap[w.heap.size + 2]? = some (.cells #[.int .i64 0, .int .i64 0, .int .i64 0, .slice none 0 0, .slice none 0 0, .int .i64 0, .int .i64 0, .int .i64 0, .int .i64 0] MT (0, 0)) := by
    have h := heap_alloc_new ((w.alloc (.cells #[.int .i64 m0, .int .i64 m1, .int .i64 m2, .slice A0 n c, .slice B k d, .int .i64 m5, .int .i64 m6, .int .i64 m7, .int .i64 m8] MT)).alloc (.cells #[.int .i64 5, .int .i64 a, .int .i64 b] 40)) (.cells #[.int .i64 0, .int .i64 0, .int .i64 0, .slice none 0 0, .slice none 0 0, .int .i64 0, .int .i64 0, .int .i64 0, .int .i64 0] MT)
    rw [show ((w.alloc (.cells #[.int .i64 m0, .int .i64 m1, .int .i64 m2, .slice A0 n c, .slice B k d, .int .i64 m5, .int .i64 m6, .int .i64 m7, .int .i64 m8] MT)).alloc (.cells #[.int .i64 5, .int .i64 a, .int .i64 b] 40)).heap.size = w.heap.size + 2 by simp, hw1] at h
    exact h
  have HW1 := hide hw1
  have HR0 := hide q0
  have HR1 := hide q1
  have HQ1 := hide hq1
  obtain ⟨k0, k1, k2, k3, k4, k5, k6, k7, k8⟩ := cells9 q0
  obtain ⟨z0, z1, z2, z3, z4, z5, z6, z7, z8⟩ := cells9 q1
  obtain ⟨y0, y1, y2, y3, y4, y5, y6, y7, y8⟩ := free9 q1
  have i0 : w1.cell? ⟨w.heap.size + 1, 0, none⟩ = some (.int .i64 5) := by rw [cell_of_row _ _ _ _ _ _ a1]; rfl
  have i1 : w1.cell? ⟨w.heap.size + 1, 1, none⟩ = some (.int .i64 a) := by rw [cell_of_row _ _ _ _ _ _ a1]; rfl
  have i2 : w1.cell? ⟨w.heap.size + 1, 2, none⟩ = some (.int .i64 b) := by rw [cell_of_row _ _ _ _ _ _ a1]; rfl
  have HCW := hide (HC.out w1 HQ1.out)
  clear hw1 hq1 q0 q1 a1 HC
  go_enter Tryz.func10, Tryz.ntmps10
  go_wp2_with fail
  rw [HW1.out]
  refine HCW.out.mono ?_
  rintro e w2 ⟨⟨A', n', c', B', k', d', ⟨r0, r1, r2, rb, ry, r5, r6, r7, r8⟩⟩, rfl, hm, hR, hfr, hq2⟩
  have hs22 := hq2.size
  have q1 := (hq2.below.block _ hs2).trans HR1.out
  obtain ⟨z0, z1, z2, z3, z4, z5, z6, z7, z8⟩ := cells9 q1
  obtain ⟨y0, y1, y2, y3, y4, y5, y6, y7, y8⟩ := free9 q1
  have HR12 := hide q1
  have HQ2 := hide (HQ1.out.trans hq2)
  have HM := hide hm
  have HRR := hide hR
  have HFR := hide hfr
  dsimp only [RV.val, RV.cells]
  have hs0' : w.heap.size < w2.heap.size := by omega
  have hs2' : w.heap.size + 2 < w2.heap.size := by omega
  clear q1 hq2 hm hR hfr
  go_wp2_with fail
  have hg0 := row9 (w := w2) (b := w.heap.size + 2) (.int .i64 r0) (.int .i64 r1) (.int .i64 r2) (.slice A' n' c') (.slice B' k' d') (.int .i64 r5) (.int .i64 r6) (.int .i64 r7) (.int .i64 r8) HR12.out
  obtain ⟨W9, hW9⟩ : ∃ W9, W9 = (((((((((w2.setCell ⟨w.heap.size + 2, 0, none⟩ (.int .i64 r0)).setCell ⟨w.heap.size + 2, 1, none⟩ (.int .i64 r1)).setCell ⟨w.heap.size + 2, 2, none⟩ (.int .i64 r2)).setCell ⟨w.heap.size + 2, 3, none⟩ (.slice A' n' c')).setCell ⟨w.heap.size + 2, 4, none⟩ (.slice B' k' d')).setCell ⟨w.heap.size + 2, 5, none⟩ (.int .i64 r5)).setCell ⟨w.heap.size + 2, 6, none⟩ (.int .i64 r6)).setCell ⟨w.heap.size + 2, 7, none⟩ (.int .i64 r7)).setCell ⟨w.heap.size + 2, 8, none⟩ (.int .i64 r8)) := ⟨_, rfl⟩
  have hg : (W9.alloc (.cells #[.int .i64 r0, .int .i64 r1, .int .i64 r2, .slice A' n' c', .slice B' k' d', .int .i64 r5, .int .i64 r6, .int .i64 r7, .int .i64 r8] MT)).heap[w.heap.size + 2]? = some (.cells #[.int .i64 r0, .int .i64 r1, .int .i64 r2, .slice A' n' c', .slice B' k' d', .int .i64 r5, .int .i64 r6, .int .i64 r7, .int .i64 r8] MT (0, 0)) := (((Q.refl W9).alloc _).below.block _ (by rw [hW9]; simp [World.setCell]; omega)).trans (by rw [hW9]; exact hg0)
  have hF : Q w (W9.alloc (.cells #[.int .i64 r0, .int .i64 r1, .int .i64 r2, .slice A' n' c', .slice B' k' d', .int .i64 r5, .int .i64 r6, .int .i64 r7, .int .i64 r8] MT)) := Q.alloc (by rw [hW9]; exact q9 (w0 := w) (w := w2) (b := w.heap.size + 2) (.int .i64 r0) (.int .i64 r1) (.int .i64 r2) (.slice A' n' c') (.slice B' k' d') (.int .i64 r5) (.int .i64 r6) (.int .i64 r7) (.int .i64 r8) HQ2.out (by omega)) _
  have hR9 : RmR (W9.alloc (.cells #[.int .i64 r0, .int .i64 r1, .int .i64 r2, .slice A' n' c', .slice B' k' d', .int .i64 r5, .int .i64 r6, .int .i64 r7, .int .i64 r8] MT)) ⟨A', n', c', B', k', d', ⟨r0, r1, r2, rb, ry, r5, r6, r7, r8⟩⟩ := (show RmR W9 ⟨A', n', c', B', k', d', ⟨r0, r1, r2, rb, ry, r5, r6, r7, r8⟩⟩ from by rw [hW9]; exact RmR.keep HRM.out HRR.out HFR.out (b := w.heap.size + 2) (by omega) hs2 (fun g _ => keep9 w2 (w.heap.size + 2) (.int .i64 r0) (.int .i64 r1) (.int .i64 r2) (.slice A' n' c') (.slice B' k' d') (.int .i64 r5) (.int .i64 r6) (.int .i64 r7) (.int .i64 r8) g) (by simp [World.setCell])).up ((Q.refl W9).alloc _)
  subst hW9
  refine bodyPost_ret (v := .tuple #[.agg #[.int .i64 r0, .int .i64 r1, .int .i64 r2, .slice A' n' c', .slice B' k' d', .int .i64 r5, .int .i64 r6, .int .i64 r7, .int .i64 r8], .int .i64 0, .int .i64 Y]) (ret_m3 (p := 4) (u := 5) (x := 6) rfl rfl (by simp) (by simp) (by simp) hg) rfl ?_
  exact ⟨⟨A', n', c', B', k', d', ⟨r0, r1, r2, rb, ry, r5, r6, r7, r8⟩⟩, rfl, HM.out, hR9, Fr.trans (Fr.refl w.heap.size _) HFR.out (by omega), hF⟩
set_option maxRecDepth 100000 in
set_option maxHeartbeats 8000000 in
theorem rAct6_any (v : RV) (a b : Int) (w : World) (H : RmR w v) (K : RmK v.m) : Calls Tryz.prog 10 #[v.val, .agg #[.int .i64 6, .int .i64 a, .int .i64 b]] w (MPost2 (ractM v.m 6 a b) w v) := by
  have hr : ractM v.m 6 a b = (v.m, loadR v.m a) := by unfold ractM; rw [if_neg (by decide), if_neg (by decide), if_neg (by decide), if_neg (by decide), if_neg (by decide), if_neg (by decide), if_pos rfl]
  rw [hr]
  have HC := hide fun (W : World) (h : Q w W) => rLoad_any v a W (H.up h) K.N
  have HRM := hide H
  obtain ⟨L, hL⟩ : ∃ L, L = loadR v.m a := ⟨_, rfl⟩
  rw [← hL] at HC ⊢
  obtain ⟨X, Y⟩ := L
  clear hL H K hr
  unfold RV.val RV.cells at HC ⊢
  obtain ⟨A0, n, c, B, k, d, ⟨m0, m1, m2, bl, ys, m5, m6, m7, m8⟩⟩ := v
  dsimp only at HC ⊢
  obtain ⟨w1, hw1⟩ : ∃ w1, ((w.alloc (.cells #[.int .i64 m0, .int .i64 m1, .int .i64 m2, .slice A0 n c, .slice B k d, .int .i64 m5, .int .i64 m6, .int .i64 m7, .int .i64 m8] MT)).alloc (.cells #[.int .i64 6, .int .i64 a, .int .i64 b] 40)).alloc (.cells #[.int .i64 0, .int .i64 0, .int .i64 0, .slice none 0 0, .slice none 0 0, .int .i64 0, .int .i64 0, .int .i64 0, .int .i64 0] MT) = w1 := ⟨_, rfl⟩
  have hq1 : Q w w1 := by rw [← hw1]; exact (((Q.refl w).alloc _).alloc _).alloc _
  have hs2 : w.heap.size + 2 < w1.heap.size := by rw [← hw1]; simp
  have hs0 : w.heap.size < w1.heap.size := by omega
  have hs1 : w.heap.size + 1 < w1.heap.size := by omega
  have q0 : w1.heap[w.heap.size]? = some (.cells #[.int .i64 m0, .int .i64 m1, .int .i64 m2, .slice A0 n c, .slice B k d, .int .i64 m5, .int .i64 m6, .int .i64 m7, .int .i64 m8] MT (0, 0)) := by
    rw [← hw1, (((Q.refl (w.alloc _)).alloc _).alloc _).below.block _ (by simp)]
    exact heap_alloc_new w _
  have a1 : w1.heap[w.heap.size + 1]? = some (.cells #[.int .i64 6, .int .i64 a, .int .i64 b] 40 (0, 0)) := by
    rw [← hw1, ((Q.refl ((w.alloc _).alloc _)).alloc _).below.block _ (by simp)]
    have h := heap_alloc_new (w.alloc (.cells #[.int .i64 m0, .int .i64 m1, .int .i64 m2, .slice A0 n c, .slice B k d, .int .i64 m5, .int .i64 m6, .int .i64 m7, .int .i64 m8] MT)) (.cells #[.int .i64 6, .int .i64 a, .int .i64 b] 40)
    rwa [show (w.alloc (.cells #[.int .i64 m0, .int .i64 m1, .int .i64 m2, .slice A0 n c, .slice B k d, .int .i64 m5, .int .i64 m6, .int .i64 m7, .int .i64 m8] MT)).heap.size = w.heap.size + 1 by simp] at h
  have q1 : w1.heap[w.heap.size + 2]? = some (.cells #[.int .i64 0, .int .i64 0, .int .i64 0, .slice none 0 0, .slice none 0 0, .int .i64 0, .int .i64 0, .int .i64 0, .int .i64 0] MT (0, 0)) := by
    have h := heap_alloc_new ((w.alloc (.cells #[.int .i64 m0, .int .i64 m1, .int .i64 m2, .slice A0 n c, .slice B k d, .int .i64 m5, .int .i64 m6, .int .i64 m7, .int .i64 m8] MT)).alloc (.cells #[.int .i64 6, .int .i64 a, .int .i64 b] 40)) (.cells #[.int .i64 0, .int .i64 0, .int .i64 0, .slice none 0 0, .slice none 0 0, .int .i64 0, .int .i64 0, .int .i64 0, .int .i64 0] MT)
    rw [show ((w.alloc (.cells #[.int .i64 m0, .int .i64 m1, .int .i64 m2, .slice A0 n c, .slice B k d, .int .i64 m5, .int .i64 m6, .int .i64 m7, .int .i64 m8] MT)).alloc (.cells #[.int .i64 6, .int .i64 a, .int .i64 b] 40)).heap.size = w.heap.size + 2 by simp, hw1] at h
    exact h
  have HW1 := hide hw1
  have HR0 := hide q0
  have HR1 := hide q1
  have HQ1 := hide hq1
  obtain ⟨k0, k1, k2, k3, k4, k5, k6, k7, k8⟩ := cells9 q0
  obtain ⟨z0, z1, z2, z3, z4, z5, z6, z7, z8⟩ := cells9 q1
  obtain ⟨y0, y1, y2, y3, y4, y5, y6, y7, y8⟩ := free9 q1
  have i0 : w1.cell? ⟨w.heap.size + 1, 0, none⟩ = some (.int .i64 6) := by rw [cell_of_row _ _ _ _ _ _ a1]; rfl
  have i1 : w1.cell? ⟨w.heap.size + 1, 1, none⟩ = some (.int .i64 a) := by rw [cell_of_row _ _ _ _ _ _ a1]; rfl
  have HCW := hide (HC.out w1 HQ1.out)
  clear hw1 hq1 q0 q1 a1 HC
  go_enter Tryz.func10, Tryz.ntmps10
  go_wp2_with fail
  rw [HW1.out]
  refine HCW.out.mono ?_
  rintro e w2 ⟨rfl, hq2⟩
  have hs22 := hq2.size
  have q0 := (hq2.below.block _ hs0).trans HR0.out
  have q1 := (hq2.below.block _ hs2).trans HR1.out
  obtain ⟨k0, k1, k2, k3, k4, k5, k6, k7, k8⟩ := cells9 q0
  obtain ⟨z0, z1, z2, z3, z4, z5, z6, z7, z8⟩ := cells9 q1
  obtain ⟨y0, y1, y2, y3, y4, y5, y6, y7, y8⟩ := free9 q1
  have HR12 := hide q1
  have HQ2 := hide (HQ1.out.trans hq2)
  clear q0 q1 hq2
  go_wp2_with fail
  have hg := row9 (w := w2) (b := w.heap.size + 2) (.int .i64 m0) (.int .i64 m1) (.int .i64 m2) (.slice A0 n c) (.slice B k d) (.int .i64 m5) (.int .i64 m6) (.int .i64 m7) (.int .i64 m8) HR12.out
  have hF := q9 (w0 := w) (w := w2) (b := w.heap.size + 2) (.int .i64 m0) (.int .i64 m1) (.int .i64 m2) (.slice A0 n c) (.slice B k d) (.int .i64 m5) (.int .i64 m6) (.int .i64 m7) (.int .i64 m8) (HQ2.out) (by omega)
  refine bodyPost_ret (v := .tuple #[.agg #[.int .i64 m0, .int .i64 m1, .int .i64 m2, .slice A0 n c, .slice B k d, .int .i64 m5, .int .i64 m6, .int .i64 m7, .int .i64 m8], .int .i64 X, .int .i64 Y]) (ret_m3 (p := 4) (u := 5) (x := 6) rfl rfl (by simp) (by simp) (by simp) hg) rfl ?_
  exact ⟨⟨A0, n, c, B, k, d, ⟨m0, m1, m2, bl, ys, m5, m6, m7, m8⟩⟩, rfl, rfl, HRM.out.up hF, Fr.refl _ _, hF⟩
set_option maxRecDepth 100000 in
set_option maxHeartbeats 8000000 in
theorem rAct7_any (v : RV) (op a b : Int) (w : World) (H : RmR w v) (h0 : ¬op = 0) (h1 : ¬op = 1) (h2 : ¬op = 2) (h3 : ¬op = 3) (h4 : ¬op = 4) (h5 : ¬op = 5) (h6 : ¬op = 6) : Calls Tryz.prog 10 #[v.val, .agg #[.int .i64 op, .int .i64 a, .int .i64 b]] w (MPost2 (ractM v.m op a b) w v) := by
  have hr : ractM v.m op a b = (v.m, 0, 0) := by unfold ractM; rw [if_neg h0, if_neg h1, if_neg h2, if_neg h3, if_neg h4, if_neg h5, if_neg h6]
  rw [hr]
  have HRM := hide H
  have e0 : (op == 0) = false := by simpa using h0
  have e1 : (op == 1) = false := by simpa using h1
  have e2 : (op == 2) = false := by simpa using h2
  have e3 : (op == 3) = false := by simpa using h3
  have e4 : (op == 4) = false := by simpa using h4
  have e5 : (op == 5) = false := by simpa using h5
  have e6 : (op == 6) = false := by simpa using h6
  clear H hr h0 h1 h2 h3 h4 h5 h6
  unfold RV.val RV.cells
  obtain ⟨A0, n, c, B, k, d, ⟨m0, m1, m2, bl, ys, m5, m6, m7, m8⟩⟩ := v
  dsimp only
  obtain ⟨w1, hw1⟩ : ∃ w1, ((w.alloc (.cells #[.int .i64 m0, .int .i64 m1, .int .i64 m2, .slice A0 n c, .slice B k d, .int .i64 m5, .int .i64 m6, .int .i64 m7, .int .i64 m8] MT)).alloc (.cells #[.int .i64 op, .int .i64 a, .int .i64 b] 40)).alloc (.cells #[.int .i64 0, .int .i64 0, .int .i64 0, .slice none 0 0, .slice none 0 0, .int .i64 0, .int .i64 0, .int .i64 0, .int .i64 0] MT) = w1 := ⟨_, rfl⟩
  have hq1 : Q w w1 := by rw [← hw1]; exact (((Q.refl w).alloc _).alloc _).alloc _
  have hs2 : w.heap.size + 2 < w1.heap.size := by rw [← hw1]; simp
  have hs0 : w.heap.size < w1.heap.size := by omega
  have hs1 : w.heap.size + 1 < w1.heap.size := by omega
  have q0 : w1.heap[w.heap.size]? = some (.cells #[.int .i64 m0, .int .i64 m1, .int .i64 m2, .slice A0 n c, .slice B k d, .int .i64 m5, .int .i64 m6, .int .i64 m7, .int .i64 m8] MT (0, 0)) := by
    rw [← hw1, (((Q.refl (w.alloc _)).alloc _).alloc _).below.block _ (by simp)]
    exact heap_alloc_new w _
  have a1 : w1.heap[w.heap.size + 1]? = some (.cells #[.int .i64 op, .int .i64 a, .int .i64 b] 40 (0, 0)) := by
    rw [← hw1, ((Q.refl ((w.alloc _).alloc _)).alloc _).below.block _ (by simp)]
    have h := heap_alloc_new (w.alloc (.cells #[.int .i64 m0, .int .i64 m1, .int .i64 m2, .slice A0 n c, .slice B k d, .int .i64 m5, .int .i64 m6, .int .i64 m7, .int .i64 m8] MT)) (.cells #[.int .i64 op, .int .i64 a, .int .i64 b] 40)
    rwa [show (w.alloc (.cells #[.int .i64 m0, .int .i64 m1, .int .i64 m2, .slice A0 n c, .slice B k d, .int .i64 m5, .int .i64 m6, .int .i64 m7, .int .i64 m8] MT)).heap.size = w.heap.size + 1 by simp] at h
  have q1 : w1.heap[w.heap.size + 2]? = some (.cells #[.int .i64 0, .int .i64 0, .int .i64 0, .slice none 0 0, .slice none 0 0, .int .i64 0, .int .i64 0, .int .i64 0, .int .i64 0] MT (0, 0)) := by
    have h := heap_alloc_new ((w.alloc (.cells #[.int .i64 m0, .int .i64 m1, .int .i64 m2, .slice A0 n c, .slice B k d, .int .i64 m5, .int .i64 m6, .int .i64 m7, .int .i64 m8] MT)).alloc (.cells #[.int .i64 op, .int .i64 a, .int .i64 b] 40)) (.cells #[.int .i64 0, .int .i64 0, .int .i64 0, .slice none 0 0, .slice none 0 0, .int .i64 0, .int .i64 0, .int .i64 0, .int .i64 0] MT)
    rw [show ((w.alloc (.cells #[.int .i64 m0, .int .i64 m1, .int .i64 m2, .slice A0 n c, .slice B k d, .int .i64 m5, .int .i64 m6, .int .i64 m7, .int .i64 m8] MT)).alloc (.cells #[.int .i64 op, .int .i64 a, .int .i64 b] 40)).heap.size = w.heap.size + 2 by simp, hw1] at h
    exact h
  have HW1 := hide hw1
  have HR0 := hide q0
  have HR1 := hide q1
  have HQ1 := hide hq1
  obtain ⟨k0, k1, k2, k3, k4, k5, k6, k7, k8⟩ := cells9 q0
  obtain ⟨z0, z1, z2, z3, z4, z5, z6, z7, z8⟩ := cells9 q1
  obtain ⟨y0, y1, y2, y3, y4, y5, y6, y7, y8⟩ := free9 q1
  have i0 : w1.cell? ⟨w.heap.size + 1, 0, none⟩ = some (.int .i64 op) := by rw [cell_of_row _ _ _ _ _ _ a1]; rfl
  clear hw1 hq1 q0 q1 a1
  go_enter Tryz.func10, Tryz.ntmps10
  go_upto_region 1 with fail
  rw [HW1.out]
  go_wp2_with fail
  have hg := row9 (w := w1) (b := w.heap.size + 2) (.int .i64 m0) (.int .i64 m1) (.int .i64 m2) (.slice A0 n c) (.slice B k d) (.int .i64 m5) (.int .i64 m6) (.int .i64 m7) (.int .i64 m8) HR1.out
  have hF := q9 (w0 := w) (w := w1) (b := w.heap.size + 2) (.int .i64 m0) (.int .i64 m1) (.int .i64 m2) (.slice A0 n c) (.slice B k d) (.int .i64 m5) (.int .i64 m6) (.int .i64 m7) (.int .i64 m8) (HQ1.out) (by omega)
  refine bodyPost_ret (v := .tuple #[.agg #[.int .i64 m0, .int .i64 m1, .int .i64 m2, .slice A0 n c, .slice B k d, .int .i64 m5, .int .i64 m6, .int .i64 m7, .int .i64 m8], .int .i64 0, .int .i64 0]) (ret_m3 (p := 4) (u := 5) (x := 6) rfl rfl (by simp) (by simp) (by simp) hg) rfl ?_
  exact ⟨⟨A0, n, c, B, k, d, ⟨m0, m1, m2, bl, ys, m5, m6, m7, m8⟩⟩, rfl, rfl, HRM.out.up hF, Fr.refl _ _, hF⟩
theorem rAct_any (v : RV) (op a b : Int) (w : World) (H : RmR w v) (K : RmK v.m) : Calls Tryz.prog 10 #[v.val, .agg #[.int .i64 op, .int .i64 a, .int .i64 b]] w (MPost2 (ractM v.m op a b) w v) := by
  by_cases h0 : op = 0
  · subst h0
    exact rAct0_any v a b w H K
  by_cases h1 : op = 1
  · subst h1
    exact rAct1_any v a b w H K
  by_cases h2 : op = 2
  · subst h2
    exact rAct2_any v a b w H K
  by_cases h3 : op = 3
  · subst h3
    exact rAct3_any v a b w H K
  by_cases h4 : op = 4
  · subst h4
    exact rAct4_any v a b w H K
  by_cases h5 : op = 5
  · subst h5
    exact rAct5_any v a b w H K
  by_cases h6 : op = 6
  · subst h6
    exact rAct6_any v a b w H K
  exact rAct7_any v op a b w H h0 h1 h2 h3 h4 h5 h6
end Go.Proofs.YtegpkcbmgjoicaaGreat

namespace Go.Proofs.YtegpkcbmgjoicaaGreat
open Go.RowKit HP
set_option linter.unusedVariables false
def newR (kind size piece : Int) : RM := ⟨kind, size, piece, [], List.replicate size.toNat (-1), 0, 0, 0, 0⟩
def zeroV : Value := .agg #[.int .i64 0, .int .i64 0, .int .i64 0, .slice none 0 0, .slice none 0 0, .int .i64 0, .int .i64 0, .int .i64 0, .int .i64 0]
def RNewPost (ok : Bool) (kind size piece : Int) (w : World) (e : Ending) (w' : World) : Prop :=
  (ok = false ∧ e = .returned (.tuple #[zeroV, .int .i64 1]) ∧ Q w w') ∨ (ok = true ∧ ∃ v', e = .returned (.tuple #[v'.val, .int .i64 0]) ∧ v'.m = newR kind size piece ∧ RmR w' v' ∧ FrA w.heap.size none v'.A [] v'.m.bl ∧ FrA w.heap.size none v'.B [] v'.m.ys ∧ Q w w')
theorem repl_succ (i : Nat) : (List.replicate (i + 1) (-1 : Int)).flatMap encN = (List.replicate i (-1 : Int)).flatMap encN ++ [.int .i64 (-1)] := by
  rw [List.replicate_succ', List.flatMap_append]
  rfl
set_option maxRecDepth 100000 in
set_option maxHeartbeats 8000000 in
theorem rNew_bad1 (kind size piece : Int) (w : World) (h1 : (decide (0 ≤ kind) && decide (kind ≤ 3)) = false) : Calls Tryz.prog 6 #[.int .i64 kind, .int .i64 size, .int .i64 piece] w (RNewPost false kind size piece w) := by
  obtain ⟨b2, h2⟩ : ∃ b2, (decide (1 ≤ size) && decide (size ≤ 4096)) = b2 := ⟨_, rfl⟩
  obtain ⟨b3, h3⟩ : ∃ b3, (decide (1 ≤ piece) && decide (piece ≤ size)) = b3 := ⟨_, rfl⟩
  have H1 : Hid (∀ W, Calls Tryz.prog 15 #[.int .i64 kind, .int .i64 0, .int .i64 3] W fun e w' => e = .returned (.bool false) ∧ W = w') := fun W => by
    have := within_any kind 0 3 W
    rw [h1] at this
    exact this
  have H2 : Hid (∀ W, Calls Tryz.prog 15 #[.int .i64 size, .int .i64 1, .int .i64 4096] W fun e w' => e = .returned (.bool b2) ∧ W = w') := fun W => by
    have := within_any size 1 4096 W
    rw [h2] at this
    exact this
  have H3 : Hid (∀ W, Calls Tryz.prog 15 #[.int .i64 piece, .int .i64 1, .int .i64 size] W fun e w' => e = .returned (.bool b3) ∧ W = w') := fun W => by
    have := within_any piece 1 size W
    rw [h3] at this
    exact this
  clear h1 h2 h3
  go_enter Tryz.func6, Tryz.ntmps6
  go_wp2_with fail
  refine (H1.out _).mono ?_
  rintro e w2 ⟨rfl, rfl⟩
  go_wp2_with fail
  have hg := heap_alloc_new w (.cells #[.int .i64 0, .int .i64 0, .int .i64 0, .slice none 0 0, .slice none 0 0, .int .i64 0, .int .i64 0, .int .i64 0, .int .i64 0] MT)
  refine bodyPost_ret (v := .tuple #[.agg #[.int .i64 0, .int .i64 0, .int .i64 0, .slice none 0 0, .slice none 0 0, .int .i64 0, .int .i64 0, .int .i64 0, .int .i64 0], .int .i64 1]) (ret_m2 (p := 6) (u := 7) rfl rfl (by simp) (by simp) hg) rfl ?_
  exact .inl ⟨rfl, rfl, (Q.refl w).alloc _⟩
set_option maxRecDepth 100000 in
set_option maxHeartbeats 8000000 in
theorem rNew_bad2 (kind size piece : Int) (w : World) (h1 : (decide (0 ≤ kind) && decide (kind ≤ 3)) = true) (h2 : (decide (1 ≤ size) && decide (size ≤ 4096)) = false) : Calls Tryz.prog 6 #[.int .i64 kind, .int .i64 size, .int .i64 piece] w (RNewPost false kind size piece w) := by
  obtain ⟨b3, h3⟩ : ∃ b3, (decide (1 ≤ piece) && decide (piece ≤ size)) = b3 := ⟨_, rfl⟩
  have H1 : Hid (∀ W, Calls Tryz.prog 15 #[.int .i64 kind, .int .i64 0, .int .i64 3] W fun e w' => e = .returned (.bool true) ∧ W = w') := fun W => by
    have := within_any kind 0 3 W
    rw [h1] at this
    exact this
  have H2 : Hid (∀ W, Calls Tryz.prog 15 #[.int .i64 size, .int .i64 1, .int .i64 4096] W fun e w' => e = .returned (.bool false) ∧ W = w') := fun W => by
    have := within_any size 1 4096 W
    rw [h2] at this
    exact this
  have H3 : Hid (∀ W, Calls Tryz.prog 15 #[.int .i64 piece, .int .i64 1, .int .i64 size] W fun e w' => e = .returned (.bool b3) ∧ W = w') := fun W => by
    have := within_any piece 1 size W
    rw [h3] at this
    exact this
  clear h1 h2 h3
  go_enter Tryz.func6, Tryz.ntmps6
  go_wp2_with fail
  refine (H1.out _).mono ?_
  rintro e w2 ⟨rfl, rfl⟩
  go_wp2_with fail
  refine (H2.out _).mono ?_
  rintro e w3 ⟨rfl, rfl⟩
  go_wp2_with fail
  have hg := heap_alloc_new w (.cells #[.int .i64 0, .int .i64 0, .int .i64 0, .slice none 0 0, .slice none 0 0, .int .i64 0, .int .i64 0, .int .i64 0, .int .i64 0] MT)
  refine bodyPost_ret (v := .tuple #[.agg #[.int .i64 0, .int .i64 0, .int .i64 0, .slice none 0 0, .slice none 0 0, .int .i64 0, .int .i64 0, .int .i64 0, .int .i64 0], .int .i64 1]) (ret_m2 (p := 6) (u := 7) rfl rfl (by simp) (by simp) hg) rfl ?_
  exact .inl ⟨rfl, rfl, (Q.refl w).alloc _⟩
set_option maxRecDepth 100000 in
set_option maxHeartbeats 8000000 in
theorem rNew_bad3 (kind size piece : Int) (w : World) (hk : kind = 3) (h1 : (decide (0 ≤ kind) && decide (kind ≤ 3)) = true) (h2 : (decide (1 ≤ size) && decide (size ≤ 4096)) = true) (h3 : (decide (1 ≤ piece) && decide (piece ≤ size)) = false) : Calls Tryz.prog 6 #[.int .i64 kind, .int .i64 size, .int .i64 piece] w (RNewPost false kind size piece w) := by
  have H1 : Hid (∀ W, Calls Tryz.prog 15 #[.int .i64 kind, .int .i64 0, .int .i64 3] W fun e w' => e = .returned (.bool true) ∧ W = w') := fun W => by
    have := within_any kind 0 3 W
    rw [h1] at this
    exact this
  have H2 : Hid (∀ W, Calls Tryz.prog 15 #[.int .i64 size, .int .i64 1, .int .i64 4096] W fun e w' => e = .returned (.bool true) ∧ W = w') := fun W => by
    have := within_any size 1 4096 W
    rw [h2] at this
    exact this
  have H3 : Hid (∀ W, Calls Tryz.prog 15 #[.int .i64 piece, .int .i64 1, .int .i64 size] W fun e w' => e = .returned (.bool false) ∧ W = w') := fun W => by
    have := within_any piece 1 size W
    rw [h3] at this
    exact this
  subst hk
  clear h1 h2 h3
  go_enter Tryz.func6, Tryz.ntmps6
  go_wp2_with fail
  refine (H1.out _).mono ?_
  rintro e w2 ⟨rfl, rfl⟩
  go_wp2_with fail
  refine (H2.out _).mono ?_
  rintro e w3 ⟨rfl, rfl⟩
  go_wp2_with fail
  refine (H3.out _).mono ?_
  rintro e w4 ⟨rfl, rfl⟩
  go_wp2_with fail
  have hg := heap_alloc_new w (.cells #[.int .i64 0, .int .i64 0, .int .i64 0, .slice none 0 0, .slice none 0 0, .int .i64 0, .int .i64 0, .int .i64 0, .int .i64 0] MT)
  refine bodyPost_ret (v := .tuple #[.agg #[.int .i64 0, .int .i64 0, .int .i64 0, .slice none 0 0, .slice none 0 0, .int .i64 0, .int .i64 0, .int .i64 0, .int .i64 0], .int .i64 1]) (ret_m2 (p := 6) (u := 7) rfl rfl (by simp) (by simp) hg) rfl ?_
  exact .inl ⟨rfl, rfl, (Q.refl w).alloc _⟩
set_option maxRecDepth 100000 in
set_option maxHeartbeats 8000000 in
theorem rNew_bad4 (kind size piece : Int) (w : World) (hk : ¬kind = 3) (hp : ¬piece = 0) (h1 : (decide (0 ≤ kind) && decide (kind ≤ 3)) = true) (h2 : (decide (1 ≤ size) && decide (size ≤ 4096)) = true) : Calls Tryz.prog 6 #[.int .i64 kind, .int .i64 size, .int .i64 piece] w (RNewPost false kind size piece w) := by
  obtain ⟨b3, h3⟩ : ∃ b3, (decide (1 ≤ piece) && decide (piece ≤ size)) = b3 := ⟨_, rfl⟩
  have H1 : Hid (∀ W, Calls Tryz.prog 15 #[.int .i64 kind, .int .i64 0, .int .i64 3] W fun e w' => e = .returned (.bool true) ∧ W = w') := fun W => by
    have := within_any kind 0 3 W
    rw [h1] at this
    exact this
  have H2 : Hid (∀ W, Calls Tryz.prog 15 #[.int .i64 size, .int .i64 1, .int .i64 4096] W fun e w' => e = .returned (.bool true) ∧ W = w') := fun W => by
    have := within_any size 1 4096 W
    rw [h2] at this
    exact this
  have H3 : Hid (∀ W, Calls Tryz.prog 15 #[.int .i64 piece, .int .i64 1, .int .i64 size] W fun e w' => e = .returned (.bool b3) ∧ W = w') := fun W => by
    have := within_any piece 1 size W
    rw [h3] at this
    exact this
  have e1 : (kind == 3) = false := by simpa using hk
  have e2 : (kind != 3) = true := by simpa using hk
  have e3 : (piece != 0) = true := by simpa using hp
  have e4 : decide (kind = 3) = false := by simpa using hk
  have e5 : decide (piece = 0) = false := by simpa using hp
  clear h1 h2 h3
  go_enter Tryz.func6, Tryz.ntmps6
  go_wp2_with fail
  refine (H1.out _).mono ?_
  rintro e w2 ⟨rfl, rfl⟩
  go_wp2_with fail
  refine (H2.out _).mono ?_
  rintro e w3 ⟨rfl, rfl⟩
  go_wp2_with fail
  have hg := heap_alloc_new w (.cells #[.int .i64 0, .int .i64 0, .int .i64 0, .slice none 0 0, .slice none 0 0, .int .i64 0, .int .i64 0, .int .i64 0, .int .i64 0] MT)
  refine bodyPost_ret (v := .tuple #[.agg #[.int .i64 0, .int .i64 0, .int .i64 0, .slice none 0 0, .slice none 0 0, .int .i64 0, .int .i64 0, .int .i64 0, .int .i64 0], .int .i64 1]) (ret_m2 (p := 6) (u := 7) rfl rfl (by simp) (by simp) hg) rfl ?_
  exact .inl ⟨rfl, rfl, (Q.refl w).alloc _⟩
set_option maxRecDepth 100000 in
set_option maxHeartbeats 8000000 in
theorem rNew_good3 (kind size piece : Int) (w : World) (hk : kind = 3) (h1 : (decide (0 ≤ kind) && decide (kind ≤ 3)) = true) (h2 : (decide (1 ≤ size) && decide (size ≤ 4096)) = true) (h3 : (decide (1 ≤ piece) && decide (piece ≤ size)) = true) : Calls Tryz.prog 6 #[.int .i64 kind, .int .i64 size, .int .i64 piece] w (RNewPost true kind size piece w) := by
  have H1 : Hid (∀ W, Calls Tryz.prog 15 #[.int .i64 kind, .int .i64 0, .int .i64 3] W fun e w' => e = .returned (.bool true) ∧ W = w') := fun W => by
    have := within_any kind 0 3 W
    rw [h1] at this
    exact this
  have H2 : Hid (∀ W, Calls Tryz.prog 15 #[.int .i64 size, .int .i64 1, .int .i64 4096] W fun e w' => e = .returned (.bool true) ∧ W = w') := fun W => by
    have := within_any size 1 4096 W
    rw [h2] at this
    exact this
  have H3 : Hid (∀ W, Calls Tryz.prog 15 #[.int .i64 piece, .int .i64 1, .int .i64 size] W fun e w' => e = .returned (.bool true) ∧ W = w') := fun W => by
    have := within_any piece 1 size W
    rw [h3] at this
    exact this
  have hs12 : 1 ≤ size ∧ size ≤ 4096 := by simpa using h2
  subst hk
  clear h1 h2 h3
  obtain ⟨n, rfl⟩ : ∃ n : Nat, size = (n : Int) := ⟨size.toNat, by omega⟩
  obtain ⟨hs1, hs2⟩ := hs12
  have hn : n ≤ 4096 := by omega
  obtain ⟨w1, hw1⟩ : ∃ w1, (w.alloc (.cells #[.int .i64 0, .int .i64 0, .int .i64 0, .slice none 0 0, .slice none 0 0, .int .i64 0, .int .i64 0, .int .i64 0, .int .i64 0] MT)).alloc (.cells #[.int .i64 3, .int .i64 (n : Int), .int .i64 piece, .slice none 0 0, (.slice none 0 0), .int .i64 0, .int .i64 0, .int .i64 0, .int .i64 0] MT) = w1 := ⟨_, rfl⟩
  have hq1 : Q w w1 := by rw [← hw1]; exact ((Q.refl w).alloc _).alloc _
  have hb1 : w.heap.size + 1 < w1.heap.size := by rw [← hw1]; simp
  have hb0 : w.heap.size < w1.heap.size := by omega
  have q0 : w1.heap[w.heap.size]? = some (.cells #[.int .i64 0, .int .i64 0, .int .i64 0, .slice none 0 0, .slice none 0 0, .int .i64 0, .int .i64 0, .int .i64 0, .int .i64 0] MT (0, 0)) := by
    rw [← hw1, ((Q.refl (w.alloc _)).alloc _).below.block _ (by simp)]
    exact heap_alloc_new w _
  have q1 : w1.heap[w.heap.size + 1]? = some (.cells #[.int .i64 3, .int .i64 (n : Int), .int .i64 piece, .slice none 0 0, (.slice none 0 0), .int .i64 0, .int .i64 0, .int .i64 0, .int .i64 0] MT (0, 0)) := by
    have h := heap_alloc_new (w.alloc (.cells #[.int .i64 0, .int .i64 0, .int .i64 0, .slice none 0 0, .slice none 0 0, .int .i64 0, .int .i64 0, .int .i64 0, .int .i64 0] MT)) (.cells #[.int .i64 3, .int .i64 (n : Int), .int .i64 piece, .slice none 0 0, (.slice none 0 0), .int .i64 0, .int .i64 0, .int .i64 0, .int .i64 0] MT)
    rw [show (w.alloc (.cells #[.int .i64 0, .int .i64 0, .int .i64 0, .slice none 0 0, .slice none 0 0, .int .i64 0, .int .i64 0, .int .i64 0, .int .i64 0] MT)).heap.size = w.heap.size + 1 by simp, hw1] at h
    exact h
  have HR0 := hide q0
  have HR1 := hide q1
  have HQ1 := hide hq1
  have HW1 := hide hw1
  clear hw1 q0 q1 hq1
  go_enter Tryz.func6, Tryz.ntmps6
  go_wp2_with fail
  refine (H1.out _).mono ?_
  rintro e w2 ⟨rfl, rfl⟩
  go_wp2_with fail
  refine (H2.out _).mono ?_
  rintro e w3 ⟨rfl, rfl⟩
  go_wp2_with fail
  refine (H3.out _).mono ?_
  rintro e w4 ⟨rfl, rfl⟩
  go_wp2_with fail
  rw [HW1.out]
  go_loopw [9] (fun vi wr => ∃ (i : Nat) (vB : Value), i ≤ n ∧ vi = .int .i64 (i : Int) ∧ wr.ownsRow w1.heap.size 3 1 vB i ((List.replicate i (-1 : Int)).flatMap encN) ∧ wr.heap[w.heap.size + 1]? = some (.cells #[.int .i64 3, .int .i64 (n : Int), .int .i64 piece, .slice none 0 0, vB, .int .i64 0, .int .i64 0, .int .i64 0, .int .i64 0] MT (0, 0)) ∧ wr.heap[w.heap.size]? = some (.cells #[.int .i64 0, .int .i64 0, .int .i64 0, .slice none 0 0, .slice none 0 0, .int .i64 0, .int .i64 0, .int .i64 0, .int .i64 0] MT (0, 0)) ∧ Q w wr ∧ w1.heap.size ≤ wr.heap.size) (fun vi _ => n - (intOf vi).toNat)
  case atStart => exact ⟨0, .slice none 0 0, by omega, by go_num, World.ownsRow_nil _ _ _ _, HR1.out, HR0.out, HQ1.out, Nat.le_refl _⟩
  case round =>
    obtain ⟨i, vB, hi, rfl, hown, q1, q0, hqr, hsz⟩ := hrel
    obtain ⟨A', c', rfl, ho1, ho2, ho3, -⟩ := own_form hown
    have hs0 := blk_lt q0
    have hs1 := blk_lt q1
    have HQ := hide hqr
    have HR0 := hide q0
    have HR1 := hide q1
    have HOW := hide hown
    by_cases hlt : i < n
    · have hd1 : decide ((i : Int) < (n : Int)) = true := by simp; omega
      have hd0 : decide (i < n) = true := by simp; omega
      have hlti : (i : Int) < (n : Int) := by omega
      have k4 : wr.cell? ⟨w.heap.size + 1, 4, none⟩ = some (.slice A' i c') := (cell_of_row _ _ _ _ _ _ q1).trans rfl
      clear q0 q1 hqr ho3
      go_wp2_with (at_builtin; (refine wpList_app1 rfl El_int _ _ rfl rfl hown (by simp) rfl rfl ?_ ?_ ?_ ?_; (focus (simp [Value.oneCell'])); (focus omega); (focus omega); intro v5 w5 hown5 hb5; have q1 := (hb5.block _ hb1).trans HR1.out; have q0 := (hb5.block _ hb0).trans HR0.out; have HOW5 := hide hown5; obtain ⟨A5, c5, e5, -⟩ := own_form hown5; subst e5; have HR10 := hide q0; have HR11 := hide q1; have HB5 := hide hb5; have k4 : w5.cell? ⟨w.heap.size + 1, 4, none⟩ = some (.slice A' i c') := (by rw [cell_of_row _ _ _ _ _ _ q1]; rfl); have f4 : w5.frozen? ⟨w.heap.size + 1, 4, none⟩ = false := frozen_of_row _ _ _ _ _ q1; have hs5 : w5.heap.size = w5.heap.size := rfl; clear hown5 q0 q1))
      obtain ⟨W6, hW6⟩ : ∃ W6, w5.setCell ⟨w.heap.size + 1, 4, none⟩ (.slice A5 (i + 1) c5) = W6 := ⟨_, rfl⟩
      rw [hW6]
      have HO6 : Hid (W6.ownsRow w1.heap.size 3 1 (.slice A5 (i + 1) c5) (i + 1) ((List.replicate (i + 1) (-1 : Int)).flatMap encN)) := by
        rw [← hW6, repl_succ]
        exact own1 HOW5.out hb1
      have HR61 : Hid (W6.heap[w.heap.size + 1]? = some (.cells #[.int .i64 3, .int .i64 (n : Int), .int .i64 piece, .slice none 0 0, (.slice A5 (i + 1) c5), .int .i64 0, .int .i64 0, .int .i64 0, .int .i64 0] MT (0, 0))) := by
        rw [← hW6]
        exact heap_setCell_same w5 (w.heap.size + 1) 4 _ _ _ HR11.out
      have HR60 : Hid (W6.heap[w.heap.size]? = some (.cells #[.int .i64 0, .int .i64 0, .int .i64 0, .slice none 0 0, .slice none 0 0, .int .i64 0, .int .i64 0, .int .i64 0, .int .i64 0] MT (0, 0))) := by
        rw [← hW6]
        exact (heap_setCell_other _ _ _ _ (by simp)).trans HR10.out
      have HQ6 : Hid (Q w W6) := by
        rw [← hW6]
        exact (q_below HQ.out HB5.out (by omega)).set (p := ⟨w.heap.size + 1, 4, none⟩) (by show w.heap.size ≤ w.heap.size + 1; omega) _
      have hs6 : w1.heap.size ≤ W6.heap.size := by
        rw [← hW6]
        have h1 := HB5.out.size
        simp [World.setCell]
        omega
      clear hW6 HOW5 HR11 HR10 HB5
      go_wp2_with fail
      go_roundw
      case rel => exact ⟨i + 1, .slice A5 (i + 1) c5, by omega, by go_num, HO6.out, HR61.out, HR60.out, HQ6.out, hs6⟩
      case measure => simp [intOf] <;> omega
    · have hd1 : decide ((i : Int) < (n : Int)) = false := by simp; omega
      have hd0 : decide (i < n) = false := by simp; omega
      obtain rfl : i = n := by omega
      obtain ⟨k0, k1, k2, k3, k4, k5, k6, k7, k8⟩ := cells9 q1
      obtain ⟨z0, z1, z2, z3, z4, z5, z6, z7, z8⟩ := cells9 q0
      obtain ⟨y0, y1, y2, y3, y4, y5, y6, y7, y8⟩ := free9 q0
      clear q0 q1 hqr ho3 hown
      go_wp2_with fail
      have hg := row9 (w := wr) (b := w.heap.size) (.int .i64 3) (.int .i64 (i : Int)) (.int .i64 piece) (.slice none 0 0) ((.slice A' i c')) (.int .i64 0) (.int .i64 0) (.int .i64 0) (.int .i64 0) HR0.out
      have hO := own9 (w := wr) (b := w.heap.size) (.int .i64 3) (.int .i64 (i : Int)) (.int .i64 piece) (.slice none 0 0) ((.slice A' i c')) (.int .i64 0) (.int .i64 0) (.int .i64 0) (.int .i64 0) HOW.out hb0
      have hF := q9 (w0 := w) (w := wr) (b := w.heap.size) (.int .i64 3) (.int .i64 (i : Int)) (.int .i64 piece) (.slice none 0 0) ((.slice A' i c')) (.int .i64 0) (.int .i64 0) (.int .i64 0) (.int .i64 0) HQ.out (Nat.le_refl _)
      refine bodyPost_ret (v := .tuple #[.agg #[.int .i64 3, .int .i64 (i : Int), .int .i64 piece, .slice none 0 0, (.slice A' i c'), .int .i64 0, .int .i64 0, .int .i64 0, .int .i64 0], .int .i64 0]) (ret_m2 (p := 6) (u := 7) rfl rfl (by simp) (by simp) hg) rfl ?_
      have hy := Sl.own (enc := encN) hO (fun _ => rfl) (by decide)
      have hyn : A' = none → i = 0 ∧ c' = 0 := fun h => by
        rw [h] at hO
        exact own_none hO
      exact .inr ⟨rfl, ⟨none, 0, 0, A', i, c', ⟨3, i, piece, [], List.replicate i (-1), 0, 0, 0, 0⟩⟩, rfl, rfl, ⟨Sl.nil _, hy, fun _ => ⟨rfl, rfl⟩, hyn, TyA.none _ _, TyA.own hO⟩, .inl ⟨rfl, rfl⟩, fr_own (own_low hO (by omega)), hF⟩
set_option maxRecDepth 100000 in
set_option maxHeartbeats 8000000 in
theorem rNew_good (kind size piece : Int) (w : World) (hk : ¬kind = 3) (hp : piece = 0) (h1 : (decide (0 ≤ kind) && decide (kind ≤ 3)) = true) (h2 : (decide (1 ≤ size) && decide (size ≤ 4096)) = true) : Calls Tryz.prog 6 #[.int .i64 kind, .int .i64 size, .int .i64 piece] w (RNewPost true kind size piece w) := by
  obtain ⟨b3, h3⟩ : ∃ b3, (decide (1 ≤ piece) && decide (piece ≤ size)) = b3 := ⟨_, rfl⟩
  have H1 : Hid (∀ W, Calls Tryz.prog 15 #[.int .i64 kind, .int .i64 0, .int .i64 3] W fun e w' => e = .returned (.bool true) ∧ W = w') := fun W => by
    have := within_any kind 0 3 W
    rw [h1] at this
    exact this
  have H2 : Hid (∀ W, Calls Tryz.prog 15 #[.int .i64 size, .int .i64 1, .int .i64 4096] W fun e w' => e = .returned (.bool true) ∧ W = w') := fun W => by
    have := within_any size 1 4096 W
    rw [h2] at this
    exact this
  have H3 : Hid (∀ W, Calls Tryz.prog 15 #[.int .i64 piece, .int .i64 1, .int .i64 size] W fun e w' => e = .returned (.bool b3) ∧ W = w') := fun W => by
    have := within_any piece 1 size W
    rw [h3] at this
    exact this
  have hs12 : 1 ≤ size ∧ size ≤ 4096 := by simpa using h2
  subst hp
  have e1 : (kind == 3) = false := by simpa using hk
  have e2 : (kind != 3) = true := by simpa using hk
  have e4 : decide (kind = 3) = false := by simpa using hk
  clear h1 h2 h3
  obtain ⟨n, rfl⟩ : ∃ n : Nat, size = (n : Int) := ⟨size.toNat, by omega⟩
  obtain ⟨hs1, hs2⟩ := hs12
  have hn : n ≤ 4096 := by omega
  obtain ⟨w1, hw1⟩ : ∃ w1, (w.alloc (.cells #[.int .i64 0, .int .i64 0, .int .i64 0, .slice none 0 0, .slice none 0 0, .int .i64 0, .int .i64 0, .int .i64 0, .int .i64 0] MT)).alloc (.cells #[.int .i64 kind, .int .i64 (n : Int), .int .i64 0, .slice none 0 0, (.slice none 0 0), .int .i64 0, .int .i64 0, .int .i64 0, .int .i64 0] MT) = w1 := ⟨_, rfl⟩
  have hq1 : Q w w1 := by rw [← hw1]; exact ((Q.refl w).alloc _).alloc _
  have hb1 : w.heap.size + 1 < w1.heap.size := by rw [← hw1]; simp
  have hb0 : w.heap.size < w1.heap.size := by omega
  have q0 : w1.heap[w.heap.size]? = some (.cells #[.int .i64 0, .int .i64 0, .int .i64 0, .slice none 0 0, .slice none 0 0, .int .i64 0, .int .i64 0, .int .i64 0, .int .i64 0] MT (0, 0)) := by
    rw [← hw1, ((Q.refl (w.alloc _)).alloc _).below.block _ (by simp)]
    exact heap_alloc_new w _
  have q1 : w1.heap[w.heap.size + 1]? = some (.cells #[.int .i64 kind, .int .i64 (n : Int), .int .i64 0, .slice none 0 0, (.slice none 0 0), .int .i64 0, .int .i64 0, .int .i64 0, .int .i64 0] MT (0, 0)) := by
    have h := heap_alloc_new (w.alloc (.cells #[.int .i64 0, .int .i64 0, .int .i64 0, .slice none 0 0, .slice none 0 0, .int .i64 0, .int .i64 0, .int .i64 0, .int .i64 0] MT)) (.cells #[.int .i64 kind, .int .i64 (n : Int), .int .i64 0, .slice none 0 0, (.slice none 0 0), .int .i64 0, .int .i64 0, .int .i64 0, .int .i64 0] MT)
    rw [show (w.alloc (.cells #[.int .i64 0, .int .i64 0, .int .i64 0, .slice none 0 0, .slice none 0 0, .int .i64 0, .int .i64 0, .int .i64 0, .int .i64 0] MT)).heap.size = w.heap.size + 1 by simp, hw1] at h
    exact h
  have HR0 := hide q0
  have HR1 := hide q1
  have HQ1 := hide hq1
  have HW1 := hide hw1
  clear hw1 q0 q1 hq1
  go_enter Tryz.func6, Tryz.ntmps6
  go_wp2_with fail
  refine (H1.out _).mono ?_
  rintro e w2 ⟨rfl, rfl⟩
  go_wp2_with fail
  refine (H2.out _).mono ?_
  rintro e w3 ⟨rfl, rfl⟩
  go_wp2_with fail
  rw [HW1.out]
  go_loopw [9] (fun vi wr => ∃ (i : Nat) (vB : Value), i ≤ n ∧ vi = .int .i64 (i : Int) ∧ wr.ownsRow w1.heap.size 3 1 vB i ((List.replicate i (-1 : Int)).flatMap encN) ∧ wr.heap[w.heap.size + 1]? = some (.cells #[.int .i64 kind, .int .i64 (n : Int), .int .i64 0, .slice none 0 0, vB, .int .i64 0, .int .i64 0, .int .i64 0, .int .i64 0] MT (0, 0)) ∧ wr.heap[w.heap.size]? = some (.cells #[.int .i64 0, .int .i64 0, .int .i64 0, .slice none 0 0, .slice none 0 0, .int .i64 0, .int .i64 0, .int .i64 0, .int .i64 0] MT (0, 0)) ∧ Q w wr ∧ w1.heap.size ≤ wr.heap.size) (fun vi _ => n - (intOf vi).toNat)
  case atStart => exact ⟨0, .slice none 0 0, by omega, by go_num, World.ownsRow_nil _ _ _ _, HR1.out, HR0.out, HQ1.out, Nat.le_refl _⟩
  case round =>
    obtain ⟨i, vB, hi, rfl, hown, q1, q0, hqr, hsz⟩ := hrel
    obtain ⟨A', c', rfl, ho1, ho2, ho3, -⟩ := own_form hown
    have hs0 := blk_lt q0
    have hs1 := blk_lt q1
    have HQ := hide hqr
    have HR0 := hide q0
    have HR1 := hide q1
    have HOW := hide hown
    by_cases hlt : i < n
    · have hd1 : decide ((i : Int) < (n : Int)) = true := by simp; omega
      have hd0 : decide (i < n) = true := by simp; omega
      have hlti : (i : Int) < (n : Int) := by omega
      have k4 : wr.cell? ⟨w.heap.size + 1, 4, none⟩ = some (.slice A' i c') := (cell_of_row _ _ _ _ _ _ q1).trans rfl
      clear q0 q1 hqr ho3
      go_wp2_with (at_builtin; (refine wpList_app1 rfl El_int _ _ rfl rfl hown (by simp) rfl rfl ?_ ?_ ?_ ?_; (focus (simp [Value.oneCell'])); (focus omega); (focus omega); intro v5 w5 hown5 hb5; have q1 := (hb5.block _ hb1).trans HR1.out; have q0 := (hb5.block _ hb0).trans HR0.out; have HOW5 := hide hown5; obtain ⟨A5, c5, e5, -⟩ := own_form hown5; subst e5; have HR10 := hide q0; have HR11 := hide q1; have HB5 := hide hb5; have k4 : w5.cell? ⟨w.heap.size + 1, 4, none⟩ = some (.slice A' i c') := (by rw [cell_of_row _ _ _ _ _ _ q1]; rfl); have f4 : w5.frozen? ⟨w.heap.size + 1, 4, none⟩ = false := frozen_of_row _ _ _ _ _ q1; have hs5 : w5.heap.size = w5.heap.size := rfl; clear hown5 q0 q1))
      obtain ⟨W6, hW6⟩ : ∃ W6, w5.setCell ⟨w.heap.size + 1, 4, none⟩ (.slice A5 (i + 1) c5) = W6 := ⟨_, rfl⟩
      rw [hW6]
      have HO6 : Hid (W6.ownsRow w1.heap.size 3 1 (.slice A5 (i + 1) c5) (i + 1) ((List.replicate (i + 1) (-1 : Int)).flatMap encN)) := by
        rw [← hW6, repl_succ]
        exact own1 HOW5.out hb1
      have HR61 : Hid (W6.heap[w.heap.size + 1]? = some (.cells #[.int .i64 kind, .int .i64 (n : Int), .int .i64 0, .slice none 0 0, (.slice A5 (i + 1) c5), .int .i64 0, .int .i64 0, .int .i64 0, .int .i64 0] MT (0, 0))) := by
        rw [← hW6]
        exact heap_setCell_same w5 (w.heap.size + 1) 4 _ _ _ HR11.out
      have HR60 : Hid (W6.heap[w.heap.size]? = some (.cells #[.int .i64 0, .int .i64 0, .int .i64 0, .slice none 0 0, .slice none 0 0, .int .i64 0, .int .i64 0, .int .i64 0, .int .i64 0] MT (0, 0))) := by
        rw [← hW6]
        exact (heap_setCell_other _ _ _ _ (by simp)).trans HR10.out
      have HQ6 : Hid (Q w W6) := by
        rw [← hW6]
        exact (q_below HQ.out HB5.out (by omega)).set (p := ⟨w.heap.size + 1, 4, none⟩) (by show w.heap.size ≤ w.heap.size + 1; omega) _
      have hs6 : w1.heap.size ≤ W6.heap.size := by
        rw [← hW6]
        have h1 := HB5.out.size
        simp [World.setCell]
        omega
      clear hW6 HOW5 HR11 HR10 HB5
      go_wp2_with fail
      go_roundw
      case rel => exact ⟨i + 1, .slice A5 (i + 1) c5, by omega, by go_num, HO6.out, HR61.out, HR60.out, HQ6.out, hs6⟩
      case measure => simp [intOf] <;> omega
    · have hd1 : decide ((i : Int) < (n : Int)) = false := by simp; omega
      have hd0 : decide (i < n) = false := by simp; omega
      obtain rfl : i = n := by omega
      obtain ⟨k0, k1, k2, k3, k4, k5, k6, k7, k8⟩ := cells9 q1
      obtain ⟨z0, z1, z2, z3, z4, z5, z6, z7, z8⟩ := cells9 q0
      obtain ⟨y0, y1, y2, y3, y4, y5, y6, y7, y8⟩ := free9 q0
      clear q0 q1 hqr ho3 hown
      go_wp2_with fail
      have hg := row9 (w := wr) (b := w.heap.size) (.int .i64 kind) (.int .i64 (i : Int)) (.int .i64 0) (.slice none 0 0) ((.slice A' i c')) (.int .i64 0) (.int .i64 0) (.int .i64 0) (.int .i64 0) HR0.out
      have hO := own9 (w := wr) (b := w.heap.size) (.int .i64 kind) (.int .i64 (i : Int)) (.int .i64 0) (.slice none 0 0) ((.slice A' i c')) (.int .i64 0) (.int .i64 0) (.int .i64 0) (.int .i64 0) HOW.out hb0
      have hF := q9 (w0 := w) (w := wr) (b := w.heap.size) (.int .i64 kind) (.int .i64 (i : Int)) (.int .i64 0) (.slice none 0 0) ((.slice A' i c')) (.int .i64 0) (.int .i64 0) (.int .i64 0) (.int .i64 0) HQ.out (Nat.le_refl _)
      refine bodyPost_ret (v := .tuple #[.agg #[.int .i64 kind, .int .i64 (i : Int), .int .i64 0, .slice none 0 0, (.slice A' i c'), .int .i64 0, .int .i64 0, .int .i64 0, .int .i64 0], .int .i64 0]) (ret_m2 (p := 6) (u := 7) rfl rfl (by simp) (by simp) hg) rfl ?_
      have hy := Sl.own (enc := encN) hO (fun _ => rfl) (by decide)
      have hyn : A' = none → i = 0 ∧ c' = 0 := fun h => by
        rw [h] at hO
        exact own_none hO
      exact .inr ⟨rfl, ⟨none, 0, 0, A', i, c', ⟨kind, i, 0, [], List.replicate i (-1), 0, 0, 0, 0⟩⟩, rfl, rfl, ⟨Sl.nil _, hy, fun _ => ⟨rfl, rfl⟩, hyn, TyA.none _ _, TyA.own hO⟩, .inl ⟨rfl, rfl⟩, fr_own (own_low hO (by omega)), hF⟩
theorem rNew_any (kind size piece : Int) (w : World) : Calls Tryz.prog 6 #[.int .i64 kind, .int .i64 size, .int .i64 piece] w (RNewPost (shapeB kind size piece) kind size piece w) := by
  cases h1 : (decide (0 ≤ kind) && decide (kind ≤ 3))
  · have hs : shapeB kind size piece = false := by unfold shapeB; rw [h1]; simp
    rw [hs]
    exact rNew_bad1 kind size piece w h1
  cases h2 : (decide (1 ≤ size) && decide (size ≤ 4096))
  · have hs : shapeB kind size piece = false := by unfold shapeB; rw [h1, Bool.true_and, h2]; simp
    rw [hs]
    exact rNew_bad2 kind size piece w h1 h2
  have hs0 : shapeB kind size piece = (if kind = 3 then decide (1 ≤ piece) && decide (piece ≤ size) else decide (piece = 0)) := by unfold shapeB; rw [h1, Bool.true_and, h2, Bool.true_and]
  rw [hs0]
  by_cases hk : kind = 3
  · rw [if_pos hk]
    cases h3 : (decide (1 ≤ piece) && decide (piece ≤ size))
    · exact rNew_bad3 kind size piece w hk h1 h2 h3
    · exact rNew_good3 kind size piece w hk h1 h2 h3
  · rw [if_neg hk]
    by_cases hp : piece = 0
    · rw [decide_eq_true hp]
      exact rNew_good kind size piece w hk hp h1 h2
    · rw [decide_eq_false hp]
      exact rNew_bad4 kind size piece w hk hp h1 h2
end Go.Proofs.YtegpkcbmgjoicaaGreat
