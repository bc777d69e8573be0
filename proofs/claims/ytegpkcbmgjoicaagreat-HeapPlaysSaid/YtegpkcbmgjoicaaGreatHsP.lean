/- The reference's Resize, whole, and its Act. Conditions: its slices read so, its numbers are near. -/
import Derived.Test.YtegpkcbmgjoicaaGreatHsO
namespace Go.Proofs.YtegpkcbmgjoicaaGreat
open Go.RowKit HP
set_option linter.unusedVariables false
theorem rResize_any (v : RV) (at_ z : Int) (w : World) (H : RmR w v) (N : RmN v.m) (hk : 0 ≤ v.m.kind ∧ v.m.kind ≤ 3) (hpc : v.m.kind = 3 → 1 ≤ v.m.piece) (hl64 : v.m.bl.length ≤ 64) (hcl : v.m.calls < 1000000)
    (hfit : ∀ (j : Nat) (x y : Int), v.m.bl[j]? = some (x, y) → (decide (1 ≤ z) && decide (z ≤ 4096)) = true → staysR (countR v.m).1 j x y z = true → x + z ≤ v.m.size) :
    Calls Tryz.prog 25 #[v.val, .int .i64 at_, .int .i64 z] w (MPost2 (rresizeM v.m at_ z) w v) := by
  unfold rresizeM
  cases hz : (decide (1 ≤ z) && decide (z ≤ 4096))
  · rw [if_pos rfl]
    exact rResize_bad1 v at_ z w H hz
  rw [if_neg (by decide)]
  rcases idxI_cases (fun p : Int × Int => p.1 == at_) v.m.bl with e | ⟨j, ⟨x, y⟩, e, hx⟩
  · rw [if_pos (by rw [e]; decide)]
    exact rResize_bad2 v at_ z w H N hz e
  rw [if_neg (by rw [e]; omega)]
  cases hf : (countR v.m).2
  · rw [if_neg (by decide), e, Int.toNat_natCast, hx, Option.getD_some]
    unfold rsizedM
    dsimp only
    cases hst : staysR (countR v.m).1 j x y z
    · rw [if_neg (by decide)]
      have h := rResize_move v at_ z j x y w H N hz hx e hf hcl hst hk hpc hl64
      revert h
      cases roomR (countR v.m).1 z (alignOfM x)
      · exact fun h => h
      · exact fun h => h
    · rw [if_pos rfl]
      have hft := hfit j x y hx hz hst
      by_cases h1 : v.m.kind = 1
      · by_cases he : x + y = v.m.top
        · exact rResize_stay_a v at_ z j x y w H N hz hx e hf hcl hst hft h1 he
        · exact rResize_stay_c v at_ z j x y w H N hz hx e hf hcl hst hft h1 he
      · by_cases h2 : v.m.kind = 2
        · by_cases he : x + y = v.m.top
          · exact rResize_stay_b v at_ z j x y w H N hz hx e hf hcl hst hft h2 he
          · exact rResize_stay_d v at_ z j x y w H N hz hx e hf hcl hst hft h2 he
        · exact rResize_stay_e v at_ z j x y w H N hz hx e hf hcl hst hft ⟨h1, h2⟩ trivial
  · rw [if_pos rfl]
    exact rResize_bad3 v at_ z j x y w H N hz hx e hf
noncomputable def ractM (m : RM) (op a b : Int) : RM × Int × Int :=
  if op = 0 then rallocM m a b
  else if op = 1 then ((freeMR m a).1, 0, (freeMR m a).2)
  else if op = 2 then rresizeM m a b
  else if op = 3 then (if m.kind = 0 ∨ m.kind = 3 then (m, 0, 7) else ({ m with bl := [], top := 0 }, 0, 0))
  else if op = 4 then ((failR m a).1, 0, (failR m a).2)
  else if op = 5 then ((storeMR m a b).1, 0, (storeMR m a b).2)
  else if op = 6 then (m, loadR m a)
  else (m, 0, 0)
/-- what is known of a heap of the reference ahead of an act -/
structure RmK (m : RM) : Prop where
  N : RmN m
  kind : 0 ≤ m.kind ∧ m.kind ≤ 3
  piece : m.kind = 3 → 1 ≤ m.piece
  size : 0 < m.size
  len : m.bl.length ≤ 64
  calls : m.calls < 1000000
  fit : ∀ (j : Nat) (x y z : Int), m.bl[j]? = some (x, y) → (decide (1 ≤ z) && decide (z ≤ 4096)) = true → staysR (countR m).1 j x y z = true → x + z ≤ m.size
set_option maxRecDepth 100000 in
set_option maxHeartbeats 8000000 in
theorem rAct0_any (v : RV) (a b : Int) (w : World) (H : RmR w v) (K : RmK v.m) : Calls Tryz.prog 10 #[v.val, .agg #[.int .i64 0, .int .i64 a, .int .i64 b]] w (MPost2 (ractM v.m 0 a b) w v) := by
  have hr : ractM v.m 0 a b = ((rallocM v.m a b).1, (rallocM v.m a b).2.1, (rallocM v.m a b).2.2) := by unfold ractM; rw [if_pos rfl]
  rw [hr]
  clear hr
  have HC : Hid (∀ W, Q w W → Calls Tryz.prog 23 #[v.val, .int .i64 a, .int .i64 b] W fun e w' => ∃ v', e = .returned (.tuple #[v'.val, .int .i64 (rallocM v.m a b).2.1, .int .i64 (rallocM v.m a b).2.2]) ∧ v'.m = (rallocM v.m a b).1 ∧ RmR w' v' ∧ Fr W.heap.size v v' ∧ Q W w') := fun W h => by
    exact rAlloc_any v a b W (H.up h) K.N K.kind K.piece K.size K.calls
  have HRM := hide H
  obtain ⟨MM, hMM⟩ : ∃ MM, MM = (rallocM v.m a b).1 := ⟨_, rfl⟩
  obtain ⟨X, hX⟩ : ∃ X, X = ((rallocM v.m a b).2.1 : Int) := ⟨_, rfl⟩
  obtain ⟨Y, hY⟩ : ∃ Y, Y = (rallocM v.m a b).2.2 := ⟨_, rfl⟩
  rw [← hMM, ← hX, ← hY] at HC
  rw [← hMM, ← hX, ← hY]
  clear hMM hX hY H K
  unfold RV.val RV.cells at HC ⊢
  obtain ⟨A0, n, c, B, k, d, ⟨m0, m1, m2, bl, ys, m5, m6, m7, m8⟩⟩ := v
  dsimp only at HC ⊢
  obtain ⟨w1, hw1⟩ : ∃ w1, ((w.alloc (.cells #[.int .i64 m0, .int .i64 m1, .int .i64 m2, .slice A0 n c, .slice B k d, .int .i64 m5, .int .i64 m6, .int .i64 m7, .int .i64 m8] MT)).alloc (.cells #[.int .i64 0, .int .i64 a, .int .i64 b] 40)).alloc (.cells #[.int .i64 0, .int .i64 0, .int .i64 0, .slice none 0 0, .slice none 0 0, .int .i64 0, .int .i64 0, .int .i64 0, .int .i64 0] MT) = w1 := ⟨_, rfl⟩
  have hq1 : Q w w1 := by rw [← hw1]; exact (((Q.refl w).alloc _).alloc _).alloc _
  have hs2 : w.heap.size + 2 < w1.heap.size := by rw [← hw1]; simp
  have hs0 : w.heap.size < w1.heap.size := by omega
  have hs1 : w.heap.size + 1 < w1.heap.size := by omega
  have q0 : w1.heap[w.heap.size]? = some (.cells #[.int .i64 m0, .int .i64 m1, .int .i64 m2, .slice A0 n c, .slice B k d, .int .i64 m5, .int .i64 m6, .int .i64 m7, .int .i64 m8] MT (0, 0)) := by
    rw [← hw1, (((Q.refl (w.alloc _)).alloc _).alloc _).below.block _ (by simp)]
    exact heap_alloc_new w _
  have a1 : w1.heap[w.heap.size + 1]? = some (.cells #[.int .i64 0, .int .i64 a, .int .i64 b] 40 (0, 0)) := by
    rw [← hw1, ((Q.refl ((w.alloc _).alloc _)).alloc _).below.block _ (by simp)]
    have h := heap_alloc_new (w.alloc (.cells #[.int .i64 m0, .int .i64 m1, .int .i64 m2, .slice A0 n c, .slice B k d, .int .i64 m5, .int .i64 m6, .int .i64 m7, .int .i64 m8] MT)) (.cells #[.int .i64 0, .int .i64 a, .int .i64 b] 40)
    rwa [show (w.alloc (.cells #[.int .i64 m0, .int .i64 m1, .int .i64 m2, .slice A0 n c, .slice B k d, .int .i64 m5, .int .i64 m6, .int .i64 m7, .int .i64 m8] MT)).heap.size = w.heap.size + 1 by simp] at h
  have q1 : w1.heap[w.heap.size + 2]? = some (.cells #[.int .i64 0, .int .i64 0, .int .i64 0, .slice none 0 0, .slice none 0 0, .int .i64 0, .int .i64 0, .int .i64 0, .int .i64 0] MT (0, 0)) := by
    have h := heap_alloc_new ((w.alloc (.cells #[.int .i64 m0, .int .i64 m1, .int .i64 m2, .slice A0 n c, .slice B k d, .int .i64 m5, .int .i64 m6, .int .i64 m7, .int .i64 m8] MT)).alloc (.cells #[.int .i64 0, .int .i64 a, .int .i64 b] 40)) (.cells #[.int .i64 0, .int .i64 0, .int .i64 0, .slice none 0 0, .slice none 0 0, .int .i64 0, .int .i64 0, .int .i64 0, .int .i64 0] MT)
    rw [show ((w.alloc (.cells #[.int .i64 m0, .int .i64 m1, .int .i64 m2, .slice A0 n c, .slice B k d, .int .i64 m5, .int .i64 m6, .int .i64 m7, .int .i64 m8] MT)).alloc (.cells #[.int .i64 0, .int .i64 a, .int .i64 b] 40)).heap.size = w.heap.size + 2 by simp, hw1] at h
    exact h
  have HW1 := hide hw1
  have HR0 := hide q0
  have HR1 := hide q1
  have HQ1 := hide hq1
  obtain ⟨k0, k1, k2, k3, k4, k5, k6, k7, k8⟩ := cells9 q0
  obtain ⟨z0, z1, z2, z3, z4, z5, z6, z7, z8⟩ := cells9 q1
  obtain ⟨y0, y1, y2, y3, y4, y5, y6, y7, y8⟩ := free9 q1
  have i0 : w1.cell? ⟨w.heap.size + 1, 0, none⟩ = some (.int .i64 0) := by rw [cell_of_row _ _ _ _ _ _ a1]; rfl
  have i1 : w1.cell? ⟨w.heap.size + 1, 1, none⟩ = some (.int .i64 a) := by rw [cell_of_row _ _ _ _ _ _ a1]; rfl
  have i2 : w1.cell? ⟨w.heap.size + 1, 2, none⟩ = some (.int .i64 b) := by rw [cell_of_row _ _ _ _ _ _ a1]; rfl
  have HCW := hide (HC.out w1 HQ1.out)
  clear hw1 hq1 q0 q1 a1 HC
  go_enter Tryz.func10, Tryz.ntmps10
  go_wp2_with fail
  rw [HW1.out]
  refine HCW.out.mono ?_
  rintro e w2 ⟨⟨A', n', c', B', k', d', ⟨r0, r1, r2, rb, ry, r5, r6, r7, r8⟩⟩, rfl, hm, hR, hfr, hq2⟩
  have hs22 := hq2.size
  have q1 := (hq2.below.block _ hs2).trans HR1.out
  obtain ⟨z0, z1, z2, z3, z4, z5, z6, z7, z8⟩ := cells9 q1
  obtain ⟨y0, y1, y2, y3, y4, y5, y6, y7, y8⟩ := free9 q1
  have HR12 := hide q1
  have HQ2 := hide (HQ1.out.trans hq2)
  have HM := hide hm
  have HRR := hide hR
  have HFR := hide hfr
  dsimp only [RV.val, RV.cells]
  have hs0' : w.heap.size < w2.heap.size := by omega
  have hs2' : w.heap.size + 2 < w2.heap.size := by omega
  clear q1 hq2 hm hR hfr
  go_wp2_with fail
  have hg := row9 (w := w2) (b := w.heap.size + 2) (.int .i64 r0) (.int .i64 r1) (.int .i64 r2) (.slice A' n' c') (.slice B' k' d') (.int .i64 r5) (.int .i64 r6) (.int .i64 r7) (.int .i64 r8) HR12.out
  have hF := q9 (w0 := w) (w := w2) (b := w.heap.size + 2) (.int .i64 r0) (.int .i64 r1) (.int .i64 r2) (.slice A' n' c') (.slice B' k' d') (.int .i64 r5) (.int .i64 r6) (.int .i64 r7) (.int .i64 r8) (HQ2.out) (by omega)
  refine bodyPost_ret (v := .tuple #[.agg #[.int .i64 r0, .int .i64 r1, .int .i64 r2, .slice A' n' c', .slice B' k' d', .int .i64 r5, .int .i64 r6, .int .i64 r7, .int .i64 r8], .int .i64 X, .int .i64 Y]) (ret_m3 (p := 4) (u := 5) (x := 6) rfl rfl (by simp) (by simp) (by simp) hg) rfl ?_
  have hR9 := RmR.keep HRM.out HRR.out HFR.out (b := w.heap.size + 2) (by omega) hs2 (fun g _ => keep9 w2 (w.heap.size + 2) (.int .i64 r0) (.int .i64 r1) (.int .i64 r2) (.slice A' n' c') (.slice B' k' d') (.int .i64 r5) (.int .i64 r6) (.int .i64 r7) (.int .i64 r8) g) (by simp [World.setCell])
  exact ⟨⟨A', n', c', B', k', d', ⟨r0, r1, r2, rb, ry, r5, r6, r7, r8⟩⟩, rfl, HM.out, hR9, Fr.trans (Fr.refl w.heap.size _) HFR.out (by omega), hF⟩
set_option maxRecDepth 100000 in
set_option maxHeartbeats 8000000 in
theorem rAct1_any (v : RV) (a b : Int) (w : World) (H : RmR w v) (K : RmK v.m) : Calls Tryz.prog 10 #[v.val, .agg #[.int .i64 1, .int .i64 a, .int .i64 b]] w (MPost2 (ractM v.m 1 a b) w v) := by
  have hr : ractM v.m 1 a b = ((freeMR v.m a).1, 0, (freeMR v.m a).2) := by unfold ractM; rw [if_neg (by decide), if_pos rfl]
  rw [hr]
  clear hr
  have HC : Hid (∀ W, Q w W → Calls Tryz.prog 24 #[v.val, .int .i64 a] W fun e w' => ∃ v', e = .returned (.tuple #[v'.val, .int .i64 (freeMR v.m a).2]) ∧ v'.m = (freeMR v.m a).1 ∧ RmR w' v' ∧ Fr W.heap.size v v' ∧ Q W w') := fun W h => by
    exact rFree_any v a W (H.up h) K.N
  have HRM := hide H
  obtain ⟨MM, hMM⟩ : ∃ MM, MM = (freeMR v.m a).1 := ⟨_, rfl⟩
  obtain ⟨Y, hY⟩ : ∃ Y, Y = (freeMR v.m a).2 := ⟨_, rfl⟩
  rw [← hMM, ← hY] at HC
  rw [← hMM, ← hY]
  clear hMM hY H K
  unfold RV.val RV.cells at HC ⊢
  obtain ⟨A0, n, c, B, k, d, ⟨m0, m1, m2, bl, ys, m5, m6, m7, m8⟩⟩ := v
  dsimp only at HC ⊢
  obtain ⟨w1, hw1⟩ : ∃ w1, ((w.alloc (.cells #[.int .i64 m0, .int .i64 m1, .int .i64 m2, .slice A0 n c, .slice B k d, .int .i64 m5, .int .i64 m6, .int .i64 m7, .int .i64 m8] MT)).alloc (.cells #[.int .i64 1, .int .i64 a, .int .i64 b] 40)).alloc (.cells #[.int .i64 0, .int .i64 0, .int .i64 0, .slice none 0 0, .slice none 0 0, .int .i64 0, .int .i64 0, .int .i64 0, .int .i64 0] MT) = w1 := ⟨_, rfl⟩
  have hq1 : Q w w1 := by rw [← hw1]; exact (((Q.refl w).alloc _).alloc _).alloc _
  have hs2 : w.heap.size + 2 < w1.heap.size := by rw [← hw1]; simp
  have hs0 : w.heap.size < w1.heap.size := by omega
  have hs1 : w.heap.size + 1 < w1.heap.size := by omega
  have q0 : w1.heap[w.heap.size]? = some (.cells #[.int .i64 m0, .int .i64 m1, .int .i64 m2, .slice A0 n c, .slice B k d, .int .i64 m5, .int .i64 m6, .int .i64 m7, .int .i64 m8] MT (0, 0)) := by
    rw [← hw1, (((Q.refl (w.alloc _)).alloc _).alloc _).below.block _ (by simp)]
    exact heap_alloc_new w _
  have a1 : w1.heap[w.heap.size + 1]? = some (.cells #[.int .i64 1, .int .i64 a, .int .i64 b] 40 (0, 0)) := by
    rw [← hw1, ((Q.refl ((w.alloc _).alloc _)).alloc _).below.block _ (by simp)]
    have h := heap_alloc_new (w.alloc (.cells #[.int .i64 m0, .int .i64 m1, .int .i64 m2, .slice A0 n c, .slice B k d, .int .i64 m5, .int .i64 m6, .int .i64 m7, .int .i64 m8] MT)) (.cells #[.int .i64 1, .int .i64 a, .int .i64 b] 40)
    rwa [show (w.alloc (.cells #[.int .i64 m0, .int .i64 m1, .int .i64 m2, .slice A0 n c, .slice B k d, .int .i64 m5, .int .i64 m6, .int .i64 m7, .int .i64 m8] MT)).heap.size = w.heap.size + 1 by simp] at h
  have q1 : w1.heap[w.heap.size + 2]? = some (.cells #[.int .i64 0, .int .i64 0, .int .i64 0, .slice none 0 0, .slice none 0 0, .int .i64 0, .int .i64 0, .int .i64 0, .int .i64 0] MT (0, 0)) := by
    have h := heap_alloc_new ((w.alloc (.cells #[.int .i64 m0, .int .i64 m1, .int .i64 m2, .slice A0 n c, .slice B k d, .int .i64 m5, .int .i64 m6, .int .i64 m7, .int .i64 m8] MT)).alloc (.cells #[.int .i64 1, .int .i64 a, .int .i64 b] 40)) (.cells #[.int .i64 0, .int .i64 0, .int .i64 0, .slice none 0 0, .slice none 0 0, .int .i64 0, .int .i64 0, .int .i64 0, .int .i64 0] MT)
    rw [show ((w.alloc (.cells #[.int .i64 m0, .int .i64 m1, .int .i64 m2, .slice A0 n c, .slice B k d, .int .i64 m5, .int .i64 m6, .int .i64 m7, .int .i64 m8] MT)).alloc (.cells #[.int .i64 1, .int .i64 a, .int .i64 b] 40)).heap.size = w.heap.size + 2 by simp, hw1] at h
    exact h
  have HW1 := hide hw1
  have HR0 := hide q0
  have HR1 := hide q1
  have HQ1 := hide hq1
  obtain ⟨k0, k1, k2, k3, k4, k5, k6, k7, k8⟩ := cells9 q0
  obtain ⟨z0, z1, z2, z3, z4, z5, z6, z7, z8⟩ := cells9 q1
  obtain ⟨y0, y1, y2, y3, y4, y5, y6, y7, y8⟩ := free9 q1
  have i0 : w1.cell? ⟨w.heap.size + 1, 0, none⟩ = some (.int .i64 1) := by rw [cell_of_row _ _ _ _ _ _ a1]; rfl
  have i1 : w1.cell? ⟨w.heap.size + 1, 1, none⟩ = some (.int .i64 a) := by rw [cell_of_row _ _ _ _ _ _ a1]; rfl
  have i2 : w1.cell? ⟨w.heap.size + 1, 2, none⟩ = some (.int .i64 b) := by rw [cell_of_row _ _ _ _ _ _ a1]; rfl
  have HCW := hide (HC.out w1 HQ1.out)
  clear hw1 hq1 q0 q1 a1 HC
  go_enter Tryz.func10, Tryz.ntmps10
  go_wp2_with fail
  rw [HW1.out]
  refine HCW.out.mono ?_
  rintro e w2 ⟨⟨A', n', c', B', k', d', ⟨r0, r1, r2, rb, ry, r5, r6, r7, r8⟩⟩, rfl, hm, hR, hfr, hq2⟩
  have hs22 := hq2.size
  have q1 := (hq2.below.block _ hs2).trans HR1.out
  obtain ⟨z0, z1, z2, z3, z4, z5, z6, z7, z8⟩ := cells9 q1
  obtain ⟨y0, y1, y2, y3, y4, y5, y6, y7, y8⟩ := free9 q1
  have HR12 := hide q1
  have HQ2 := hide (HQ1.out.trans hq2)
  have HM := hide hm
  have HRR := hide hR
  have HFR := hide hfr
  dsimp only [RV.val, RV.cells]
  have hs0' : w.heap.size < w2.heap.size := by omega
  have hs2' : w.heap.size + 2 < w2.heap.size := by omega
  clear q1 hq2 hm hR hfr
  go_wp2_with fail
  have hg0 := row9 (w := w2) (b := w.heap.size + 2) (.int .i64 r0) (.int .i64 r1) (.int .i64 r2) (.slice A' n' c') (.slice B' k' d') (.int .i64 r5) (.int .i64 r6) (.int .i64 r7) (.int .i64 r8) HR12.out
  obtain ⟨W9, hW9⟩ : ∃ W9, W9 = (((((((((w2.setCell ⟨w.heap.size + 2, 0, none⟩ (.int .i64 r0)).setCell ⟨w.heap.size + 2, 1, none⟩ (.int .i64 r1)).setCell ⟨w.heap.size + 2, 2, none⟩ (.int .i64 r2)).setCell ⟨w.heap.size + 2, 3, none⟩ (.slice A' n' c')).setCell ⟨w.heap.size + 2, 4, none⟩ (.slice B' k' d')).setCell ⟨w.heap.size + 2, 5, none⟩ (.int .i64 r5)).setCell ⟨w.heap.size + 2, 6, none⟩ (.int .i64 r6)).setCell ⟨w.heap.size + 2, 7, none⟩ (.int .i64 r7)).setCell ⟨w.heap.size + 2, 8, none⟩ (.int .i64 r8)) := ⟨_, rfl⟩
  have hg : (W9.alloc (.cells #[.int .i64 r0, .int .i64 r1, .int .i64 r2, .slice A' n' c', .slice B' k' d', .int .i64 r5, .int .i64 r6, .int .i64 r7, .int .i64 r8] MT)).heap[w.heap.size + 2]? = some (.cells #[.int .i64 r0, .int .i64 r1, .int .i64 r2, .slice A' n' c', .slice B' k' d', .int .i64 r5, .int .i64 r6, .int .i64 r7, .int .i64 r8] MT (0, 0)) := (((Q.refl W9).alloc _).below.block _ (by rw [hW9]; simp [World.setCell]; omega)).trans (by rw [hW9]; exact hg0)
  have hF : Q w (W9.alloc (.cells #[.int .i64 r0, .int .i64 r1, .int .i64 r2, .slice A' n' c', .slice B' k' d', .int .i64 r5, .int .i64 r6, .int .i64 r7, .int .i64 r8] MT)) := Q.alloc (by rw [hW9]; exact q9 (w0 := w) (w := w2) (b := w.heap.size + 2) (.int .i64 r0) (.int .i64 r1) (.int .i64 r2) (.slice A' n' c') (.slice B' k' d') (.int .i64 r5) (.int .i64 r6) (.int .i64 r7) (.int .i64 r8) HQ2.out (by omega)) _
  have hR9 : RmR (W9.alloc (.cells #[.int .i64 r0, .int .i64 r1, .int .i64 r2, .slice A' n' c', .slice B' k' d', .int .i64 r5, .int .i64 r6, .int .i64 r7, .int .i64 r8] MT)) ⟨A', n', c', B', k', d', ⟨r0, r1, r2, rb, ry, r5, r6, r7, r8⟩⟩ := (show RmR W9 ⟨A', n', c', B', k', d', ⟨r0, r1, r2, rb, ry, r5, r6, r7, r8⟩⟩ from by rw [hW9]; exact RmR.keep HRM.out HRR.out HFR.out (b := w.heap.size + 2) (by omega) hs2 (fun g _ => keep9 w2 (w.heap.size + 2) (.int .i64 r0) (.int .i64 r1) (.int .i64 r2) (.slice A' n' c') (.slice B' k' d') (.int .i64 r5) (.int .i64 r6) (.int .i64 r7) (.int .i64 r8) g) (by simp [World.setCell])).up ((Q.refl W9).alloc _)
  subst hW9
  refine bodyPost_ret (v := .tuple #[.agg #[.int .i64 r0, .int .i64 r1, .int .i64 r2, .slice A' n' c', .slice B' k' d', .int .i64 r5, .int .i64 r6, .int .i64 r7, .int .i64 r8], .int .i64 0, .int .i64 Y]) (ret_m3 (p := 4) (u := 5) (x := 6) rfl rfl (by simp) (by simp) (by simp) hg) rfl ?_
  exact ⟨⟨A', n', c', B', k', d', ⟨r0, r1, r2, rb, ry, r5, r6, r7, r8⟩⟩, rfl, HM.out, hR9, Fr.trans (Fr.refl w.heap.size _) HFR.out (by omega), hF⟩
set_option maxRecDepth 100000 in
set_option maxHeartbeats 8000000 in
theorem rAct2_any (v : RV) (a b : Int) (w : World) (H : RmR w v) (K : RmK v.m) : Calls Tryz.prog 10 #[v.val, .agg #[.int .i64 2, .int .i64 a, .int .i64 b]] w (MPost2 (ractM v.m 2 a b) w v) := by
  have hr : ractM v.m 2 a b = ((rresizeM v.m a b).1, (rresizeM v.m a b).2.1, (rresizeM v.m a b).2.2) := by unfold ractM; rw [if_neg (by decide), if_neg (by decide), if_pos rfl]
  rw [hr]
  clear hr
  have HC : Hid (∀ W, Q w W → Calls Tryz.prog 25 #[v.val, .int .i64 a, .int .i64 b] W fun e w' => ∃ v', e = .returned (.tuple #[v'.val, .int .i64 (rresizeM v.m a b).2.1, .int .i64 (rresizeM v.m a b).2.2]) ∧ v'.m = (rresizeM v.m a b).1 ∧ RmR w' v' ∧ Fr W.heap.size v v' ∧ Q W w') := fun W h => by
    exact rResize_any v a b W (H.up h) K.N K.kind K.piece K.len K.calls (fun j x y h1 h2 h3 => K.fit j x y b h1 h2 h3)
  have HRM := hide H
  obtain ⟨MM, hMM⟩ : ∃ MM, MM = (rresizeM v.m a b).1 := ⟨_, rfl⟩
  obtain ⟨X, hX⟩ : ∃ X, X = ((rresizeM v.m a b).2.1 : Int) := ⟨_, rfl⟩
  obtain ⟨Y, hY⟩ : ∃ Y, Y = (rresizeM v.m a b).2.2 := ⟨_, rfl⟩
  rw [← hMM, ← hX, ← hY] at HC
  rw [← hMM, ← hX, ← hY]
  clear hMM hX hY H K
  unfold RV.val RV.cells at HC ⊢
  obtain ⟨A0, n, c, B, k, d, ⟨m0, m1, m2, bl, ys, m5, m6, m7, m8⟩⟩ := v
  dsimp only at HC ⊢
  obtain ⟨w1, hw1⟩ : ∃ w1, ((w.alloc (.cells #[.int .i64 m0, .int .i64 m1, .int .i64 m2, .slice A0 n c, .slice B k d, .int .i64 m5, .int .i64 m6, .int .i64 m7, .int .i64 m8] MT)).alloc (.cells #[.int .i64 2, .int .i64 a, .int .i64 b] 40)).alloc (.cells #[.int .i64 0, .int .i64 0, .int .i64 0, .slice none 0 0, .slice none 0 0, .int .i64 0, .int .i64 0, .int .i64 0, .int .i64 0] MT) = w1 := ⟨_, rfl⟩
  have hq1 : Q w w1 := by rw [← hw1]; exact (((Q.refl w).alloc _).alloc _).alloc _
  have hs2 : w.heap.size + 2 < w1.heap.size := by rw [← hw1]; simp
  have hs0 : w.heap.size < w1.heap.size := by omega
  have hs1 : w.heap.size + 1 < w1.heap.size := by omega
  have q0 : w1.heap[w.heap.size]? = some (.cells #[.int .i64 m0, .int .i64 m1, .int .i64 m2, .slice A0 n c, .slice B k d, .int .i64 m5, .int .i64 m6, .int .i64 m7, .int .i64 m8] MT (0, 0)) := by
    rw [← hw1, (((Q.refl (w.alloc _)).alloc _).alloc _).below.block _ (by simp)]
    exact heap_alloc_new w _
  have a1 : w1.heap[w.heap.size + 1]? = some (.cells #[.int .i64 2, .int .i64 a, .int .i64 b] 40 (0, 0)) := by
    rw [← hw1, ((Q.refl ((w.alloc _).alloc _)).alloc _).below.block _ (by simp)]
    have h := heap_alloc_new (w.alloc (.cells #[.int .i64 m0, .int .i64 m1, .int .i64 m2, .slice A0 n c, .slice B k d, .int .i64 m5, .int .i64 m6, .int .i64 m7, .int .i64 m8] MT)) (.cells #[.int .i64 2, .int .i64 a, .int .i64 b] 40)
    rwa [show (w.alloc (.cells #[.int .i64 m0, .int .i64 m1, .int .i64 m2, .slice A0 n c, .slice B k d, .int .i64 m5, .int .i64 m6, .int .i64 m7, .int .i64 m8] MT)).heap.size = w.heap.size + 1 by simp] at h
  have q1 : w1.heap[w.heap.size + 2]? = some (.cells #[.int .i64 0, .int .i64 0, .int .i64 0, .slice none 0 0, .slice none 0 0, .int .i64 0, .int .i64 0, .int .i64 0, .int .i64 0] MT (0, 0)) := by
    have h := heap_alloc_new ((w.alloc (.cells #[.int .i64 m0, .int .i64 m1, .int .i64 m2, .slice A0 n c, .slice B k d, .int .i64 m5, .int .i64 m6, .int .i64 m7, .int .i64 m8] MT)).alloc (.cells #[.int .i64 2, .int .i64 a, .int .i64 b] 40)) (.cells #[.int .i64 0, .int .i64 0, .int .i64 0, .slice none 0 0, .slice none 0 0, .int .i64 0, .int .i64 0, .int .i64 0, .int .i64 0] MT)
    rw [show ((w.alloc (.cells #[.int .i64 m0, .int .i64 m1, .int .i64 m2, .slice A0 n c, .slice B k d, .int .i64 m5, .int .i64 m6, .int .i64 m7, .int .i64 m8] MT)).alloc (.cells #[.int .i64 2, .int .i64 a, .int .i64 b] 40)).heap.size = w.heap.size + 2 by simp, hw1] at h
    exact h
  have HW1 := hide hw1
  have HR0 := hide q0
  have HR1 := hide q1
  have HQ1 := hide hq1
  obtain ⟨k0, k1, k2, k3, k4, k5, k6, k7, k8⟩ := cells9 q0
  obtain ⟨z0, z1, z2, z3, z4, z5, z6, z7, z8⟩ := cells9 q1
  obtain ⟨y0, y1, y2, y3, y4, y5, y6, y7, y8⟩ := free9 q1
  have i0 : w1.cell? ⟨w.heap.size + 1, 0, none⟩ = some (.int .i64 2) := by rw [cell_of_row _ _ _ _ _ _ a1]; rfl
  have i1 : w1.cell? ⟨w.heap.size + 1, 1, none⟩ = some (.int .i64 a) := by rw [cell_of_row _ _ _ _ _ _ a1]; rfl
  have i2 : w1.cell? ⟨w.heap.size + 1, 2, none⟩ = some (.int .i64 b) := by rw [cell_of_row _ _ _ _ _ _ a1]; rfl
  have HCW := hide (HC.out w1 HQ1.out)
  clear hw1 hq1 q0 q1 a1 HC
  go_enter Tryz.func10, Tryz.ntmps10
  go_wp2_with fail
  rw [HW1.out]
  refine HCW.out.mono ?_
  rintro e w2 ⟨⟨A', n', c', B', k', d', ⟨r0, r1, r2, rb, ry, r5, r6, r7, r8⟩⟩, rfl, hm, hR, hfr, hq2⟩
  have hs22 := hq2.size
  have q1 := (hq2.below.block _ hs2).trans HR1.out
  obtain ⟨z0, z1, z2, z3, z4, z5, z6, z7, z8⟩ := cells9 q1
  obtain ⟨y0, y1, y2, y3, y4, y5, y6, y7, y8⟩ := free9 q1
  have HR12 := hide q1
  have HQ2 := hide (HQ1.out.trans hq2)
  have HM := hide hm
  have HRR := hide hR
  have HFR := hide hfr
  dsimp only [RV.val, RV.cells]
  have hs0' : w.heap.size < w2.heap.size := by omega
  have hs2' : w.heap.size + 2 < w2.heap.size := by omega
  clear q1 hq2 hm hR hfr
  go_wp2_with fail
  have hg := row9 (w := w2) (b := w.heap.size + 2) (.int .i64 r0) (.int .i64 r1) (.int .i64 r2) (.slice A' n' c') (.slice B' k' d') (.int .i64 r5) (.int .i64 r6) (.int .i64 r7) (.int .i64 r8) HR12.out
  have hF := q9 (w0 := w) (w := w2) (b := w.heap.size + 2) (.int .i64 r0) (.int .i64 r1) (.int .i64 r2) (.slice A' n' c') (.slice B' k' d') (.int .i64 r5) (.int .i64 r6) (.int .i64 r7) (.int .i64 r8) (HQ2.out) (by omega)
  refine bodyPost_ret (v := .tuple #[.agg #[.int .i64 r0, .int .i64 r1, .int .i64 r2, .slice A' n' c', .slice B' k' d', .int .i64 r5, .int .i64 r6, .int .i64 r7, .int .i64 r8], .int .i64 X, .int .i64 Y]) (ret_m3 (p := 4) (u := 5) (x := 6) rfl rfl (by simp) (by simp) (by simp) hg) rfl ?_
  have hR9 := RmR.keep HRM.out HRR.out HFR.out (b := w.heap.size + 2) (by omega) hs2 (fun g _ => keep9 w2 (w.heap.size + 2) (.int .i64 r0) (.int .i64 r1) (.int .i64 r2) (.slice A' n' c') (.slice B' k' d') (.int .i64 r5) (.int .i64 r6) (.int .i64 r7) (.int .i64 r8) g) (by simp [World.setCell])
  exact ⟨⟨A', n', c', B', k', d', ⟨r0, r1, r2, rb, ry, r5, r6, r7, r8⟩⟩, rfl, HM.out, hR9, Fr.trans (Fr.refl w.heap.size _) HFR.out (by omega), hF⟩
set_option maxRecDepth 100000 in
set_option maxHeartbeats 8000000 in
theorem rAct3_any (v : RV) (a b : Int) (w : World) (H : RmR w v) (K : RmK v.m) : Calls Tryz.prog 10 #[v.val, .agg #[.int .i64 3, .int .i64 a, .int .i64 b]] w (MPost2 (ractM v.m 3 a b) w v) := by
  have hr : ractM v.m 3 a b = ((if v.m.kind = 0 ∨ v.m.kind = 3 then v.m else { v.m with bl := [], top := 0 }), 0, (if v.m.kind = 0 ∨ v.m.kind = 3 then 7 else 0 : Int)) := by unfold ractM; rw [if_neg (by decide), if_neg (by decide), if_neg (by decide), if_pos rfl]; split <;> rfl
  rw [hr]
  clear hr
  have HC : Hid (∀ W, Q w W → Calls Tryz.prog 26 #[v.val] W fun e w' => ∃ v', e = .returned (.tuple #[v'.val, .int .i64 (if v.m.kind = 0 ∨ v.m.kind = 3 then 7 else 0 : Int)]) ∧ v'.m = (if v.m.kind = 0 ∨ v.m.kind = 3 then v.m else { v.m with bl := [], top := 0 }) ∧ RmR w' v' ∧ Fr W.heap.size v v' ∧ Q W w') := fun W h => by
    refine (rReset_any v W).mono ?_
    rintro e w' ⟨rfl, hq⟩
    unfold resetR
    split
    · exact ⟨v, rfl, rfl, (H.up h).up hq, Fr.refl _ _, hq⟩
    · exact ⟨_, rfl, rfl, ⟨Sl.nil w', ((H.up h).up hq).y, fun _ => ⟨rfl, rfl⟩, H.yn, TyA.none _ _, ((H.up h).up hq).tb⟩, ⟨.inr (fun g o e => by cases e), .inl ⟨rfl, rfl⟩⟩, hq⟩
  have HRM := hide H
  obtain ⟨MM, hMM⟩ : ∃ MM, MM = (if v.m.kind = 0 ∨ v.m.kind = 3 then v.m else { v.m with bl := [], top := 0 }) := ⟨_, rfl⟩
  obtain ⟨Y, hY⟩ : ∃ Y, Y = (if v.m.kind = 0 ∨ v.m.kind = 3 then 7 else 0 : Int) := ⟨_, rfl⟩
  rw [← hMM, ← hY] at HC
  rw [← hMM, ← hY]
  clear hMM hY H K
  unfold RV.val RV.cells at HC ⊢
  obtain ⟨A0, n, c, B, k, d, ⟨m0, m1, m2, bl, ys, m5, m6, m7, m8⟩⟩ := v
  dsimp only at HC ⊢
  obtain ⟨w1, hw1⟩ : ∃ w1, ((w.alloc (.cells #[.int .i64 m0, .int .i64 m1, .int .i64 m2, .slice A0 n c, .slice B k d, .int .i64 m5, .int .i64 m6, .int .i64 m7, .int .i64 m8] MT)).alloc (.cells #[.int .i64 3, .int .i64 a, .int .i64 b] 40)).alloc (.cells #[.int .i64 0, .int .i64 0, .int .i64 0, .slice none 0 0, .slice none 0 0, .int .i64 0, .int .i64 0, .int .i64 0, .int .i64 0] MT) = w1 := ⟨_, rfl⟩
  have hq1 : Q w w1 := by rw [← hw1]; exact (((Q.refl w).alloc _).alloc _).alloc _
  have hs2 : w.heap.size + 2 < w1.heap.size := by rw [← hw1]; simp
  have hs0 : w.heap.size < w1.heap.size := by omega
  have hs1 : w.heap.size + 1 < w1.heap.size := by omega
  have q0 : w1.heap[w.heap.size]? = some (.cells #[.int .i64 m0, .int .i64 m1, .int .i64 m2, .slice A0 n c, .slice B k d, .int .i64 m5, .int .i64 m6, .int .i64 m7, .int .i64 m8] MT (0, 0)) := by
    rw [← hw1, (((Q.refl (w.alloc _)).alloc _).alloc _).below.block _ (by simp)]
    exact heap_alloc_new w _
  have a1 : w1.heap[w.heap.size + 1]? = some (.cells #[.int .i64 3, .int .i64 a, .int .i64 b] 40 (0, 0)) := by
    rw [← hw1, ((Q.refl ((w.alloc _).alloc _)).alloc _).below.block _ (by simp)]
    have h := heap_alloc_new (w.alloc (.cells #[.int .i64 m0, .int .i64 m1, .int .i64 m2, .slice A0 n c, .slice B k d, .int .i64 m5, .int .i64 m6, .int .i64 m7, .int .i64 m8] MT)) (.cells #[.int .i64 3, .int .i64 a, .int .i64 b] 40)
    rwa [show (w.alloc (.cells #[.int .i64 m0, .int .i64 m1, .int .i64 m2, .slice A0 n c, .slice B k d, .int .i64 m5, .int .i64 m6, .int .i64 m7, .int .i64 m8] MT)).heap.size = w.heap.size + 1 by simp] at h
  have q1 : w1.heap[w.heap.size + 2]? = some (.cells #[.int .i64 0, .int .i64 0, .int .i64 0, .slice none 0 0, .slice none 0 0, .int .i64 0, .int .i64 0, .int .i64 0, .int .i64 0] MT (0, 0)) := by
    have h := heap_alloc_new ((w.alloc (.cells #[.int .i64 m0, .int .i64 m1, .int .i64 m2, .slice A0 n c, .slice B k d, .int .i64 m5, .int .i64 m6, .int .i64 m7, .int .i64 m8] MT)).alloc (.cells #[.int .i64 3, .int .i64 a, .int .i64 b] 40)) (.cells #[.int .i64 0, .int .i64 0, .int .i64 0, .slice none 0 0, .slice none 0 0, .int .i64 0, .int .i64 0, .int .i64 0, .int .i64 0] MT)
    rw [show ((w.alloc (.cells #[.int .i64 m0, .int .i64 m1, .int .i64 m2, .slice A0 n c, .slice B k d, .int .i64 m5, .int .i64 m6, .int .i64 m7, .int .i64 m8] MT)).alloc (.cells #[.int .i64 3, .int .i64 a, .int .i64 b] 40)).heap.size = w.heap.size + 2 by simp, hw1] at h
    exact h
  have HW1 := hide hw1
  have HR0 := hide q0
  have HR1 := hide q1
  have HQ1 := hide hq1
  obtain ⟨k0, k1, k2, k3, k4, k5, k6, k7, k8⟩ := cells9 q0
  obtain ⟨z0, z1, z2, z3, z4, z5, z6, z7, z8⟩ := cells9 q1
  obtain ⟨y0, y1, y2, y3, y4, y5, y6, y7, y8⟩ := free9 q1
  have i0 : w1.cell? ⟨w.heap.size + 1, 0, none⟩ = some (.int .i64 3) := by rw [cell_of_row _ _ _ _ _ _ a1]; rfl
  have i1 : w1.cell? ⟨w.heap.size + 1, 1, none⟩ = some (.int .i64 a) := by rw [cell_of_row _ _ _ _ _ _ a1]; rfl
  have i2 : w1.cell? ⟨w.heap.size + 1, 2, none⟩ = some (.int .i64 b) := by rw [cell_of_row _ _ _ _ _ _ a1]; rfl
  have HCW := hide (HC.out w1 HQ1.out)
  clear hw1 hq1 q0 q1 a1 HC
  go_enter Tryz.func10, Tryz.ntmps10
  go_wp2_with fail
  rw [HW1.out]
  refine HCW.out.mono ?_
  rintro e w2 ⟨⟨A', n', c', B', k', d', ⟨r0, r1, r2, rb, ry, r5, r6, r7, r8⟩⟩, rfl, hm, hR, hfr, hq2⟩
  have hs22 := hq2.size
  have q1 := (hq2.below.block _ hs2).trans HR1.out
  obtain ⟨z0, z1, z2, z3, z4, z5, z6, z7, z8⟩ := cells9 q1
  obtain ⟨y0, y1, y2, y3, y4, y5, y6, y7, y8⟩ := free9 q1
  have HR12 := hide q1
  have HQ2 := hide (HQ1.out.trans hq2)
  have HM := hide hm
  have HRR := hide hR
  have HFR := hide hfr
  dsimp only [RV.val, RV.cells]
  have hs0' : w.heap.size < w2.heap.size := by omega
  have hs2' : w.heap.size + 2 < w2.heap.size := by omega
  clear q1 hq2 hm hR hfr
  go_wp2_with fail
  have hg0 := row9 (w := w2) (b := w.heap.size + 2) (.int .i64 r0) (.int .i64 r1) (.int .i64 r2) (.slice A' n' c') (.slice B' k' d') (.int .i64 r5) (.int .i64 r6) (.int .i64 r7) (.int .i64 r8) HR12.out
  obtain ⟨W9, hW9⟩ : ∃ W9, W9 = (((((((((w2.setCell ⟨w.heap.size + 2, 0, none⟩ (.int .i64 r0)).setCell ⟨w.heap.size + 2, 1, none⟩ (.int .i64 r1)).setCell ⟨w.heap.size + 2, 2, none⟩ (.int .i64 r2)).setCell ⟨w.heap.size + 2, 3, none⟩ (.slice A' n' c')).setCell ⟨w.heap.size + 2, 4, none⟩ (.slice B' k' d')).setCell ⟨w.heap.size + 2, 5, none⟩ (.int .i64 r5)).setCell ⟨w.heap.size + 2, 6, none⟩ (.int .i64 r6)).setCell ⟨w.heap.size + 2, 7, none⟩ (.int .i64 r7)).setCell ⟨w.heap.size + 2, 8, none⟩ (.int .i64 r8)) := ⟨_, rfl⟩
  have hg : (W9.alloc (.cells #[.int .i64 r0, .int .i64 r1, .int .i64 r2, .slice A' n' c', .slice B' k' d', .int .i64 r5, .int .i64 r6, .int .i64 r7, .int .i64 r8] MT)).heap[w.heap.size + 2]? = some (.cells #[.int .i64 r0, .int .i64 r1, .int .i64 r2, .slice A' n' c', .slice B' k' d', .int .i64 r5, .int .i64 r6, .int .i64 r7, .int .i64 r8] MT (0, 0)) := (((Q.refl W9).alloc _).below.block _ (by rw [hW9]; simp [World.setCell]; omega)).trans (by rw [hW9]; exact hg0)
  have hF : Q w (W9.alloc (.cells #[.int .i64 r0, .int .i64 r1, .int .i64 r2, .slice A' n' c', .slice B' k' d', .int .i64 r5, .int .i64 r6, .int .i64 r7, .int .i64 r8] MT)) := Q.alloc (by rw [hW9]; exact q9 (w0 := w) (w := w2) (b := w.heap.size + 2) (.int .i64 r0) (.int .i64 r1) (.int .i64 r2) (.slice A' n' c') (.slice B' k' d') (.int .i64 r5) (.int .i64 r6) (.int .i64 r7) (.int .i64 r8) HQ2.out (by omega)) _
  have hR9 : RmR (W9.alloc (.cells #[.int .i64 r0, .int .i64 r1, .int .i64 r2, .slice A' n' c', .slice B' k' d', .int .i64 r5, .int .i64 r6, .int .i64 r7, .int .i64 r8] MT)) ⟨A', n', c', B', k', d', ⟨r0, r1, r2, rb, ry, r5, r6, r7, r8⟩⟩ := (show RmR W9 ⟨A', n', c', B', k', d', ⟨r0, r1, r2, rb, ry, r5, r6, r7, r8⟩⟩ from by rw [hW9]; exact RmR.keep HRM.out HRR.out HFR.out (b := w.heap.size + 2) (by omega) hs2 (fun g _ => keep9 w2 (w.heap.size + 2) (.int .i64 r0) (.int .i64 r1) (.int .i64 r2) (.slice A' n' c') (.slice B' k' d') (.int .i64 r5) (.int .i64 r6) (.int .i64 r7) (.int .i64 r8) g) (by simp [World.setCell])).up ((Q.refl W9).alloc _)
  subst hW9
  refine bodyPost_ret (v := .tuple #[.agg #[.int .i64 r0, .int .i64 r1, .int .i64 r2, .slice A' n' c', .slice B' k' d', .int .i64 r5, .int .i64 r6, .int .i64 r7, .int .i64 r8], .int .i64 0, .int .i64 Y]) (ret_m3 (p := 4) (u := 5) (x := 6) rfl rfl (by simp) (by simp) (by simp) hg) rfl ?_
  exact ⟨⟨A', n', c', B', k', d', ⟨r0, r1, r2, rb, ry, r5, r6, r7, r8⟩⟩, rfl, HM.out, hR9, Fr.trans (Fr.refl w.heap.size _) HFR.out (by omega), hF⟩
set_option maxRecDepth 100000 in
set_option maxHeartbeats 8000000 in
theorem rAct4_any (v : RV) (a b : Int) (w : World) (H : RmR w v) (K : RmK v.m) : Calls Tryz.prog 10 #[v.val, .agg #[.int .i64 4, .int .i64 a, .int .i64 b]] w (MPost2 (ractM v.m 4 a b) w v) := by
  have hr : ractM v.m 4 a b = ((failR v.m a).1, 0, (failR v.m a).2) := by unfold ractM; rw [if_neg (by decide), if_neg (by decide), if_neg (by decide), if_neg (by decide), if_pos rfl]
  rw [hr]
  clear hr
  have HC : Hid (∀ W, Q w W → Calls Tryz.prog 27 #[v.val, .int .i64 a] W fun e w' => ∃ v', e = .returned (.tuple #[v'.val, .int .i64 (failR v.m a).2]) ∧ v'.m = (failR v.m a).1 ∧ RmR w' v' ∧ Fr W.heap.size v v' ∧ Q W w') := fun W h => by
    refine (rFailAt_any v a W).mono ?_
    rintro e w' ⟨rfl, hq⟩
    have e1 : (failR v.m a).1.bl = v.m.bl := by unfold failR; split <;> rfl
    have e2 : (failR v.m a).1.ys = v.m.ys := by unfold failR; split <;> rfl
    exact ⟨_, rfl, rfl, ((H.up h).up hq).withM e1 e2, (Fr.refl _ _).withM e1 e2, hq⟩
  have HRM := hide H
  obtain ⟨MM, hMM⟩ : ∃ MM, MM = (failR v.m a).1 := ⟨_, rfl⟩
  obtain ⟨Y, hY⟩ : ∃ Y, Y = (failR v.m a).2 := ⟨_, rfl⟩
  rw [← hMM, ← hY] at HC
  rw [← hMM, ← hY]
  clear hMM hY H K
  unfold RV.val RV.cells at HC ⊢
  obtain ⟨A0, n, c, B, k, d, ⟨m0, m1, m2, bl, ys, m5, m6, m7, m8⟩⟩ := v
  dsimp only at HC ⊢
  obtain ⟨w1, hw1⟩ : ∃ w1, ((w.alloc (.cells #[.int .i64 m0, .int .i64 m1, .int .i64 m2, .slice A0 n c, .slice B k d, .int .i64 m5, .int .i64 m6, .int .i64 m7, .int .i64 m8] MT)).alloc (.cells #[.int .i64 4, .int .i64 a, .int .i64 b] 40)).alloc (.cells #[.int .i64 0, .int .i64 0, .int .i64 0, .slice none 0 0, .slice none 0 0, .int .i64 0, .int .i64 0, .int .i64 0, .int .i64 0] MT) = w1 := ⟨_, rfl⟩
  have hq1 : Q w w1 := by rw [← hw1]; exact (((Q.refl w).alloc _).alloc _).alloc _
  have hs2 : w.heap.size + 2 < w1.heap.size := by rw [← hw1]; simp
  have hs0 : w.heap.size < w1.heap.size := by omega
  have hs1 : w.heap.size + 1 < w1.heap.size := by omega
  have q0 : w1.heap[w.heap.size]? = some (.cells #[.int .i64 m0, .int .i64 m1, .int .i64 m2, .slice A0 n c, .slice B k d, .int .i64 m5, .int .i64 m6, .int .i64 m7, .int .i64 m8] MT (0, 0)) := by
    rw [← hw1, (((Q.refl (w.alloc _)).alloc _).alloc _).below.block _ (by simp)]
    exact heap_alloc_new w _
  have a1 : w1.heap[w.heap.size + 1]? = some (.cells #[.int .i64 4, .int .i64 a, .int .i64 b] 40 (0, 0)) := by
    rw [← hw1, ((Q.refl ((w.alloc _).alloc _)).alloc _).below.block _ (by simp)]
    have h := heap_alloc_new (w.alloc (.cells #[.int .i64 m0, .int .i64 m1, .int .i64 m2, .slice A0 n c, .slice B k d, .int .i64 m5, .int .i64 m6, .int .i64 m7, .int .i64 m8] MT)) (.cells #[.int .i64 4, .int .i64 a, .int .i64 b] 40)
    rwa [show (w.alloc (.cells #[.int .i64 m0, .int .i64 m1, .int .i64 m2, .slice A0 n c, .slice B k d, .int .i64 m5, .int .i64 m6, .int .i64 m7, .int .i64 m8] MT)).heap.size = w.heap.size + 1 by simp] at h
  have q1 : w1.heap[w.heap.size + 2]? = some (.cells #[.int .i64 0, .int .i64 0, .int .i64 0, .slice none 0 0, .slice none 0 0, .int .i64 0, .int .i64 0, .int .i64 0, .int .i64 0] MT (0, 0)) := by
    have h := heap_alloc_new ((w.alloc (.cells #[.int .i64 m0, .int .i64 m1, .int .i64 m2, .slice A0 n c, .slice B k d, .int .i64 m5, .int .i64 m6, .int .i64 m7, .int .i64 m8] MT)).alloc (.cells #[.int .i64 4, .int .i64 a, .int .i64 b] 40)) (.cells #[.int .i64 0, .int .i64 0, .int .i64 0, .slice none 0 0, .slice none 0 0, .int .i64 0, .int .i64 0, .int .i64 0, .int .i64 0] MT)
    rw [show ((w.alloc (.cells #[.int .i64 m0, .int .i64 m1, .int .i64 m2, .slice A0 n c, .slice B k d, .int .i64 m5, .int .i64 m6, .int .i64 m7, .int .i64 m8] MT)).alloc (.cells #[.int .i64 4, .int .i64 a, .int .i64 b] 40)).heap.size = w.heap.size + 2 by simp, hw1] at h
    exact h
  have HW1 := hide hw1
  have HR0 := hide q0
  have HR1 := hide q1
  have HQ1 := hide hq1
  obtain ⟨k0, k1, k2, k3, k4, k5, k6, k7, k8⟩ := cells9 q0
  obtain ⟨z0, z1, z2, z3, z4, z5, z6, z7, z8⟩ := cells9 q1
  obtain ⟨y0, y1, y2, y3, y4, y5, y6, y7, y8⟩ := free9 q1
  have i0 : w1.cell? ⟨w.heap.size + 1, 0, none⟩ = some (.int .i64 4) := by rw [cell_of_row _ _ _ _ _ _ a1]; rfl
  have i1 : w1.cell? ⟨w.heap.size + 1, 1, none⟩ = some (.int .i64 a) := by rw [cell_of_row _ _ _ _ _ _ a1]; rfl
  have i2 : w1.cell? ⟨w.heap.size + 1, 2, none⟩ = some (.int .i64 b) := by rw [cell_of_row _ _ _ _ _ _ a1]; rfl
  have HCW := hide (HC.out w1 HQ1.out)
  clear hw1 hq1 q0 q1 a1 HC
  go_enter Tryz.func10, Tryz.ntmps10
  go_wp2_with fail
  rw [HW1.out]
  refine HCW.out.mono ?_
  rintro e w2 ⟨⟨A', n', c', B', k', d', ⟨r0, r1, r2, rb, ry, r5, r6, r7, r8⟩⟩, rfl, hm, hR, hfr, hq2⟩
  have hs22 := hq2.size
  have q1 := (hq2.below.block _ hs2).trans HR1.out
  obtain ⟨z0, z1, z2, z3, z4, z5, z6, z7, z8⟩ := cells9 q1
  obtain ⟨y0, y1, y2, y3, y4, y5, y6, y7, y8⟩ := free9 q1
  have HR12 := hide q1
  have HQ2 := hide (HQ1.out.trans hq2)
  have HM := hide hm
  have HRR := hide hR
  have HFR := hide hfr
  dsimp only [RV.val, RV.cells]
  have hs0' : w.heap.size < w2.heap.size := by omega
  have hs2' : w.heap.size + 2 < w2.heap.size := by omega
  clear q1 hq2 hm hR hfr
  go_wp2_with fail
  have hg0 := row9 (w := w2) (b := w.heap.size + 2) (.int .i64 r0) (.int .i64 r1) (.int .i64 r2) (.slice A' n' c') (.slice B' k' d') (.int .i64 r5) (.int .i64 r6) (.int .i64 r7) (.int .i64 r8) HR12.out
  obtain ⟨W9, hW9⟩ : ∃ W9, W9 = (((((((((w2.setCell ⟨w.heap.size + 2, 0, none⟩ (.int .i64 r0)).setCell ⟨w.heap.size + 2, 1, none⟩ (.int .i64 r1)).setCell ⟨w.heap.size + 2, 2, none⟩ (.int .i64 r2)).setCell ⟨w.heap.size + 2, 3, none⟩ (.slice A' n' c')).setCell ⟨w.heap.size + 2, 4, none⟩ (.slice B' k' d')).setCell ⟨w.heap.size + 2, 5, none⟩ (.int .i64 r5)).setCell ⟨w.heap.size + 2, 6, none⟩ (.int .i64 r6)).setCell ⟨w.heap.size + 2, 7, none⟩ (.int .i64 r7)).setCell ⟨w.heap.size + 2, 8, none⟩ (.int .i64 r8)) := ⟨_, rfl⟩
  have hg : (W9.alloc (.cells #[.int .i64 r0, .int .i64 r1, .int .i64 r2, .slice A' n' c', .slice B' k' d', .int .i64 r5, .int .i64 r6, .int .i64 r7, .int .i64 r8] MT)).heap[w.heap.size + 2]? = some (.cells #[.int .i64 r0, .int .i64 r1, .int .i64 r2, .slice A' n' c', .slice B' k' d', .int .i64 r5, .int .i64 r6, .int .i64 r7, .int .i64 r8] MT (0, 0)) := (((Q.refl W9).alloc _).below.block _ (by rw [hW9]; simp [World.setCell]; omega)).trans (by rw [hW9]; exact hg0)
  have hF : Q w (W9.alloc (.cells #[.int .i64 r0, .int .i64 r1, .int .i64 r2, .slice A' n' c', .slice B' k' d', .int .i64 r5, .int .i64 r6, .int .i64 r7, .int .i64 r8] MT)) := Q.alloc (by rw [hW9]; exact q9 (w0 := w) (w := w2) (b := w.heap.size + 2) (.int .i64 r0) (.int .i64 r1) (.int .i64 r2) (.slice A' n' c') (.slice B' k' d') (.int .i64 r5) (.int .i64 r6) (.int .i64 r7) (.int .i64 r8) HQ2.out (by omega)) _
  have hR9 : RmR (W9.alloc (.cells #[.int .i64 r0, .int .i64 r1, .int .i64 r2, .slice A' n' c', .slice B' k' d', .int .i64 r5, .int .i64 r6, .int .i64 r7, .int .i64 r8] MT)) ⟨A', n', c', B', k', d', ⟨r0, r1, r2, rb, ry, r5, r6, r7, r8⟩⟩ := (show RmR W9 ⟨A', n', c', B', k', d', ⟨r0, r1, r2, rb, ry, r5, r6, r7, r8⟩⟩ from by rw [hW9]; exact RmR.keep HRM.out HRR.out HFR.out (b := w.heap.size + 2) (by omega) hs2 (fun g _ => keep9 w2 (w.heap.size + 2) (.int .i64 r0) (.int .i64 r1) (.int .i64 r2) (.slice A' n' c') (.slice B' k' d') (.int .i64 r5) (.int .i64 r6) (.int .i64 r7) (.int .i64 r8) g) (by simp [World.setCell])).up ((Q.refl W9).alloc _)
  subst hW9
  refine bodyPost_ret (v := .tuple #[.agg #[.int .i64 r0, .int .i64 r1, .int .i64 r2, .slice A' n' c', .slice B' k' d', .int .i64 r5, .int .i64 r6, .int .i64 r7, .int .i64 r8], .int .i64 0, .int .i64 Y]) (ret_m3 (p := 4) (u := 5) (x := 6) rfl rfl (by simp) (by simp) (by simp) hg) rfl ?_
  exact ⟨⟨A', n', c', B', k', d', ⟨r0, r1, r2, rb, ry, r5, r6, r7, r8⟩⟩, rfl, HM.out, hR9, Fr.trans (Fr.refl w.heap.size _) HFR.out (by omega), hF⟩
set_option maxRecDepth 100000 in
set_option maxHeartbeats 8000000 in
theorem rAct5_any (v : RV) (a b : Int) (w : World) (H : RmR w v) (K : RmK v.m) : Calls Tryz.prog 10 #[v.val, .agg #[.int .i64 5, .int .i64 a, .int .i64 b]] w (MPost2 (ractM v.m 5 a b) w v) := by
  have hr : ractM v.m 5 a b = ((storeMR v.m a b).1, 0, (storeMR v.m a b).2) := by unfold ractM; rw [if_neg (by decide), if_neg (by decide), if_neg (by decide), if_neg (by decide), if_neg (by decide), if_pos rfl]
  rw [hr]
  clear hr
  have HC : Hid (∀ W, Q w W → Calls Tryz.prog 28 #[v.val, .int .i64 a, .int .i64 b] W fun e w' => ∃ v', e = .returned (.tuple #[v'.val, .int .i64 (storeMR v.m a b).2]) ∧ v'.m = (storeMR v.m a b).1 ∧ RmR w' v' ∧ Fr W.heap.size v v' ∧ Q W w') := fun W h => by
    exact rStore_any v a b W (H.up h) K.N
  have HRM := hide H
  obtain ⟨MM, hMM⟩ : ∃ MM, MM = (storeMR v.m a b).1 := ⟨_, rfl⟩
  obtain ⟨Y, hY⟩ : ∃ Y, Y = (storeMR v.m a b).2 := ⟨_, rfl⟩
  rw [← hMM, ← hY] at HC
  rw [← hMM, ← hY]
  clear hMM hY H K
  unfold RV.val RV.cells at HC ⊢
  obtain ⟨A0, n, c, B, k, d, ⟨m0, m1, m2, bl, ys, m5, m6, m7, m8⟩⟩ := v
  dsimp only at HC ⊢
  obtain ⟨w1, hw1⟩ : ∃ w1, ((w.alloc (.cells #[.int .i64 m0, .int .i64 m1, .int .i64 m2, .slice A0 n c, .slice B k d, .int .i64 m5, .int .i64 m6, .int .i64 m7, .int .i64 m8] MT)).alloc (.cells #[.int .i64 5, .int .i64 a, .int .i64 b] 40)).alloc (.cells #[.int .i64 0, .int .i64 0, .int .i64 0, .slice none 0 0, .slice none 0 0, .int .i64 0, .int .i64 0, .int .i64 0, .int .i64 0] MT) = w1 := ⟨_, rfl⟩
  have hq1 : Q w w1 := by rw [← hw1]; exact (((Q.refl w).alloc _).alloc _).alloc _
  have hs2 : w.heap.size + 2 < w1.heap.size := by rw [← hw1]; simp
  have hs0 : w.heap.size < w1.heap.size := by omega
  have hs1 : w.heap.size + 1 < w1.heap.size := by omega
  have q0 : w1.heap[w.heap.size]? = some (.cells #[.int .i64 m0, .int .i64 m1, .int .i64 m2, .slice A0 n c, .slice B k d, .int .i64 m5, .int .i64 m6, .int .i64 m7, .int .i64 m8] MT (0, 0)) := by
    rw [← hw1, (((Q.refl (w.alloc _)).alloc _).alloc _).below.block _ (by simp)]
    exact heap_alloc_new w _
  have a1 : w1.heap[w.heap.size + 1]? = some (.cells #[.int .i64 5, .int .i64 a, .int .i64 b] 40 (0, 0)) := by
    rw [← hw1, ((Q.refl ((w.alloc _).alloc _)).alloc _).below.block _ (by simp)]
    have h := heap_alloc_new (w.alloc (.cells #[.int .i64 m0, .int .i64 m1, .int .i64 m2, .slice A0 n c, .slice B k d, .int .i64 m5, .int .i64 m6, .int .i64 m7, .int .i64 m8] MT)) (.cells #[.int .i64 5, .int .i64 a, .int .i64 b] 40)
    rwa [show (w.alloc (.cells #[.int .i64 m0, .int .i64 m1, .int .i64 m2, .slice A0 n c, .slice B k d, .int .i64 m5, .int .i64 m6, .int .i64 m7, .int .i64 m8] MT)).heap.size = w.heap.size + 1 by simp] at h
  have q1 : w1.heap[w.heap.size + 2]? = some (.cells #[.int .i64 0, .int .i64 0, .int .i64 0, .slice none 0 0, .slice none 0 0, .int .i64 0, .int .i64 0, .int .i64 0, .int .i64 0] MT (0, 0)) := by
    have h := heap_alloc_new ((w.alloc (.cells #[.int .i64 m0, .int .i64 m1, .int .i64 m2, .slice A0 n c, .slice B k d, .int .i64 m5, .int .i64 m6, .int .i64 m7, .int .i64 m8] MT)).alloc (.cells #[.int .i64 5, .int .i64 a, .int .i64 b] 40)) (.cells #[.int .i64 0, .int .i64 0, .int .i64 0, .slice none 0 0, .slice none 0 0, .int .i64 0, .int .i64 0, .int .i64 0, .int .i64 0] MT)
    rw [show ((w.alloc (.cells #[.int .i64 m0, .int .i64 m1, .int .i64 m2, .slice A0 n c, .slice B k d, .int .i64 m5, .int .i64 m6, .int .i64 m7, .int .i64 m8] MT)).alloc (.cells #[.int .i64 5, .int .i64 a, .int .i64 b] 40)).heap.size = w.heap.size + 2 by simp, hw1] at h
    exact h
  have HW1 := hide hw1
  have HR0 := hide q0
  have HR1 := hide q1
  have HQ1 := hide hq1
  obtain ⟨k0, k1, k2, k3, k4, k5, k6, k7, k8⟩ := cells9 q0
  obtain ⟨z0, z1, z2, z3, z4, z5, z6, z7, z8⟩ := cells9 q1
  obtain ⟨y0, y1, y2, y3, y4, y5, y6, y7, y8⟩ := free9 q1
  have i0 : w1.cell? ⟨w.heap.size + 1, 0, none⟩ = some (.int .i64 5) := by rw [cell_of_row _ _ _ _ _ _ a1]; rfl
  have i1 : w1.cell? ⟨w.heap.size + 1, 1, none⟩ = some (.int .i64 a) := by rw [cell_of_row _ _ _ _ _ _ a1]; rfl
  have i2 : w1.cell? ⟨w.heap.size + 1, 2, none⟩ = some (.int .i64 b) := by rw [cell_of_row _ _ _ _ _ _ a1]; rfl
  have HCW := hide (HC.out w1 HQ1.out)
  clear hw1 hq1 q0 q1 a1 HC
  go_enter Tryz.func10, Tryz.ntmps10
  go_wp2_with fail
  rw [HW1.out]
  refine HCW.out.mono ?_
  rintro e w2 ⟨⟨A', n', c', B', k', d', ⟨r0, r1, r2, rb, ry, r5, r6, r7, r8⟩⟩, rfl, hm, hR, hfr, hq2⟩
  have hs22 := hq2.size
  have q1 := (hq2.below.block _ hs2).trans HR1.out
  obtain ⟨z0, z1, z2, z3, z4, z5, z6, z7, z8⟩ := cells9 q1
  obtain ⟨y0, y1, y2, y3, y4, y5, y6, y7, y8⟩ := free9 q1
  have HR12 := hide q1
  have HQ2 := hide (HQ1.out.trans hq2)
  have HM := hide hm
  have HRR := hide hR
  have HFR := hide hfr
  dsimp only [RV.val, RV.cells]
  have hs0' : w.heap.size < w2.heap.size := by omega
  have hs2' : w.heap.size + 2 < w2.heap.size := by omega
  clear q1 hq2 hm hR hfr
  go_wp2_with fail
  have hg0 := row9 (w := w2) (b := w.heap.size + 2) (.int .i64 r0) (.int .i64 r1) (.int .i64 r2) (.slice A' n' c') (.slice B' k' d') (.int .i64 r5) (.int .i64 r6) (.int .i64 r7) (.int .i64 r8) HR12.out
  obtain ⟨W9, hW9⟩ : ∃ W9, W9 = (((((((((w2.setCell ⟨w.heap.size + 2, 0, none⟩ (.int .i64 r0)).setCell ⟨w.heap.size + 2, 1, none⟩ (.int .i64 r1)).setCell ⟨w.heap.size + 2, 2, none⟩ (.int .i64 r2)).setCell ⟨w.heap.size + 2, 3, none⟩ (.slice A' n' c')).setCell ⟨w.heap.size + 2, 4, none⟩ (.slice B' k' d')).setCell ⟨w.heap.size + 2, 5, none⟩ (.int .i64 r5)).setCell ⟨w.heap.size + 2, 6, none⟩ (.int .i64 r6)).setCell ⟨w.heap.size + 2, 7, none⟩ (.int .i64 r7)).setCell ⟨w.heap.size + 2, 8, none⟩ (.int .i64 r8)) := ⟨_, rfl⟩
  have hg : (W9.alloc (.cells #[.int .i64 r0, .int .i64 r1, .int .i64 r2, .slice A' n' c', .slice B' k' d', .int .i64 r5, .int .i64 r6, .int .i64 r7, .int .i64 r8] MT)).heap[w.heap.size + 2]? = some (.cells #[.int .i64 r0, .int .i64 r1, .int .i64 r2, .slice A' n' c', .slice B' k' d', .int .i64 r5, .int .i64 r6, .int .i64 r7, .int .i64 r8] MT (0, 0)) := (((Q.refl W9).alloc _).below.block _ (by rw [hW9]; simp [World.setCell]; omega)).trans (by rw [hW9]; exact hg0)
  have hF : Q w (W9.alloc (.cells #[.int .i64 r0, .int .i64 r1, .int .i64 r2, .slice A' n' c', .slice B' k' d', .int .i64 r5, .int .i64 r6, .int .i64 r7, .int .i64 r8] MT)) := Q.alloc (by rw [hW9]; exact q9 (w0 := w) (w := w2) (b := w.heap.size + 2) (.int .i64 r0) (.int .i64 r1) (.int .i64 r2) (.slice A' n' c') (.slice B' k' d') (.int .i64 r5) (.int .i64 r6) (.int .i64 r7) (.int .i64 r8) HQ2.out (by omega)) _
  have hR9 : RmR (W9.alloc (.cells #[.int .i64 r0, .int .i64 r1, .int .i64 r2, .slice A' n' c', .slice B' k' d', .int .i64 r5, .int .i64 r6, .int .i64 r7, .int .i64 r8] MT)) ⟨A', n', c', B', k', d', ⟨r0, r1, r2, rb, ry, r5, r6, r7, r8⟩⟩ := (show RmR W9 ⟨A', n', c', B', k', d', ⟨r0, r1, r2, rb, ry, r5, r6, r7, r8⟩⟩ from by rw [hW9]; exact RmR.keep HRM.out HRR.out HFR.out (b := w.heap.size + 2) (by omega) hs2 (fun g _ => keep9 w2 (w.heap.size + 2) (.int .i64 r0) (.int .i64 r1) (.int .i64 r2) (.slice A' n' c') (.slice B' k' d') (.int .i64 r5) (.int .i64 r6) (.int .i64 r7) (.int .i64 r8) g) (by simp [World.setCell])).up ((Q.refl W9).alloc _)
  subst hW9
  refine bodyPost_ret (v := .tuple #[.agg #[.int .i64 r0, .int .i64 r1, .int .i64 r2, .slice A' n' c', .slice B' k' d', .int .i64 r5, .int .i64 r6, .int .i64 r7, .int .i64 r8], .int .i64 0, .int .i64 Y]) (ret_m3 (p := 4) (u := 5) (x := 6) rfl rfl (by simp) (by simp) (by simp) hg) rfl ?_
  exact ⟨⟨A', n', c', B', k', d', ⟨r0, r1, r2, rb, ry, r5, r6, r7, r8⟩⟩, rfl, HM.out, hR9, Fr.trans (Fr.refl w.heap.size _) HFR.out (by omega), hF⟩
set_option maxRecDepth 100000 in
set_option maxHeartbeats 8000000 in
theorem rAct6_any (v : RV) (a b : Int) (w : World) (H : RmR w v) (K : RmK v.m) : Calls Tryz.prog 10 #[v.val, .agg #[.int .i64 6, .int .i64 a, .int .i64 b]] w (MPost2 (ractM v.m 6 a b) w v) := by
  have hr : ractM v.m 6 a b = (v.m, loadR v.m a) := by unfold ractM; rw [if_neg (by decide), if_neg (by decide), if_neg (by decide), if_neg (by decide), if_neg (by decide), if_neg (by decide), if_pos rfl]
  rw [hr]
  have HC := hide fun (W : World) (h : Q w W) => rLoad_any v a W (H.up h) K.N
  have HRM := hide H
  obtain ⟨L, hL⟩ : ∃ L, L = loadR v.m a := ⟨_, rfl⟩
  rw [← hL] at HC ⊢
  obtain ⟨X, Y⟩ := L
  clear hL H K hr
  unfold RV.val RV.cells at HC ⊢
  obtain ⟨A0, n, c, B, k, d, ⟨m0, m1, m2, bl, ys, m5, m6, m7, m8⟩⟩ := v
  dsimp only at HC ⊢
  obtain ⟨w1, hw1⟩ : ∃ w1, ((w.alloc (.cells #[.int .i64 m0, .int .i64 m1, .int .i64 m2, .slice A0 n c, .slice B k d, .int .i64 m5, .int .i64 m6, .int .i64 m7, .int .i64 m8] MT)).alloc (.cells #[.int .i64 6, .int .i64 a, .int .i64 b] 40)).alloc (.cells #[.int .i64 0, .int .i64 0, .int .i64 0, .slice none 0 0, .slice none 0 0, .int .i64 0, .int .i64 0, .int .i64 0, .int .i64 0] MT) = w1 := ⟨_, rfl⟩
  have hq1 : Q w w1 := by rw [← hw1]; exact (((Q.refl w).alloc _).alloc _).alloc _
  have hs2 : w.heap.size + 2 < w1.heap.size := by rw [← hw1]; simp
  have hs0 : w.heap.size < w1.heap.size := by omega
  have hs1 : w.heap.size + 1 < w1.heap.size := by omega
  have q0 : w1.heap[w.heap.size]? = some (.cells #[.int .i64 m0, .int .i64 m1, .int .i64 m2, .slice A0 n c, .slice B k d, .int .i64 m5, .int .i64 m6, .int .i64 m7, .int .i64 m8] MT (0, 0)) := by
    rw [← hw1, (((Q.refl (w.alloc _)).alloc _).alloc _).below.block _ (by simp)]
    exact heap_alloc_new w _
  have a1 : w1.heap[w.heap.size + 1]? = some (.cells #[.int .i64 6, .int .i64 a, .int .i64 b] 40 (0, 0)) := by
    rw [← hw1, ((Q.refl ((w.alloc _).alloc _)).alloc _).below.block _ (by simp)]
    have h := heap_alloc_new (w.alloc (.cells #[.int .i64 m0, .int .i64 m1, .int .i64 m2, .slice A0 n c, .slice B k d, .int .i64 m5, .int .i64 m6, .int .i64 m7, .int .i64 m8] MT)) (.cells #[.int .i64 6, .int .i64 a, .int .i64 b] 40)
    rwa [show (w.alloc (.cells #[.int .i64 m0, .int .i64 m1, .int .i64 m2, .slice A0 n c, .slice B k d, .int .i64 m5, .int .i64 m6, .int .i64 m7, .int .i64 m8] MT)).heap.size = w.heap.size + 1 by simp] at h
  have q1 : w1.heap[w.heap.size + 2]? = some (.cells #[.int .i64 0, .int .i64 0, .int .i64 0, .slice none 0 0, .slice none 0 0, .int .i64 0, .int .i64 0, .int .i64 0, .int .i64 0] MT (0, 0)) := by
    have h := heap_alloc_new ((w.alloc (.cells #[.int .i64 m0, .int .i64 m1, .int .i64 m2, .slice A0 n c, .slice B k d, .int .i64 m5, .int .i64 m6, .int .i64 m7, .int .i64 m8] MT)).alloc (.cells #[.int .i64 6, .int .i64 a, .int .i64 b] 40)) (.cells #[.int .i64 0, .int .i64 0, .int .i64 0, .slice none 0 0, .slice none 0 0, .int .i64 0, .int .i64 0, .int .i64 0, .int .i64 0] MT)
    rw [show ((w.alloc (.cells #[.int .i64 m0, .int .i64 m1, .int .i64 m2, .slice A0 n c, .slice B k d, .int .i64 m5, .int .i64 m6, .int .i64 m7, .int .i64 m8] MT)).alloc (.cells #[.int .i64 6, .int .i64 a, .int .i64 b] 40)).heap.size = w.heap.size + 2 by simp, hw1] at h
    exact h
  have HW1 := hide hw1
  have HR0 := hide q0
  have HR1 := hide q1
  have HQ1 := hide hq1
  obtain ⟨k0, k1, k2, k3, k4, k5, k6, k7, k8⟩ := cells9 q0
  obtain ⟨z0, z1, z2, z3, z4, z5, z6, z7, z8⟩ := cells9 q1
  obtain ⟨y0, y1, y2, y3, y4, y5, y6, y7, y8⟩ := free9 q1
  have i0 : w1.cell? ⟨w.heap.size + 1, 0, none⟩ = some (.int .i64 6) := by rw [cell_of_row _ _ _ _ _ _ a1]; rfl
  have i1 : w1.cell? ⟨w.heap.size + 1, 1, none⟩ = some (.int .i64 a) := by rw [cell_of_row _ _ _ _ _ _ a1]; rfl
  have HCW := hide (HC.out w1 HQ1.out)
  clear hw1 hq1 q0 q1 a1 HC
  go_enter Tryz.func10, Tryz.ntmps10
  go_wp2_with fail
  rw [HW1.out]
  refine HCW.out.mono ?_
  rintro e w2 ⟨rfl, hq2⟩
  have hs22 := hq2.size
  have q0 := (hq2.below.block _ hs0).trans HR0.out
  have q1 := (hq2.below.block _ hs2).trans HR1.out
  obtain ⟨k0, k1, k2, k3, k4, k5, k6, k7, k8⟩ := cells9 q0
  obtain ⟨z0, z1, z2, z3, z4, z5, z6, z7, z8⟩ := cells9 q1
  obtain ⟨y0, y1, y2, y3, y4, y5, y6, y7, y8⟩ := free9 q1
  have HR12 := hide q1
  have HQ2 := hide (HQ1.out.trans hq2)
  clear q0 q1 hq2
  go_wp2_with fail
  have hg := row9 (w := w2) (b := w.heap.size + 2) (.int .i64 m0) (.int .i64 m1) (.int .i64 m2) (.slice A0 n c) (.slice B k d) (.int .i64 m5) (.int .i64 m6) (.int .i64 m7) (.int .i64 m8) HR12.out
  have hF := q9 (w0 := w) (w := w2) (b := w.heap.size + 2) (.int .i64 m0) (.int .i64 m1) (.int .i64 m2) (.slice A0 n c) (.slice B k d) (.int .i64 m5) (.int .i64 m6) (.int .i64 m7) (.int .i64 m8) (HQ2.out) (by omega)
  refine bodyPost_ret (v := .tuple #[.agg #[.int .i64 m0, .int .i64 m1, .int .i64 m2, .slice A0 n c, .slice B k d, .int .i64 m5, .int .i64 m6, .int .i64 m7, .int .i64 m8], .int .i64 X, .int .i64 Y]) (ret_m3 (p := 4) (u := 5) (x := 6) rfl rfl (by simp) (by simp) (by simp) hg) rfl ?_
  exact ⟨⟨A0, n, c, B, k, d, ⟨m0, m1, m2, bl, ys, m5, m6, m7, m8⟩⟩, rfl, rfl, HRM.out.up hF, Fr.refl _ _, hF⟩
set_option maxRecDepth 100000 in
set_option maxHeartbeats 8000000 in
theorem rAct7_any (v : RV) (op a b : Int) (w : World) (H : RmR w v) (h0 : ¬op = 0) (h1 : ¬op = 1) (h2 : ¬op = 2) (h3 : ¬op = 3) (h4 : ¬op = 4) (h5 : ¬op = 5) (h6 : ¬op = 6) : Calls Tryz.prog 10 #[v.val, .agg #[.int .i64 op, .int .i64 a, .int .i64 b]] w (MPost2 (ractM v.m op a b) w v) := by
  have hr : ractM v.m op a b = (v.m, 0, 0) := by unfold ractM; rw [if_neg h0, if_neg h1, if_neg h2, if_neg h3, if_neg h4, if_neg h5, if_neg h6]
  rw [hr]
  have HRM := hide H
  have e0 : (op == 0) = false := by simpa using h0
  have e1 : (op == 1) = false := by simpa using h1
  have e2 : (op == 2) = false := by simpa using h2
  have e3 : (op == 3) = false := by simpa using h3
  have e4 : (op == 4) = false := by simpa using h4
  have e5 : (op == 5) = false := by simpa using h5
  have e6 : (op == 6) = false := by simpa using h6
  clear H hr h0 h1 h2 h3 h4 h5 h6
  unfold RV.val RV.cells
  obtain ⟨A0, n, c, B, k, d, ⟨m0, m1, m2, bl, ys, m5, m6, m7, m8⟩⟩ := v
  dsimp only
  obtain ⟨w1, hw1⟩ : ∃ w1, ((w.alloc (.cells #[.int .i64 m0, .int .i64 m1, .int .i64 m2, .slice A0 n c, .slice B k d, .int .i64 m5, .int .i64 m6, .int .i64 m7, .int .i64 m8] MT)).alloc (.cells #[.int .i64 op, .int .i64 a, .int .i64 b] 40)).alloc (.cells #[.int .i64 0, .int .i64 0, .int .i64 0, .slice none 0 0, .slice none 0 0, .int .i64 0, .int .i64 0, .int .i64 0, .int .i64 0] MT) = w1 := ⟨_, rfl⟩
  have hq1 : Q w w1 := by rw [← hw1]; exact (((Q.refl w).alloc _).alloc _).alloc _
  have hs2 : w.heap.size + 2 < w1.heap.size := by rw [← hw1]; simp
  have hs0 : w.heap.size < w1.heap.size := by omega
  have hs1 : w.heap.size + 1 < w1.heap.size := by omega
  have q0 : w1.heap[w.heap.size]? = some (.cells #[.int .i64 m0, .int .i64 m1, .int .i64 m2, .slice A0 n c, .slice B k d, .int .i64 m5, .int .i64 m6, .int .i64 m7, .int .i64 m8] MT (0, 0)) := by
    rw [← hw1, (((Q.refl (w.alloc _)).alloc _).alloc _).below.block _ (by simp)]
    exact heap_alloc_new w _
  have a1 : w1.heap[w.heap.size + 1]? = some (.cells #[.int .i64 op, .int .i64 a, .int .i64 b] 40 (0, 0)) := by
    rw [← hw1, ((Q.refl ((w.alloc _).alloc _)).alloc _).below.block _ (by simp)]
    have h := heap_alloc_new (w.alloc (.cells #[.int .i64 m0, .int .i64 m1, .int .i64 m2, .slice A0 n c, .slice B k d, .int .i64 m5, .int .i64 m6, .int .i64 m7, .int .i64 m8] MT)) (.cells #[.int .i64 op, .int .i64 a, .int .i64 b] 40)
    rwa [show (w.alloc (.cells #[.int .i64 m0, .int .i64 m1, .int .i64 m2, .slice A0 n c, .slice B k d, .int .i64 m5, .int .i64 m6, .int .i64 m7, .int .i64 m8] MT)).heap.size = w.heap.size + 1 by simp] at h
  have q1 : w1.heap[w.heap.size + 2]? = some (.cells #[.int .i64 0, .int .i64 0, .int .i64 0, .slice none 0 0, .slice none 0 0, .int .i64 0, .int .i64 0, .int .i64 0, .int .i64 0] MT (0, 0)) := by
    have h := heap_alloc_new ((w.alloc (.cells #[.int .i64 m0, .int .i64 m1, .int .i64 m2, .slice A0 n c, .slice B k d, .int .i64 m5, .int .i64 m6, .int .i64 m7, .int .i64 m8] MT)).alloc (.cells #[.int .i64 op, .int .i64 a, .int .i64 b] 40)) (.cells #[.int .i64 0, .int .i64 0, .int .i64 0, .slice none 0 0, .slice none 0 0, .int .i64 0, .int .i64 0, .int .i64 0, .int .i64 0] MT)
    rw [show ((w.alloc (.cells #[.int .i64 m0, .int .i64 m1, .int .i64 m2, .slice A0 n c, .slice B k d, .int .i64 m5, .int .i64 m6, .int .i64 m7, .int .i64 m8] MT)).alloc (.cells #[.int .i64 op, .int .i64 a, .int .i64 b] 40)).heap.size = w.heap.size + 2 by simp, hw1] at h
    exact h
  have HW1 := hide hw1
  have HR0 := hide q0
  have HR1 := hide q1
  have HQ1 := hide hq1
  obtain ⟨k0, k1, k2, k3, k4, k5, k6, k7, k8⟩ := cells9 q0
  obtain ⟨z0, z1, z2, z3, z4, z5, z6, z7, z8⟩ := cells9 q1
  obtain ⟨y0, y1, y2, y3, y4, y5, y6, y7, y8⟩ := free9 q1
  have i0 : w1.cell? ⟨w.heap.size + 1, 0, none⟩ = some (.int .i64 op) := by rw [cell_of_row _ _ _ _ _ _ a1]; rfl
  clear hw1 hq1 q0 q1 a1
  go_enter Tryz.func10, Tryz.ntmps10
  go_upto_region 1 with fail
  rw [HW1.out]
  go_wp2_with fail
  have hg := row9 (w := w1) (b := w.heap.size + 2) (.int .i64 m0) (.int .i64 m1) (.int .i64 m2) (.slice A0 n c) (.slice B k d) (.int .i64 m5) (.int .i64 m6) (.int .i64 m7) (.int .i64 m8) HR1.out
  have hF := q9 (w0 := w) (w := w1) (b := w.heap.size + 2) (.int .i64 m0) (.int .i64 m1) (.int .i64 m2) (.slice A0 n c) (.slice B k d) (.int .i64 m5) (.int .i64 m6) (.int .i64 m7) (.int .i64 m8) (HQ1.out) (by omega)
  refine bodyPost_ret (v := .tuple #[.agg #[.int .i64 m0, .int .i64 m1, .int .i64 m2, .slice A0 n c, .slice B k d, .int .i64 m5, .int .i64 m6, .int .i64 m7, .int .i64 m8], .int .i64 0, .int .i64 0]) (ret_m3 (p := 4) (u := 5) (x := 6) rfl rfl (by simp) (by simp) (by simp) hg) rfl ?_
  exact ⟨⟨A0, n, c, B, k, d, ⟨m0, m1, m2, bl, ys, m5, m6, m7, m8⟩⟩, rfl, rfl, HRM.out.up hF, Fr.refl _ _, hF⟩
theorem rAct_any (v : RV) (op a b : Int) (w : World) (H : RmR w v) (K : RmK v.m) : Calls Tryz.prog 10 #[v.val, .agg #[.int .i64 op, .int .i64 a, .int .i64 b]] w (MPost2 (ractM v.m op a b) w v) := by
  by_cases h0 : op = 0
  · subst h0
    exact rAct0_any v a b w H K
  by_cases h1 : op = 1
  · subst h1
    exact rAct1_any v a b w H K
  by_cases h2 : op = 2
  · subst h2
    exact rAct2_any v a b w H K
  by_cases h3 : op = 3
  · subst h3
    exact rAct3_any v a b w H K
  by_cases h4 : op = 4
  · subst h4
    exact rAct4_any v a b w H K
  by_cases h5 : op = 5
  · subst h5
    exact rAct5_any v a b w H K
  by_cases h6 : op = 6
  · subst h6
    exact rAct6_any v a b w H K
  exact rAct7_any v op a b w H h0 h1 h2 h3 h4 h5 h6
end Go.Proofs.YtegpkcbmgjoicaaGreat
