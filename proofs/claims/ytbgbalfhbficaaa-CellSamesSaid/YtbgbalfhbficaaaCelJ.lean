/- Size of the layouts that the walk of known meets. Conditions: as each theorem says. -/
import Derived.Test.YtbgbalfhbficaaaCelI
namespace Go.Proofs.Ytbgbalfhbficaaa
open Go.RowKit
set_option linter.unusedVariables false
set_option linter.unusedSimpArgs false
theorem room_ly {w : World} {v : Value} {s al : Int} (h : Ly w v s al) (b : Bool) : Calls Try.prog 58 #[v, tgV b] w (R1 w (.agg #[.int .i64 s, .int .i64 al])) := by
  cases h with
  | leaf h => exact room_leaf h b w
  | opt h => exact room_opt _ b w h
theorem Ly.small {w : World} {v : Value} {s al : Int} (h : Ly w v s al) : (s = 1 ∨ s = 2) := by
  cases h with
  | leaf h => rcases h with ⟨-, rfl⟩ | ⟨-, rfl⟩ <;> simp
  | opt h => exact .inr rfl
theorem frz_new {w : World} {g j : Nat} {cs : Array Value} {t : TypeId} (h : w.heap[g]? = some (.cells cs t (0, 0))) : w.frozen? ⟨g, j, none⟩ = false := by
  unfold World.frozen?
  simp [h]
theorem set2c {w : World} {b : Nat} {a0 a1 v0 v1 : Value} (h0 : w.cell? ⟨b, 0, none⟩ = some a0) (h1 : w.cell? ⟨b, 1, none⟩ = some a1) :
    ((w.setCell ⟨b, 0, none⟩ v0).setCell ⟨b, 1, none⟩ v1).cell? ⟨b, 0, none⟩ = some v0 ∧ ((w.setCell ⟨b, 0, none⟩ v0).setCell ⟨b, 1, none⟩ v1).cell? ⟨b, 1, none⟩ = some v1 := by
  constructor
  · rw [World.cell?_setCell_other _ _ _ _ (by simp)]
    exact World.cell?_setCell_same _ _ _ h0
  · exact World.cell?_setCell_same _ _ _ (by rw [World.cell?_setCell_other _ _ _ _ (by simp)]; exact h1)
set_option maxRecDepth 100000 in
set_option maxHeartbeats 1000000 in
theorem sized_ly {w : World} {v : Value} {s al : Int} (h : Ly w v s al) (b : Bool) : Calls Try.prog 33 #[v, tgV b] w (R1 w (.tuple #[.agg #[.int .i64 s, .int .i64 al], .int .i64 0])) := by
  unfold R1
  have HLY := hide h
  have d1 : decide (4096 < s) = false := by rcases h.small with rfl | rfl <;> rfl
  obtain ⟨k, n, A, m, rfl⟩ := h.cells
  obtain ⟨w3, hw3⟩ : ∃ w3, ((w.alloc (.cells #[.int .i64 k, .int .i64 n, .bool false, .slice A m m] 24)).alloc (.cells #[.int .i64 4, .bool b] 26)).alloc (.cells #[.int .i64 0, .int .i64 0] 65) = w3 := ⟨_, rfl⟩
  obtain ⟨hq3, hs3, hc, hd, he⟩ := box3 hw3
  have hs2 : w.heap.size + 2 < w3.heap.size := by omega
  have k0 := hc 0 _ rfl
  have k1 := hc 1 _ rfl
  have k2 := hc 2 _ rfl
  have k3 := hc 3 _ rfl
  have t0 := hd 0 _ rfl
  have t1 := hd 1 _ rfl
  have Z0 := hide (show w3.cell? ⟨w.heap.size + 2, 0, none⟩ = some (.int .i64 0) from he 0 _ rfl)
  have Z1 := hide (show w3.cell? ⟨w.heap.size + 2, 1, none⟩ = some (.int .i64 0) from he 1 _ rfl)
  have kb : w3.heap[w.heap.size + 2]? = some (.cells #[.int .i64 0, .int .i64 0] 65 (0, 0)) := by
    have h9 := heap_alloc_new ((w.alloc (.cells #[.int .i64 k, .int .i64 n, .bool false, .slice A m m] 24)).alloc (.cells #[.int .i64 4, .bool b] 26)) (.cells #[.int .i64 0, .int .i64 0] 65)
    rw [hw3] at h9
    simpa using h9
  have Y0 := hide (frz_new (j := 0) kb)
  have Y1 := hide (frz_new (j := 1) kb)
  have HR := hide (room_ly (h.up hq3) b)
  have HW3 := hide hw3
  have HQ3 := hide hq3
  clear h hw3 hc hd he hq3 kb
  go_enter Try.func33, Try.ntmps33
  go_upto_region 1 with fail
  rw [HW3.out]
  go_wp2_with fail
  refine HR.out.mono ?_
  rintro e w4 ⟨rfl, hq4⟩
  clear k0 k1 k2 k3 t0 t1
  obtain ⟨w5, hw5⟩ : ∃ w5, w4.alloc (.cells #[.int .i64 s, .int .i64 al] 65) = w5 := ⟨_, rfl⟩
  obtain ⟨hq5, hs5, hc⟩ := box1 hw5
  have r0 := hc 0 _ rfl
  have r1 := hc 1 _ rfl
  have z0 := ((hq4.trans hq5).facts.1 _ 0 hs2).trans Z0.out
  have z1 := ((hq4.trans hq5).facts.1 _ 1 hs2).trans Z1.out
  have y0 := ((hq4.trans hq5).facts.2.1 _ 0 hs2).trans Y0.out
  have y1 := ((hq4.trans hq5).facts.2.1 _ 1 hs2).trans Y1.out
  obtain ⟨s0, s1⟩ := set2c (v0 := .int .i64 s) (v1 := .int .i64 al) z0 z1
  have S0 := hide s0
  have S1 := hide s1
  have HW5 := hide hw5
  have HQ5 := hide (((HQ3.out.trans (hq4.trans hq5)).set (p := ⟨w.heap.size + 2, 0, none⟩) (by simp) (.int .i64 s)).set (p := ⟨w.heap.size + 2, 1, none⟩) (by simp) (.int .i64 al))
  clear hw5 hc hq4 hq5 s0 s1
  go_upto_region 2 with fail
  rw [HW5.out]
  go_wp2_with fail
  have s0 := S0.out
  have s1 := S1.out
  refine bodyPost_ret (v := .tuple #[.agg #[.int .i64 s, .int .i64 al], .int .i64 0]) (by simp [results, Try.results33, go_sem, s0, s1]) rfl ?_
  exact ⟨rfl, HQ5.out⟩
set_option maxRecDepth 100000 in
set_option maxHeartbeats 1000000 in
theorem Size_ly {w : World} {v : Value} {s al : Int} (h : Ly w v s al) (b : Bool) : Calls Try.prog 10 #[v, tgV b] w (R1 w (.tuple #[.int .i64 s, .int .i64 0])) := by
  unfold R1
  have HLY := hide h
  obtain ⟨k, n, A, m, rfl⟩ := h.cells
  obtain ⟨w2, hw2⟩ : ∃ w2, (w.alloc (.cells #[.int .i64 k, .int .i64 n, .bool false, .slice A m m] 24)).alloc (.cells #[.int .i64 4, .bool b] 26) = w2 := ⟨_, rfl⟩
  obtain ⟨hq2, hs2, hc, hd⟩ := box2 hw2
  have h0 : w.heap.size < w2.heap.size := by omega
  have h1 : w.heap.size + 1 < w2.heap.size := by omega
  have k0 := hc 0 _ rfl
  have k1 := hc 1 _ rfl
  have k2 := hc 2 _ rfl
  have k3 := hc 3 _ rfl
  have t0 := hd 0 _ rfl
  have t1 := hd 1 _ rfl
  have KA : Hid (∀ W, Q w2 W → W.cell? ⟨w.heap.size, 0, none⟩ = some (.int .i64 k) ∧ W.cell? ⟨w.heap.size, 1, none⟩ = some (.int .i64 n) ∧ W.cell? ⟨w.heap.size, 2, none⟩ = some (.bool false) ∧ W.cell? ⟨w.heap.size, 3, none⟩ = some (.slice A m m) ∧ W.cell? ⟨w.heap.size + 1, 0, none⟩ = some (.int .i64 4) ∧ W.cell? ⟨w.heap.size + 1, 1, none⟩ = some (.bool b)) := hide fun W h => ⟨(h.facts.1 _ 0 h0).trans k0, (h.facts.1 _ 1 h0).trans k1, (h.facts.1 _ 2 h0).trans k2, (h.facts.1 _ 3 h0).trans k3, (h.facts.1 _ 0 h1).trans t0, (h.facts.1 _ 1 h1).trans t1⟩
  have HA := hide (asked_ly (h.up hq2) b)
  have HZ := hide (fun W (hW : Q w W) => sized_ly (HLY.out.up hW) b)
  have HW2 := hide hw2
  have HQ2 := hide hq2
  clear h hw2 hc hd hq2
  go_enter Try.func10, Try.ntmps10
  go_upto_region 1 with fail
  rw [HW2.out]
  go_wp2_with fail
  refine HA.out.mono ?_
  rintro e w3 ⟨rfl, hq3⟩
  clear k0 k1 k2 k3 t0 t1
  obtain ⟨k0, k1, k2, k3, t0, t1⟩ := KA.out w3 hq3
  have HQ3 := hide (HQ2.out.trans hq3)
  have HZ3 := hide (HZ.out w3 (HQ2.out.trans hq3))
  clear hq3
  go_wp2_with fail
  refine HZ3.out.mono ?_
  rintro e w4 ⟨rfl, hq4⟩
  clear k0 k1 k2 k3 t0 t1
  obtain ⟨w5, hw5⟩ : ∃ w5, w4.alloc (.cells #[.int .i64 s, .int .i64 al] 65) = w5 := ⟨_, rfl⟩
  obtain ⟨hq5, hs5, hc⟩ := box1 hw5
  have r0 := hc 0 _ rfl
  have HW5 := hide hw5
  have HQ5 := hide (HQ3.out.trans (hq4.trans hq5))
  clear hw5 hc hq4 hq5
  go_upto_region 5 with fail
  rw [HW5.out]
  go_wp2_with fail
  go_ret2
  exact ⟨rfl, HQ5.out⟩
set_option maxRecDepth 100000 in
set_option maxHeartbeats 1000000 in
theorem size_ly {w : World} {v : Value} {s al : Int} (h : Ly w v s al) (b : Bool) : Calls Try.prog 44 #[tgV b, v] w (R1 w (.int .i64 s)) := by
  unfold R1
  have HLY := hide h
  obtain ⟨k, n, A, m, rfl⟩ := h.cells
  obtain ⟨w2, hw2⟩ : ∃ w2, (w.alloc (.cells #[.int .i64 4, .bool b] 60)).alloc (.cells #[.int .i64 k, .int .i64 n, .bool false, .slice A m m] 24) = w2 := ⟨_, rfl⟩
  obtain ⟨hq2, hs2, hd, hc⟩ := box2 hw2
  have k0 := hc 0 _ rfl
  have k1 := hc 1 _ rfl
  have k2 := hc 2 _ rfl
  have k3 := hc 3 _ rfl
  have t0 := hd 0 _ rfl
  have t1 := hd 1 _ rfl
  have HZ := hide (Size_ly (h.up hq2) b)
  have HW2 := hide hw2
  have HQ2 := hide hq2
  clear h hw2 hc hd hq2
  go_enter Try.func44, Try.ntmps44
  go_upto_region 1 with fail
  rw [HW2.out]
  go_wp2_with fail
  refine HZ.out.mono ?_
  rintro e w3 ⟨rfl, hq3⟩
  clear k0 k1 k2 k3 t0 t1
  go_wp2_with fail
  go_ret
  exact ⟨rfl, HQ2.out.trans hq3⟩
end Go.Proofs.Ytbgbalfhbficaaa
