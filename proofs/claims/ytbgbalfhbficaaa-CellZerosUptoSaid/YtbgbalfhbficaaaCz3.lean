/- The cells of known are right. Conditions: as each theorem says. -/
import Derived.Test.YtbgbalfhbficaaaCz2
namespace Go.Proofs.Ytbgbalfhbficaaa
set_option maxRecDepth 100000
set_option maxHeartbeats 2000000
open Go.RowKit
set_option linter.unusedVariables false
set_option linter.unusedSimpArgs false
abbrev c258 : Value := .agg #[.int .i64 258, .bool false, .bool false, .slice none 0 0]
abbrev cNul : Value := .agg #[.int .i64 0, .bool true, .bool false, .slice none 0 0]
inductive Ck : World → Value → Value → Prop
 | leaf {w : World} : Ck w (lfV 16) c258
 | opt {w : World} {g : Nat} : Op8 w g → Ck w (opV g) cNul
theorem Ck.up {w w' : World} {v x : Value} (h : Ck w v x) (hq : Q w w') : Ck w' v x := by
 cases h with
 | leaf => exact .leaf
 | opt h => exact .opt (h.up hq)
theorem Ck.ly {w : World} {v x : Value} (h : Ck w v x) : ∃ al, Ly w v 2 al := by
 cases h with
 | leaf => exact ⟨_, .leaf (.inr ⟨rfl, rfl⟩)⟩
 | opt h => exact ⟨_, .opt h⟩
theorem Ck.cells {w : World} {v x : Value} (h : Ck w v x) : (∃ k n : Int, ∃ (A : Option Addr) (m : Nat), v = .agg #[.int .i64 k, .int .i64 n, .bool false, .slice A m m]) ∧ ∃ (N : Int) (z : Bool), x = .agg #[.int .i64 N, .bool z, .bool false, .slice none 0 0] := by
 cases h with
 | leaf => exact ⟨⟨_, _, _, _, rfl⟩, _, _, rfl⟩
 | opt h => exact ⟨⟨_, _, _, _, rfl⟩, _, _, rfl⟩
theorem open_ly {w : World} {v : Value} {s al : Int} (h : Ly w v s al) (b : Bool) : Calls Try.prog 40 #[v, tgV b] w (R1 w (.tuple #[tgV b, .int .i64 s, .int .i64 0])) := by
 unfold R1
 have HLY := hide h
 obtain ⟨k, n, A, m, rfl⟩ := h.cells
 obtain ⟨w3, hw3⟩ : ∃ w3, ((w.alloc (.cells #[.int .i64 k, .int .i64 n, .bool false, .slice A m m] 24)).alloc (.cells #[.int .i64 4, .bool b] 26)).alloc (.cells #[.int .i64 0, .bool false] 60) = w3 := ⟨_, rfl⟩
 obtain ⟨hq3, hs3, hc, hd, he⟩ := box3 hw3
 have h0 : w.heap.size < w3.heap.size := by omega
 have h1 : w.heap.size + 1 < w3.heap.size := by omega
 have h2 : w.heap.size + 2 < w3.heap.size := by omega
 have k0 := hc 0 _ rfl
 have k1 := hc 1 _ rfl
 have k2 := hc 2 _ rfl
 have k3 := hc 3 _ rfl
 have t0 := hd 0 _ rfl
 have t1 := hd 1 _ rfl
 have KA : Hid (∀ W, Q w3 W → W.cell? ⟨w.heap.size, 0, none⟩ = some (.int .i64 k) ∧ W.cell? ⟨w.heap.size, 1, none⟩ = some (.int .i64 n) ∧ W.cell? ⟨w.heap.size, 2, none⟩ = some (.bool false) ∧ W.cell? ⟨w.heap.size, 3, none⟩ = some (.slice A m m) ∧ W.cell? ⟨w.heap.size + 1, 0, none⟩ = some (.int .i64 4) ∧ W.cell? ⟨w.heap.size + 1, 1, none⟩ = some (.bool b)) := hide fun W h => ⟨(h.facts.1 _ 0 h0).trans k0, (h.facts.1 _ 1 h0).trans k1, (h.facts.1 _ 2 h0).trans k2, (h.facts.1 _ 3 h0).trans k3, (h.facts.1 _ 0 h1).trans t0, (h.facts.1 _ 1 h1).trans t1⟩
 have Z0 := hide (show w3.cell? ⟨w.heap.size + 2, 0, none⟩ = some (.int .i64 0) from he 0 _ rfl)
 have Z1 := hide (show w3.cell? ⟨w.heap.size + 2, 1, none⟩ = some (.bool false) from he 1 _ rfl)
 have kb : w3.heap[w.heap.size + 2]? = some (.cells #[.int .i64 0, .bool false] 60 (0, 0)) := by
  have h9 := heap_alloc_new ((w.alloc (.cells #[.int .i64 k, .int .i64 n, .bool false, .slice A m m] 24)).alloc (.cells #[.int .i64 4, .bool b] 26)) (.cells #[.int .i64 0, .bool false] 60)
  rw [hw3] at h9
  simpa using h9
 have Y0 := hide (frz_new (j := 0) kb)
 have Y1 := hide (frz_new (j := 1) kb)
 have HV := hide (validate_ly (h.up hq3))
 have HZ := hide (fun W (hW : Q w W) => Size_ly (HLY.out.up hW) b)
 have HW3 := hide hw3
 have HQ3 := hide hq3
 clear h hw3 hc hd he hq3 kb
 go_enter Try.func40, Try.ntmps40
 go_upto_region 1 with fail
 rw [HW3.out]
 go_wp2_with fail
 refine HV.out.mono ?_
 rintro e w4 ⟨rfl, hq4⟩
 clear k0 k1 k2 k3 t0 t1
 obtain ⟨k0, k1, k2, k3, t0, t1⟩ := KA.out w4 hq4
 have HQ4 := hide (HQ3.out.trans hq4)
 have HQ34 := hide hq4
 have HZ4 := hide (HZ.out w4 (HQ3.out.trans hq4))
 clear hq4
 go_wp2_with fail
 refine HZ4.out.mono ?_
 rintro e w5 ⟨rfl, hq5⟩
 clear k0 k1 k2 k3 t0 t1
 obtain ⟨k0, k1, k2, k3, t0, t1⟩ := KA.out w5 (HQ34.out.trans hq5)
 have z0 := ((HQ34.out.trans hq5).facts.1 _ 0 h2).trans Z0.out
 have z1 := ((HQ34.out.trans hq5).facts.1 _ 1 h2).trans Z1.out
 have y0 := ((HQ34.out.trans hq5).facts.2.1 _ 0 h2).trans Y0.out
 have y1 := ((HQ34.out.trans hq5).facts.2.1 _ 1 h2).trans Y1.out
 obtain ⟨s0, s1⟩ := set2c (v0 := .int .i64 4) (v1 := .bool b) z0 z1
 have S0 := hide s0
 have S1 := hide s1
 have HQ5 := hide (((HQ4.out.trans hq5).set (p := ⟨w.heap.size + 2, 0, none⟩) (by simp) (.int .i64 4)).set (p := ⟨w.heap.size + 2, 1, none⟩) (by simp) (.bool b))
 clear hq5 s0 s1
 go_wp2_with fail
 have s0 := S0.out
 have s1 := S1.out
 refine bodyPost_ret (v := .tuple #[tgV b, .int .i64 s, .int .i64 0]) (by simp [results, Try.results40, go_sem, s0, s1]) rfl ?_
 exact ⟨rfl, HQ5.out⟩
theorem bounds16 (b : Bool) (w : World) : Calls Try.prog 104 #[tgV b, lfV 16] w (R1 w (.tuple #[.int .i64 0, .int .i64 65535])) := by
 unfold R1
 obtain ⟨w2, hw2⟩ : ∃ w2, (w.alloc (.cells #[.int .i64 4, .bool b] 60)).alloc (.cells #[.int .i64 2, .int .i64 16, .bool false, .slice none 0 0] 24) = w2 := ⟨_, rfl⟩
 obtain ⟨hq2, hs2, hd, hc⟩ := box2 hw2
 have h1 : w.heap.size + 1 < w2.heap.size := by omega
 have K0 := hide (hc 0 _ rfl)
 have k1 := hc 1 _ rfl
 have k2 := hc 2 _ rfl
 have HW2 := hide hw2
 have HQ2 := hide hq2
 clear hw2 hc hd hq2
 go_enter Try.func104, Try.ntmps104
 go_upto_region 1 with fail
 rw [HW2.out]
 have hxc := ext_cell
 refine wp_region_ext (by kernel_rfl) (by kernel_rfl) ?_
 repeat (go_big_quiet_step ((fail)))
 clear hxc
 refine wpQuiet_nil ?_
 intro wz hwwz
 have hqwz := q_of_ext hwwz
 clear hwwz
 obtain ⟨hcwz, hfwz, hzwz⟩ := hqwz.facts
 try simp at hzwz
 try have hs0wz : w.heap.size < wz.heap.size := by omega
 try have hs1wz : w.heap.size + 1 < wz.heap.size := by omega
 have k0 := (hqwz.facts.1 _ 0 h1).trans K0.out
 have HQZ := hide hqwz
 clear hqwz hcwz hfwz k1 k2
 go_wp2_with fail
 go_ret2
 exact ⟨rfl, HQ2.out.trans HQZ.out⟩
theorem number258 (b : Bool) (w : World) : Calls Try.prog 71 #[tgV b, lfV 16, .int .i64 258] w (R1 w (.bool true)) := by
 unfold R1
 obtain ⟨w2, hw2⟩ : ∃ w2, (w.alloc (.cells #[.int .i64 4, .bool b] 60)).alloc (.cells #[.int .i64 2, .int .i64 16, .bool false, .slice none 0 0] 24) = w2 := ⟨_, rfl⟩
 obtain ⟨hq2, hs2, hd, hc⟩ := box2 hw2
 have k0 := hc 0 _ rfl
 have k1 := hc 1 _ rfl
 have k2 := hc 2 _ rfl
 have k3 := hc 3 _ rfl
 have t0 := hd 0 _ rfl
 have t1 := hd 1 _ rfl
 have HB := hide (bounds16 b w2)
 have HW2 := hide hw2
 have HQ2 := hide hq2
 clear hw2 hc hd hq2
 go_enter Try.func71, Try.ntmps71
 go_upto_region 1 with fail
 rw [HW2.out]
 go_wp2_with fail
 refine HB.out.mono ?_
 rintro e w3 ⟨rfl, hq3⟩
 clear k0 k1 k2 k3 t0 t1
 go_wp2_with fail
 go_ret
 exact ⟨rfl, HQ2.out.trans hq3⟩
theorem isCell_leaf (b : Bool) (w : World) : Calls Try.prog 45 #[tgV b, lfV 16, c258] w (R1 w (.bool true)) := by
 unfold R1
 obtain ⟨w3, hw3⟩ : ∃ w3, ((w.alloc (.cells #[.int .i64 4, .bool b] 60)).alloc (.cells #[.int .i64 2, .int .i64 16, .bool false, .slice none 0 0] 24)).alloc (.cells #[.int .i64 258, .bool false, .bool false, .slice none 0 0] 31) = w3 := ⟨_, rfl⟩
 obtain ⟨hq3, hs3, hd, hc, he⟩ := box3 hw3
 have k0 := hc 0 _ rfl
 have k1 := hc 1 _ rfl
 have k2 := hc 2 _ rfl
 have k3 := hc 3 _ rfl
 have t0 := hd 0 _ rfl
 have t1 := hd 1 _ rfl
 have x0 := he 0 _ rfl
 have x1 := he 1 _ rfl
 have x2 := he 2 _ rfl
 have x3 := he 3 _ rfl
 have HN := hide (number258 b w3)
 have HW3 := hide hw3
 have HQ3 := hide hq3
 clear hw3 hc hd he hq3
 go_enter Try.func45, Try.ntmps45
 go_upto_region 1 with fail
 rw [HW3.out]
 go_wp2_with fail
 refine HN.out.mono ?_
 rintro e w4 ⟨rfl, hq4⟩
 clear k0 k1 k2 k3 t0 t1 x0 x1 x2 x3
 go_wp2_with fail
 go_ret
 exact ⟨rfl, HQ3.out.trans hq4⟩
theorem isCell_opt (b : Bool) (g : Nat) (w : World) : Calls Try.prog 45 #[tgV b, opV g, cNul] w (R1 w (.bool true)) := by
 unfold R1
 obtain ⟨w3, hw3⟩ : ∃ w3, ((w.alloc (.cells #[.int .i64 4, .bool b] 60)).alloc (.cells #[.int .i64 4, .int .i64 0, .bool false, .slice (some ⟨g, 0, none⟩) 1 1] 24)).alloc (.cells #[.int .i64 0, .bool true, .bool false, .slice none 0 0] 31) = w3 := ⟨_, rfl⟩
 obtain ⟨hq3, hs3, hd, hc, he⟩ := box3 hw3
 have k0 := hc 0 _ rfl
 have x0 := he 0 _ rfl
 have x1 := he 1 _ rfl
 have x2 := he 2 _ rfl
 have x3 := he 3 _ rfl
 have HW3 := hide hw3
 have HQ3 := hide hq3
 clear hw3 hc hd he hq3
 go_enter Try.func45, Try.ntmps45
 go_upto_region 1 with fail
 rw [HW3.out]
 go_wp2_with fail
 go_ret
 exact ⟨rfl, HQ3.out⟩
theorem isCell_ck {w : World} {v x : Value} (h : Ck w v x) (b : Bool) : Calls Try.prog 45 #[tgV b, v, x] w (R1 w (.bool true)) := by
 cases h with
 | leaf => exact isCell_leaf b w
 | opt h => exact isCell_opt b _ w
theorem cellValid_ck {w : World} {v x : Value} (h : Ck w v x) (b : Bool) : Calls Try.prog 29 #[v, tgV b, x] w (R1 w (.int .i64 0)) := by
 unfold R1
 have HCK := hide h
 obtain ⟨⟨k, n, A, m, rfl⟩, N, z, rfl⟩ := h.cells
 obtain ⟨al, hly⟩ := h.ly
 obtain ⟨w3, hw3⟩ : ∃ w3, ((w.alloc (.cells #[.int .i64 k, .int .i64 n, .bool false, .slice A m m] 24)).alloc (.cells #[.int .i64 4, .bool b] 26)).alloc (.cells #[.int .i64 N, .bool z, .bool false, .slice none 0 0] 31) = w3 := ⟨_, rfl⟩
 obtain ⟨hq3, hs3, hc, hd, he⟩ := box3 hw3
 have h0 : w.heap.size < w3.heap.size := by omega
 have h1 : w.heap.size + 1 < w3.heap.size := by omega
 have h2 : w.heap.size + 2 < w3.heap.size := by omega
 have k0 := hc 0 _ rfl
 have k1 := hc 1 _ rfl
 have k2 := hc 2 _ rfl
 have k3 := hc 3 _ rfl
 have t0 := hd 0 _ rfl
 have t1 := hd 1 _ rfl
 have x0 := he 0 _ rfl
 have x1 := he 1 _ rfl
 have x2 := he 2 _ rfl
 have x3 := he 3 _ rfl
 have KA : Hid (∀ W, Q w3 W → W.cell? ⟨w.heap.size, 0, none⟩ = some (.int .i64 k) ∧ W.cell? ⟨w.heap.size, 1, none⟩ = some (.int .i64 n) ∧ W.cell? ⟨w.heap.size, 2, none⟩ = some (.bool false) ∧ W.cell? ⟨w.heap.size, 3, none⟩ = some (.slice A m m) ∧ W.cell? ⟨w.heap.size + 2, 0, none⟩ = some (.int .i64 N) ∧ W.cell? ⟨w.heap.size + 2, 1, none⟩ = some (.bool z) ∧ W.cell? ⟨w.heap.size + 2, 2, none⟩ = some (.bool false) ∧ W.cell? ⟨w.heap.size + 2, 3, none⟩ = some (.slice none 0 0)) := hide fun W h => ⟨(h.facts.1 _ 0 h0).trans k0, (h.facts.1 _ 1 h0).trans k1, (h.facts.1 _ 2 h0).trans k2, (h.facts.1 _ 3 h0).trans k3, (h.facts.1 _ 0 h2).trans x0, (h.facts.1 _ 1 h2).trans x1, (h.facts.1 _ 2 h2).trans x2, (h.facts.1 _ 3 h2).trans x3⟩
 have HO := hide (open_ly (hly.up hq3) b)
 have HI := hide (fun W (hW : Q w W) => isCell_ck (HCK.out.up hW) b)
 have HW3 := hide hw3
 have HQ3 := hide hq3
 clear h hw3 hc hd he hq3 hly x0 x1 x2 x3
 go_enter Try.func29, Try.ntmps29
 go_upto_region 1 with fail
 rw [HW3.out]
 go_wp2_with fail
 refine HO.out.mono ?_
 rintro e w4 ⟨rfl, hq4⟩
 clear k0 k1 k2 k3 t0 t1
 obtain ⟨w5, hw5⟩ : ∃ w5, w4.alloc (.cells #[.int .i64 4, .bool b] 60) = w5 := ⟨_, rfl⟩
 obtain ⟨hq5, hs5, hc⟩ := box1 hw5
 have r0 := hc 0 _ rfl
 have r1 := hc 1 _ rfl
 obtain ⟨k0, k1, k2, k3, x0, x1, x2, x3⟩ := KA.out w5 (hq4.trans hq5)
 have HW5 := hide hw5
 have HQ5 := hide (HQ3.out.trans (hq4.trans hq5))
 have HI5 := hide (HI.out w5 (HQ3.out.trans (hq4.trans hq5)))
 clear hw5 hc hq4 hq5
 go_upto_region 2 with fail
 rw [HW5.out]
 go_wp2_with fail
 refine HI5.out.mono ?_
 rintro e w6 ⟨rfl, hq6⟩
 clear k0 k1 k2 k3 x0 x1 x2 x3 r0 r1
 go_wp2_with fail
 go_ret
 exact ⟨rfl, HQ5.out.trans hq6⟩
end Go.Proofs.Ytbgbalfhbficaaa
