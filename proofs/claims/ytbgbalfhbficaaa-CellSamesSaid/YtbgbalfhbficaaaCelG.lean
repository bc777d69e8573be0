/- Layouts of one number, and such a one that may be nothing: they are right. Conditions: as each theorem says. -/
import Derived.Test.YtbgbalfhbficaaaCelF
namespace Go.Proofs.Ytbgbalfhbficaaa
open Go.RowKit
set_option linter.unusedVariables false
set_option linter.unusedSimpArgs false
set_option maxRecDepth 100000 in
set_option maxHeartbeats 1000000 in
theorem look_opt (B w : World) (g hh : Nat) (hB : B.heap.size ≤ g) (hq : Q B w) (h8 : Op8 B hh) (h : Cn w g 0 0) :
    Calls Try.prog 62 #[.pointer (some ⟨g, 0, none⟩), opV hh, .int .i64 1] w (LookP B g 2 2) := by
  obtain ⟨w1, hw1⟩ : ∃ w1, w.alloc (.cells #[.int .i64 4, .int .i64 0, .bool false, .slice (some ⟨hh, 0, none⟩) 1 1] 24) = w1 := ⟨_, rfl⟩
  obtain ⟨hq1, hs1, hc⟩ := box1 hw1
  have hgne : g ≠ w.heap.size := by have := h.lt; omega
  obtain ⟨w2, hw2⟩ : ∃ w2, w1.setCell ⟨g, 0, none⟩ (.int .i64 1) = w2 := ⟨_, rfl⟩
  have hh2 : Cn w2 g 1 0 := by rw [← hw2]; exact (h.up hq1).set0 _
  obtain ⟨w3, hw3⟩ : ∃ w3, w2.setCell ⟨g, 1, none⟩ (.int .i64 1) = w3 := ⟨_, rfl⟩
  have hh3 : Cn w3 g 1 1 := by rw [← hw3]; exact hh2.set1 _
  obtain ⟨w4, hw4⟩ : ∃ w4, w3.setCell ⟨g, 2, none⟩ (.bool false) = w4 := ⟨_, rfl⟩
  have hh4 : Cn w4 g 1 1 := by rw [← hw4]; exact hh3.set2
  have hqB4 : Q B w4 := by rw [← hw4, ← hw3, ← hw2]; exact (((hq.trans hq1).set hB _).set hB _).set hB _
  have hk : ∀ (j : Nat) u, (#[Value.int .i64 4, .int .i64 0, .bool false, .slice (some ⟨hh, 0, none⟩) 1 1] : Array Value)[j]? = some u → w3.cell? ⟨w.heap.size, j, none⟩ = some u ∧ w4.cell? ⟨w.heap.size, j, none⟩ = some u := fun j u hu => by
    have e3 : w3.cell? ⟨w.heap.size, j, none⟩ = some u := by
      rw [← hw3, World.cell?_setCell_other _ _ _ _ (by simp [hgne]), ← hw2, World.cell?_setCell_other _ _ _ _ (by simp [hgne])]
      exact hc j u hu
    refine ⟨e3, ?_⟩
    rw [← hw4, World.cell?_setCell_other _ _ _ _ (by simp [hgne])]
    exact e3
  have H1 := hide (h.up hq1)
  have H2 := hide hh2
  have H3 := hide hh3
  have H4 := hide hh4
  have HK := hide hk
  have HW1 := hide hw1
  have HW2 := hide hw2
  have HW3 := hide hw3
  have HW4 := hide hw4
  have HQ4 := hide hqB4
  have H8 := hide h8
  unfold LookP
  clear h hq hc hgne hh2 hh3 hh4 hk hw1 hw2 hw3 hw4 hqB4 h8
  go_enter Try.func62, Try.ntmps62
  go_upto_region 1 with fail
  rw [HW1.out]
  obtain ⟨a1, a2, a3, a4, a5, a6, a7⟩ := H1.out
  go_upto_region 2 with fail
  rw [HW2.out]
  clear a1 a2 a3 a4 a5 a6 a7
  obtain ⟨a1, a2, a3, a4, a5, a6, a7⟩ := H2.out
  go_upto_region 3 with fail
  rw [HW3.out]
  clear a1 a2 a3 a4 a5 a6 a7
  obtain ⟨a1, a2, a3, a4, a5, a6, a7⟩ := H3.out
  have z3 := (HK.out 3 _ rfl).1
  go_upto_region 4 with fail
  rw [HW4.out]
  clear a1 a2 a3 a4 a5 a6 a7 z3
  obtain ⟨a1, a2, a3, a4, a5, a6, a7⟩ := H4.out
  have z0 := (HK.out 0 _ rfl).2
  have z3 := (HK.out 3 _ rfl).2
  go_wp2_with fail
  clear a1 a2 a3 a4 a5 a6 a7 z0 z3
  go_loopw [128] (fun vi wr => ∃ k : Nat, k ≤ 1 ∧ vi = .int .i64 k ∧ Q B wr ∧ Cn wr g (if k = 0 then 1 else 2) (if k = 0 then 1 else 2)) (fun vi _ => 1 - (intOf vi).toNat)
  case atStart => exact ⟨0, by omega, by go_num, HQ4.out, H4.out⟩
  case round =>
    obtain ⟨k, hk, rfl, hq, hcn⟩ := hrel
    match k, hk with
    | 0, _ =>
      obtain ⟨hl, c0, c1, c2, c3⟩ := H8.out.up hq
      obtain ⟨wa, hwa⟩ : ∃ wa, wr.alloc (.cells #[.int .i64 2, .int .i64 8, .bool false, .slice none 0 0] 24) = wa := ⟨_, rfl⟩
      obtain ⟨hqa, hsa, hc⟩ := box1 hwa
      have z0 := hc 0 _ rfl
      have z1 := hc 1 _ rfl
      have z2 := hc 2 _ rfl
      have z3 := hc 3 _ rfl
      have HC := hide (look_leaf (n := 8) (s := 1) (.inl ⟨rfl, rfl⟩) B wa g 1 1 2 hB (hq.trans hqa) (hcn.up hqa) (by omega) (by omega) (by omega) (by omega))
      have HWA := hide hwa
      unfold LookP at HC
      rw [if_pos (by omega)] at HC
      clear hq hcn hwa hc hqa
      go_upto_region 23 with fail
      rw [HWA.out]
      clear c0 c1 c2 c3
      go_wp2_with fail
      refine HC.out.mono ?_
      rintro e w5 ⟨rfl, hq5, hcn5⟩
      have HQ5 := hide hq5
      have HC5 := hide hcn5
      clear hq5 hcn5 z0 z1 z2 z3
      go_wp2_with fail
      go_roundw
      case rel => exact ⟨1, by omega, by go_num, HQ5.out, HC5.out⟩
      case measure => simp [intOf]
    | 1, _ =>
      have HQ := hide hq
      have HC := hide hcn
      clear hq hcn
      go_wp2_with fail
      exact bodyPost_end (v := .tuple #[]) (by simp [results, Try.results62, go_sem]) rfl ⟨rfl, HQ.out, HC.out⟩
set_option maxHeartbeats 1000000 in
theorem index_none (f : Value) (w : World) : Calls Try.prog 121 #[.slice none 0 0, f] w (R1 w (.int .i64 (-1))) := by
  unfold R1
  go_enter Try.func121, Try.ntmps121
  go_wp2_with fail
  go_loopw [8] (fun vi wr => vi = .int .i64 0 ∧ wr = w) (fun vi _ => 0)
  case atStart => exact ⟨by go_num, rfl⟩
  case round =>
    obtain ⟨rfl, rfl⟩ := hrel
    go_wp2_with fail
    go_ret
    exact ⟨rfl, Q.refl _⟩
theorem contains_none (f : Value) (w : World) : Calls Try.prog 100 #[.slice none 0 0, f] w (R1 w (.bool false)) := by
  have HC := hide (index_none f w)
  unfold R1
  go_enter Try.func100, Try.ntmps100
  go_wp2_with fail
  refine HC.out.mono ?_
  rintro e w1 ⟨rfl, hq1⟩
  go_wp2_with fail
  go_ret
  exact ⟨rfl, hq1⟩
set_option maxRecDepth 100000 in
set_option maxHeartbeats 1000000 in
theorem right_leaf {n s : Int} (hn : Lf n s) (w : World) : Calls Try.prog 64 #[lfV n] w (R1 w (.bool true)) := by
  obtain ⟨w1, hw1⟩ : ∃ w1, w.alloc (.cells #[.int .i64 2, .int .i64 n, .bool false, .slice none 0 0] 24) = w1 := ⟨_, rfl⟩
  obtain ⟨hq1, hs1, hc⟩ := box1 hw1
  have k0 := hc 0 _ rfl
  have k1 := hc 1 _ rfl
  have k2 := hc 2 _ rfl
  have k3 := hc 3 _ rfl
  have d0 : (n == 0) = false := by rcases hn with ⟨rfl, -⟩ | ⟨rfl, -⟩ <;> rfl
  have d1 : decide (1 ≤ n) = true := by rcases hn with ⟨rfl, -⟩ | ⟨rfl, -⟩ <;> rfl
  have d2 : decide (n ≥ 1) = true := d1
  have hlt : w.heap.size < w1.heap.size := by omega
  have K0 := hide k0
  have K3 := hide k3
  have HW1 := hide hw1
  have HQ1 := hide hq1
  unfold R1
  clear hw1 hc hq1 hn
  go_enter Try.func64, Try.ntmps64
  go_upto_region 1 with fail
  rw [HW1.out]
  have hxc := ext_cell
  refine wp_region_ext (by kernel_rfl) (by kernel_rfl) ?_
  repeat (go_big_quiet_step ((fail)))
  clear hxc
  refine wpQuiet_nil ?_
  intro wz hwwz
  have hqwz := q_of_ext hwwz
  clear hwwz
  obtain ⟨hcwz, hfwz, hzwz⟩ := hqwz.facts
  try simp at hzwz
  try have hs0wz : w.heap.size < wz.heap.size := by omega
  try have hs1wz : w.heap.size + 1 < wz.heap.size := by omega
  have k0 := (hqwz.facts.1 _ 0 hlt).trans K0.out
  have k1' := (hqwz.facts.1 _ 1 hlt).trans k1
  have k2' := (hqwz.facts.1 _ 2 hlt).trans k2
  have k3 := (hqwz.facts.1 _ 3 hlt).trans K3.out
  have HQZ := hide hqwz
  have HC := hide (fun f => contains_none f wz)
  clear hqwz hcwz hfwz k1 k2
  go_wp2_with fail
  refine (HC.out _).mono ?_
  rintro e w2 ⟨rfl, hq2⟩
  go_wp2_with fail
  go_ret
  exact ⟨rfl, HQ1.out.trans (HQZ.out.trans hq2)⟩
end Go.Proofs.Ytbgbalfhbficaaa
