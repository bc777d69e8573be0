/- Layouts of one number, and such a one that may be nothing: Validate. Conditions: as each theorem says. -/
import Derived.Test.YtbgbalfhbficaaaCelG
namespace Go.Proofs.Ytbgbalfhbficaaa
open Go.RowKit
set_option linter.unusedVariables false
set_option linter.unusedSimpArgs false
abbrev rightF : Value := .func (.func 102) #[] #[]
set_option maxHeartbeats 1000000 in
theorem wrong_leaf (w : World) : Calls Try.prog 102 #[lfV 8] w (R1 w (.bool false)) := by
  unfold R1
  obtain ⟨w1, hw1⟩ : ∃ w1, w.alloc (.cells #[.int .i64 2, .int .i64 8, .bool false, .slice none 0 0] 24) = w1 := ⟨_, rfl⟩
  obtain ⟨hq1, hs1, hc⟩ := box1 hw1
  have k0 := hc 0 _ rfl
  have k1 := hc 1 _ rfl
  have k2 := hc 2 _ rfl
  have k3 := hc 3 _ rfl
  have HC := hide (right_leaf (n := 8) (s := 1) (.inl ⟨rfl, rfl⟩) w1)
  have HW1 := hide hw1
  have HQ1 := hide hq1
  clear hw1 hc hq1
  go_enter Try.func102, Try.ntmps102
  go_upto_region 1 with fail
  rw [HW1.out]
  go_wp2_with fail
  refine HC.out.mono ?_
  rintro e w2 ⟨rfl, hq2⟩
  clear k0 k1 k2 k3
  go_wp2_with fail
  go_ret
  exact ⟨rfl, HQ1.out.trans hq2⟩
set_option maxRecDepth 100000 in
set_option maxHeartbeats 1000000 in
theorem index_one (g : Nat) (w : World) (h8 : Op8 w g) : Calls Try.prog 121 #[.slice (some ⟨g, 0, none⟩) 1 1, rightF] w (R1 w (.int .i64 (-1))) := by
  unfold R1
  have H8 := hide h8
  clear h8
  go_enter Try.func121, Try.ntmps121
  go_wp2_with fail
  go_loopw [8] (fun vi wr => ∃ k : Nat, k ≤ 1 ∧ vi = .int .i64 k ∧ Q w wr) (fun vi _ => 1 - (intOf vi).toNat)
  case atStart => exact ⟨0, by omega, by go_num, Q.refl _⟩
  case round =>
    obtain ⟨k, hk, rfl, hq⟩ := hrel
    have HQ := hide hq
    match k, hk with
    | 0, _ =>
      obtain ⟨hl, c0, c1, c2, c3⟩ := H8.out.up hq
      have HC := hide (wrong_leaf wr)
      clear hq
      go_wp2_with fail
      refine HC.out.mono ?_
      rintro e w2 ⟨rfl, hq2⟩
      clear c0 c1 c2 c3
      go_wp2_with fail
      go_roundw
      case rel => exact ⟨1, by omega, by go_num, HQ.out.trans hq2⟩
      case measure => simp [intOf]
    | 1, _ =>
      clear hq
      go_wp2_with fail
      go_ret
      exact ⟨rfl, HQ.out⟩
theorem contains_one (g : Nat) (w : World) (h8 : Op8 w g) : Calls Try.prog 100 #[.slice (some ⟨g, 0, none⟩) 1 1, rightF] w (R1 w (.bool false)) := by
  have HC := hide (index_one g w h8)
  unfold R1
  go_enter Try.func100, Try.ntmps100
  go_wp2_with fail
  refine HC.out.mono ?_
  rintro e w1 ⟨rfl, hq1⟩
  go_wp2_with fail
  go_ret
  exact ⟨rfl, hq1⟩
set_option maxRecDepth 100000 in
set_option maxHeartbeats 1000000 in
theorem right_opt (g : Nat) (w : World) (h8 : Op8 w g) : Calls Try.prog 64 #[opV g] w (R1 w (.bool true)) := by
  obtain ⟨w1, hw1⟩ : ∃ w1, w.alloc (.cells #[.int .i64 4, .int .i64 0, .bool false, .slice (some ⟨g, 0, none⟩) 1 1] 24) = w1 := ⟨_, rfl⟩
  obtain ⟨hq1, hs1, hc⟩ := box1 hw1
  have k0 := hc 0 _ rfl
  have k1 := hc 1 _ rfl
  have k2 := hc 2 _ rfl
  have k3 := hc 3 _ rfl
  have hlt : w.heap.size < w1.heap.size := by omega
  have K0 := hide k0
  have K3 := hide k3
  have HW1 := hide hw1
  have HQ1 := hide hq1
  have H8 := hide (h8.up hq1)
  unfold R1
  clear hw1 hc hq1 h8
  go_enter Try.func64, Try.ntmps64
  go_upto_region 1 with fail
  rw [HW1.out]
  have hxc := ext_cell
  refine wp_region_ext (by kernel_rfl) (by kernel_rfl) ?_
  repeat (go_big_quiet_step ((fail)))
  clear hxc
  refine wpQuiet_nil ?_
  intro wz hwwz
  have hqwz := q_of_ext hwwz
  clear hwwz
  obtain ⟨hcwz, hfwz, hzwz⟩ := hqwz.facts
  try simp at hzwz
  try have hs0wz : w.heap.size < wz.heap.size := by omega
  try have hs1wz : w.heap.size + 1 < wz.heap.size := by omega
  have k0 := (hqwz.facts.1 _ 0 hlt).trans K0.out
  have k2' := (hqwz.facts.1 _ 2 hlt).trans k2
  have k3 := (hqwz.facts.1 _ 3 hlt).trans K3.out
  have HQZ := hide hqwz
  have HC := hide (contains_one g wz (H8.out.up hqwz))
  clear hqwz hcwz hfwz k1 k2
  go_wp2_with fail
  refine HC.out.mono ?_
  rintro e w2 ⟨rfl, hq2⟩
  go_wp2_with fail
  go_ret
  exact ⟨rfl, HQ1.out.trans (HQZ.out.trans hq2)⟩
/-- a layout that the walk of known meets: its value, its size, its alignment and what holds of it in memory -/
inductive Ly : World → Value → Int → Int → Prop
  | leaf {w : World} {n s : Int} : Lf n s → Ly w (lfV n) s s
  | opt {w : World} {g : Nat} : Op8 w g → Ly w (opV g) 2 1
theorem Ly.up {w w' : World} {v : Value} {s al : Int} (h : Ly w v s al) (hq : Q w w') : Ly w' v s al := by
  cases h with
  | leaf h => exact .leaf h
  | opt h => exact .opt (h.up hq)
/-- its cells -/
theorem Ly.cells {w : World} {v : Value} {s al : Int} (h : Ly w v s al) : ∃ k n : Int, ∃ (A : Option Addr) (m : Nat), v = .agg #[.int .i64 k, .int .i64 n, .bool false, .slice A m m] := by
  cases h with
  | leaf h => exact ⟨_, _, _, _, rfl⟩
  | opt h => exact ⟨_, _, _, _, rfl⟩
theorem cells_ly {w : World} {v : Value} {s al : Int} (h : Ly w v s al) : Calls Try.prog 63 #[v] w fun e w' => (∃ n : Int, n ≤ 2 ∧ e = .returned (.int .i64 n)) ∧ Q w w' := by
  cases h with
  | leaf h => exact (cells_leaf _ w).mono fun e w' h => ⟨⟨1, by omega, h.1⟩, h.2⟩
  | opt h => exact (cells_opt _ w h).mono fun e w' h => ⟨⟨2, by omega, h.1⟩, h.2⟩
theorem right_ly {w : World} {v : Value} {s al : Int} (h : Ly w v s al) : Calls Try.prog 64 #[v] w (R1 w (.bool true)) := by
  cases h with
  | leaf h => exact right_leaf h w
  | opt h => exact right_opt _ w h
theorem look_ly {B w : World} {g : Nat} {v : Value} {s al : Int} (h : Ly B v s al) (hB : B.heap.size ≤ g) (hq : Q B w) (hc : Cn w g 0 0) : Calls Try.prog 62 #[.pointer (some ⟨g, 0, none⟩), v, .int .i64 1] w fun e w' => e = .returned (.tuple #[]) ∧ Q B w' ∧ ∃ c d, Cn w' g c d := by
  cases h with
  | leaf h => exact (look_leaf h B w g 0 0 1 hB hq hc (by omega) (by omega) (by omega) (by omega)).mono fun e w' h => ⟨h.1, h.2.1, _, _, h.2.2⟩
  | opt h => exact (look_opt B w g _ hB hq h hc).mono fun e w' h => ⟨h.1, h.2.1, _, _, h.2.2⟩
set_option maxRecDepth 100000 in
set_option maxHeartbeats 1000000 in
theorem validate_ly {w : World} {v : Value} {s al : Int} (h : Ly w v s al) : Calls Try.prog 36 #[v] w (R1 w (.int .i64 0)) := by
  unfold R1
  have HLY := hide h
  obtain ⟨k, n, A, m, rfl⟩ := h.cells
  obtain ⟨w1, hw1⟩ : ∃ w1, w.alloc (.cells #[.int .i64 k, .int .i64 n, .bool false, .slice A m m] 24) = w1 := ⟨_, rfl⟩
  obtain ⟨hq1, hs1, hc⟩ := box1 hw1
  obtain ⟨w2, hw2⟩ : ∃ w2, w1.alloc (.cells #[.int .i64 0, .int .i64 0, .bool false] 98) = w2 := ⟨_, rfl⟩
  obtain ⟨hq2, hs2, hc2⟩ := box1 hw2
  have hlt : w.heap.size < w1.heap.size := by omega
  have K0 := hide (show w1.cell? ⟨w.heap.size, 0, none⟩ = some (.int .i64 k) from hc 0 _ rfl)
  have K1 := hide (show w1.cell? ⟨w.heap.size, 1, none⟩ = some (.int .i64 n) from hc 1 _ rfl)
  have K2 := hide (show w1.cell? ⟨w.heap.size, 2, none⟩ = some (.bool false) from hc 2 _ rfl)
  have K3 := hide (show w1.cell? ⟨w.heap.size, 3, none⟩ = some (.slice A m m) from hc 3 _ rfl)
  have hcn : Cn w2 w1.heap.size 0 0 := ⟨by omega, hc2 0 _ rfl, hc2 1 _ rfl, hc2 2 _ rfl, by rw [← hw2]; simp, by rw [← hw2]; simp, by rw [← hw2]; simp⟩
  have HL := hide (look_ly (h.up hq1) (Nat.le_refl _) hq2 hcn)
  rw [hs1] at HL
  have HCE := hide (fun W (hW : Q w W) => cells_ly (HLY.out.up hW))
  have HRI := hide (fun W (hW : Q w W) => right_ly (HLY.out.up hW))
  have HW1 := hide hw1
  have HW2 := hide hw2
  have HQ1 := hide hq1
  have k0 := (hq2.facts.1 _ 0 hlt).trans K0.out
  have k1 := (hq2.facts.1 _ 1 hlt).trans K1.out
  have k2 := (hq2.facts.1 _ 2 hlt).trans K2.out
  have k3 := (hq2.facts.1 _ 3 hlt).trans K3.out
  clear h hw1 hw2 hc hc2 hcn hq1 hq2
  go_enter Try.func36, Try.ntmps36
  go_upto_region 1 with fail
  rw [HW1.out]
  go_upto_region 2 with fail
  rw [HW2.out]
  go_wp2_with fail
  refine HL.out.mono ?_
  rintro e w3 ⟨rfl, hq3, c, d, hcn⟩
  obtain ⟨a1, a2, a3, a4, a5, a6, a7⟩ := hcn
  clear k0 k1 k2 k3
  have k0 := (hq3.facts.1 _ 0 hlt).trans K0.out
  have k1 := (hq3.facts.1 _ 1 hlt).trans K1.out
  have k2 := (hq3.facts.1 _ 2 hlt).trans K2.out
  have k3 := (hq3.facts.1 _ 3 hlt).trans K3.out
  have HQ3 := hide (HQ1.out.trans hq3)
  have HQ13 := hide hq3
  have HC3 := hide (HCE.out w3 (HQ1.out.trans hq3))
  clear hq3 a2 a3 a5 a6 a7
  go_wp2_with fail
  refine HC3.out.mono ?_
  rintro e w4 ⟨⟨n4, hn4, rfl⟩, hq4⟩
  have d4 : decide (4096 < n4) = false := by simp; omega
  clear k0 k1 k2 k3 a4
  have k0 := ((HQ13.out.trans hq4).facts.1 _ 0 hlt).trans K0.out
  have k1 := ((HQ13.out.trans hq4).facts.1 _ 1 hlt).trans K1.out
  have k2 := ((HQ13.out.trans hq4).facts.1 _ 2 hlt).trans K2.out
  have k3 := ((HQ13.out.trans hq4).facts.1 _ 3 hlt).trans K3.out
  have HQ4 := hide (HQ3.out.trans hq4)
  have HR4 := hide (HRI.out w4 (HQ3.out.trans hq4))
  clear hq4 hn4
  go_wp2_with fail
  refine HR4.out.mono ?_
  rintro e w5 ⟨rfl, hq5⟩
  clear k0 k1 k2 k3
  go_wp2_with fail
  go_ret
  exact ⟨rfl, HQ4.out.trans hq5⟩
set_option maxRecDepth 100000 in
set_option maxHeartbeats 1000000 in
theorem asked_ly {w : World} {v : Value} {s al : Int} (h : Ly w v s al) (b : Bool) : Calls Try.prog 32 #[v, tgV b] w (R1 w (.int .i64 0)) := by
  unfold R1
  have HLY := hide h
  obtain ⟨k, n, A, m, rfl⟩ := h.cells
  obtain ⟨w2, hw2⟩ : ∃ w2, (w.alloc (.cells #[.int .i64 k, .int .i64 n, .bool false, .slice A m m] 24)).alloc (.cells #[.int .i64 4, .bool b] 26) = w2 := ⟨_, rfl⟩
  obtain ⟨hq2, hs2, hc, hd⟩ := box2 hw2
  have hlt : w.heap.size + 1 < w2.heap.size := by omega
  have k0 := hc 0 _ rfl
  have k1 := hc 1 _ rfl
  have k2 := hc 2 _ rfl
  have k3 := hc 3 _ rfl
  have T0 := hide (hd 0 _ rfl)
  have T1 := hide (hd 1 _ rfl)
  have HV := hide (validate_ly (h.up hq2))
  have HW2 := hide hw2
  have HQ2 := hide hq2
  clear h hw2 hc hd hq2
  go_enter Try.func32, Try.ntmps32
  go_upto_region 1 with fail
  rw [HW2.out]
  go_wp2_with fail
  refine HV.out.mono ?_
  rintro e w3 ⟨rfl, hq3⟩
  have t0 := (hq3.facts.1 _ 0 hlt).trans T0.out
  have t1 := (hq3.facts.1 _ 1 hlt).trans T1.out
  have HQ3 := hide (HQ2.out.trans hq3)
  have HT := hide (target_ok b w3)
  clear hq3 k0 k1 k2 k3
  go_wp2_with fail
  refine HT.out.mono ?_
  rintro e w4 ⟨rfl, hq4⟩
  clear t0 t1
  go_wp2_with fail
  go_ret
  exact ⟨rfl, HQ3.out.trans hq4⟩
end Go.Proofs.Ytbgbalfhbficaaa
