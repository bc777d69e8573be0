/- write, encode, Encode of the cells of known. Conditions: as each theorem says. -/
import Derived.Test.YtbgbalfhbficaaaCelM
namespace Go.Proofs.Ytbgbalfhbficaaa
open Go.RowKit
set_option linter.unusedVariables false
set_option linter.unusedSimpArgs false
set_option maxRecDepth 100000 in
set_option maxHeartbeats 1000000 in
theorem behind_opt (g : Nat) (b : Bool) (w : World) (h8 : Op8 w g) : Calls Try.prog 68 #[tgV b, opV g] w (R1 w (.int .i64 1)) := by
  unfold R1
  obtain ⟨w2, hw2⟩ : ∃ w2, (w.alloc (.cells #[.int .i64 4, .bool b] 60)).alloc (.cells #[.int .i64 4, .int .i64 0, .bool false, .slice (some ⟨g, 0, none⟩) 1 1] 24) = w2 := ⟨_, rfl⟩
  obtain ⟨hq2, hs2, hd, hc⟩ := box2 hw2
  have h0 : w.heap.size < w2.heap.size := by omega
  have k3 := hc 3 _ rfl
  have T0 := hide (hd 0 _ rfl)
  have T1 := hide (hd 1 _ rfl)
  have HW2 := hide hw2
  have HQ2 := hide hq2
  have H8 := hide (h8.up hq2)
  clear hw2 hc hd hq2 h8
  go_enter Try.func68, Try.ntmps68
  go_upto_region 1 with fail
  rw [HW2.out]
  go_wp2_with fail
  clear k3
  go_loopw [5, 11] (fun v5 vi wr => ∃ k : Nat, k ≤ 1 ∧ vi = .int .i64 k ∧ v5 = .int .i64 (if k = 0 then 0 else 1) ∧ Q w2 wr) (fun _ vi _ => 1 - (intOf vi).toNat)
  case atStart => exact ⟨0, by omega, by go_num, rfl, Q.refl _⟩
  case round =>
    obtain ⟨k, hk, rfl, rfl, hq⟩ := hrel
    have HQ := hide hq
    match k, hk with
    | 0, _ =>
      obtain ⟨hl, c0, c1, c2, c3⟩ := H8.out.up hq
      obtain ⟨wa, hwa⟩ : ∃ wa, wr.alloc (.cells #[.int .i64 2, .int .i64 8, .bool false, .slice none 0 0] 24) = wa := ⟨_, rfl⟩
      obtain ⟨hqa, hsa, hc⟩ := box1 hwa
      have z0 := hc 0 _ rfl
      have z1 := hc 1 _ rfl
      have z2 := hc 2 _ rfl
      have z3 := hc 3 _ rfl
      have t0 := ((hq.trans hqa).facts.1 _ 0 h0).trans T0.out
      have t1 := ((hq.trans hqa).facts.1 _ 1 h0).trans T1.out
      have HC := hide (size_ly (w := wa) (v := lfV 8) (s := 1) (al := 1) (.leaf (.inl ⟨rfl, rfl⟩)) b)
      have HWA := hide hwa
      have HQA := hide (hq.trans hqa)
      clear hq hwa hc hqa
      go_upto_region 5 with fail
      rw [HWA.out]
      clear c0 c1 c2 c3
      go_wp2_with fail
      refine HC.out.mono ?_
      rintro e w5 ⟨rfl, hq5⟩
      have HQ5 := hide (HQA.out.trans hq5)
      clear hq5 z0 z1 z2 z3 t0 t1
      go_wp2_with fail
      go_roundw
      case rel => exact ⟨1, by omega, by go_num, rfl, HQ5.out⟩
      case measure => simp [intOf]
    | 1, _ =>
      clear hq
      go_wp2_with fail
      go_ret
      exact ⟨rfl, HQ2.out.trans HQ.out⟩
def WrP (B : World) (g : Nat) (L : List Value) (e : Ending) (w' : World) : Prop := e = .returned (.tuple #[]) ∧ Q B w' ∧ w'.ownsRow B.heap.size 3 1 (.slice (some ⟨g, 0, none⟩) 2 2) 2 L
set_option maxRecDepth 100000 in
set_option maxHeartbeats 2000000 in
theorem write_leaf (b : Bool) (g : Nat) (B w : World) (hq : Q B w) (hr : w.ownsRow B.heap.size 3 1 (.slice (some ⟨g, 0, none⟩) 2 2) 2 [.int .i64 (-1), .int .i64 (-1)]) :
    Calls Try.prog 57 #[tgV b, lfV 16, .slice (some ⟨g, 0, none⟩) 2 2, c258] w (WrP B g (by2 b)) := by
  unfold WrP
  obtain ⟨w3, hw3⟩ : ∃ w3, ((w.alloc (.cells #[.int .i64 4, .bool b] 60)).alloc (.cells #[.int .i64 2, .int .i64 16, .bool false, .slice none 0 0] 24)).alloc (.cells #[.int .i64 258, .bool false, .bool false, .slice none 0 0] 31) = w3 := ⟨_, rfl⟩
  obtain ⟨hq3, hs3, hd, hc, he⟩ := box3 hw3
  have k0 := hc 0 _ rfl
  have t0 := hd 0 _ rfl
  have t1 := hd 1 _ rfl
  have x0 := he 0 _ rfl
  have x2 := he 2 _ rfl
  have HP := hide (put258 b g B w3 (hq.trans hq3) (own_q hr hq3))
  have HW3 := hide hw3
  clear hw3 hc hd he hq3 hq hr
  go_enter Try.func57, Try.ntmps57
  go_upto_region 1 with fail
  rw [HW3.out]
  go_wp2_with fail
  refine HP.out.mono ?_
  rintro e w4 ⟨rfl, hq4, hr4⟩
  have HR4 := hide hr4
  clear k0 t0 t1 x0 x2 hr4
  go_wp2_with fail
  exact bodyPost_end (v := .tuple #[]) (by simp [results, Try.results57, go_sem]) rfl ⟨rfl, hq4, HR4.out⟩
set_option maxRecDepth 100000 in
set_option maxHeartbeats 2000000 in
theorem write_opt (b : Bool) (g hh : Nat) (B w : World) (hq : Q B w) (h8 : Op8 w hh) (hr : w.ownsRow B.heap.size 3 1 (.slice (some ⟨g, 0, none⟩) 2 2) 2 [.int .i64 (-1), .int .i64 (-1)]) :
    Calls Try.prog 57 #[tgV b, opV hh, .slice (some ⟨g, 0, none⟩) 2 2, cNul] w (WrP B g [.int .i64 (-1), .int .i64 0]) := by
  unfold WrP
  obtain ⟨w3, hw3⟩ : ∃ w3, ((w.alloc (.cells #[.int .i64 4, .bool b] 60)).alloc (.cells #[.int .i64 4, .int .i64 0, .bool false, .slice (some ⟨hh, 0, none⟩) 1 1] 24)).alloc (.cells #[.int .i64 0, .bool true, .bool false, .slice none 0 0] 31) = w3 := ⟨_, rfl⟩
  obtain ⟨hq3, hs3, hd, hc, he⟩ := box3 hw3
  have h2 : w.heap.size + 2 < w3.heap.size := by omega
  have k0 := hc 0 _ rfl
  have k1 := hc 1 _ rfl
  have k2 := hc 2 _ rfl
  have k3 := hc 3 _ rfl
  have t0 := hd 0 _ rfl
  have t1 := hd 1 _ rfl
  have X1 := hide (he 1 _ rfl)
  have x2 := he 2 _ rfl
  have HBH := hide (behind_opt hh b w3 (h8.up hq3))
  obtain ⟨g', c', e', hgb, hgl, -, -, -, -⟩ := own_at hr (by decide)
  cases e'
  have hne : w.heap.size + 2 ≠ g := by omega
  have HR3 := hide (own_q hr hq3)
  have HQ3 := hide (hq.trans hq3)
  have HW3 := hide hw3
  clear hw3 hc hd he hq3 hq hr
  go_enter Try.func57, Try.ntmps57
  go_upto_region 1 with fail
  rw [HW3.out]
  go_wp2_with fail
  refine HBH.out.mono ?_
  rintro e w4 ⟨rfl, hq4⟩
  have hown := own_q HR3.out hq4
  obtain ⟨g', c', e', -, hgl', -, -, hcell, hfz⟩ := own_at hown (by decide)
  cases e'
  have y1 := hcell 1 _ rfl
  have f1 := hfz 1
  have x1 := (hq4.facts.1 _ 1 h2).trans X1.out
  obtain ⟨w5, hw5⟩ : ∃ w5, w4.setCell ⟨g, 1, none⟩ (.int .i64 0) = w5 := ⟨_, rfl⟩
  have x1' : w5.cell? ⟨w.heap.size + 2, 1, none⟩ = some (.bool true) := by
    rw [← hw5, World.cell?_setCell_other _ _ _ _ (by intro e; simp at e <;> omega)]
    exact x1
  have HR5 := hide (show w5.ownsRow B.heap.size 3 1 (.slice (some ⟨g, 0, none⟩) 2 2) 2 [.int .i64 (-1), .int .i64 0] by rw [← hw5]; exact own_set hown 1 _)
  have HQ5 := hide (show Q B w5 by rw [← hw5]; exact (HQ3.out.trans hq4).set hgb _)
  have HW5 := hide hw5
  clear k0 k1 k2 k3 t0 t1 x2 hown hcell hfz hq4 x1 hw5
  go_upto_region 10 with fail
  rw [HW5.out]
  clear y1 f1
  go_wp2_with fail
  exact bodyPost_end (v := .tuple #[]) (by simp [results, Try.results57, go_sem]) rfl ⟨rfl, HQ5.out, HR5.out⟩
end Go.Proofs.Ytbgbalfhbficaaa
