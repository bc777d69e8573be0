/- step of the reference. Where a part stands, of the program. Layouts of one shape: plain. Conditions: as each theorem says. -/
import Derived.Test.YtbgbalfhbficaaaCf9
namespace Go.Proofs.Ytbgbalfhbficaaa
open Go.RowKit
set_option linter.unusedVariables false
set_option linter.unusedSimpArgs false
theorem set5c {w : World} {b : Nat} {a0 a1 a2 a3 a4 : Value} (v0 v1 v2 v3 v4 : Value) (h0 : w.cell? ⟨b, 0, none⟩ = some a0) (h1 : w.cell? ⟨b, 1, none⟩ = some a1) (h2 : w.cell? ⟨b, 2, none⟩ = some a2) (h3 : w.cell? ⟨b, 3, none⟩ = some a3) (h4 : w.cell? ⟨b, 4, none⟩ = some a4) (W : World) (hW : W = (((((w.setCell ⟨b, 0, none⟩ v0).setCell ⟨b, 1, none⟩ v1).setCell ⟨b, 2, none⟩ v2).setCell ⟨b, 3, none⟩ v3).setCell ⟨b, 4, none⟩ v4)) :
    W.cell? ⟨b, 0, none⟩ = some v0 ∧ W.cell? ⟨b, 1, none⟩ = some v1 ∧ W.cell? ⟨b, 2, none⟩ = some v2 ∧ W.cell? ⟨b, 3, none⟩ = some v3 ∧ W.cell? ⟨b, 4, none⟩ = some v4 := by
  obtain ⟨W4, hW4⟩ : ∃ W4, ((((w.setCell ⟨b, 0, none⟩ v0).setCell ⟨b, 1, none⟩ v1).setCell ⟨b, 2, none⟩ v2).setCell ⟨b, 3, none⟩ v3) = W4 := ⟨_, rfl⟩
  obtain ⟨c0, c1, c2, c3⟩ := set4c v0 v1 v2 v3 h0 h1 h2 h3 W4 hW4.symm
  have c4 : W4.cell? ⟨b, 4, none⟩ = some a4 := by
    rw [← hW4]
    rw [World.cell?_setCell_other _ _ _ _ (by simp), World.cell?_setCell_other _ _ _ _ (by simp), World.cell?_setCell_other _ _ _ _ (by simp), World.cell?_setCell_other _ _ _ _ (by simp)]
    exact h4
  rw [hW4] at hW
  subst hW
  refine ⟨?_, ?_, ?_, ?_, World.cell?_setCell_same _ _ _ c4⟩
  · rw [World.cell?_setCell_other _ _ _ _ (by simp)]; exact c0
  · rw [World.cell?_setCell_other _ _ _ _ (by simp)]; exact c1
  · rw [World.cell?_setCell_other _ _ _ _ (by simp)]; exact c2
  · rw [World.cell?_setCell_other _ _ _ _ (by simp)]; exact c3
theorem q_set5 {a w : World} {b : Nat} (v0 v1 v2 v3 v4 : Value) (h : Q a w) (hb : a.heap.size ≤ b) : Q a (((((w.setCell ⟨b, 0, none⟩ v0).setCell ⟨b, 1, none⟩ v1).setCell ⟨b, 2, none⟩ v2).setCell ⟨b, 3, none⟩ v3).setCell ⟨b, 4, none⟩ v4) :=
  ((((h.set (p := ⟨b, 0, none⟩) hb v0).set (p := ⟨b, 1, none⟩) hb v1).set (p := ⟨b, 2, none⟩) hb v2).set (p := ⟨b, 3, none⟩) hb v3).set (p := ⟨b, 4, none⟩) hb v4
theorem q_set4 {a w : World} {b : Nat} (v0 v1 v2 v3 : Value) (h : Q a w) (hb : a.heap.size ≤ b) : Q a ((((w.setCell ⟨b, 0, none⟩ v0).setCell ⟨b, 1, none⟩ v1).setCell ⟨b, 2, none⟩ v2).setCell ⟨b, 3, none⟩ v3) :=
  (((h.set (p := ⟨b, 0, none⟩) hb v0).set (p := ⟨b, 1, none⟩) hb v1).set (p := ⟨b, 2, none⟩) hb v2).set (p := ⟨b, 3, none⟩) hb v3
/-- a place, as a value -/
def plcV (a : Int) (l : Lay) : Value := .agg (.int .i64 a :: encL l).toArray
set_option maxRecDepth 100000 in
set_option maxHeartbeats 2000000 in
theorem step_none {w : World} {l : Lay} (h : LayR w l) (hc : l.count ≤ 1048576) (wd : Int) (b : Bool) (ho : Okw wd l) (no : Int) (hk : ¬ (l.k = 4 ∨ l.k = 5 ∨ l.k = 6 ∨ l.k = 8)) : ∀ W, Q w W → Calls Try.prog 74 #[l.v, tgW wd b, .int .i64 no] W (R1 W (.tuple #[plcV (stA wd l (no)) (stL l (no)), .int .i64 (stE l (no))])) := by
  intro W hqW
  unfold R1
  obtain ⟨k, n, f, A, len, cap, hlv⟩ : ∃ k n f A len cap, l.v = .agg #[.int .i64 k, .int .i64 n, .bool f, .slice A len cap] := by cases l; exact ⟨_, _, _, _, _, _, rfl⟩
  have HLV := hide hlv
  rw [hlv]
  clear hlv
  obtain ⟨w2, hw2⟩ : ∃ w2, ((W.alloc (.cells #[.int .i64 k, .int .i64 n, .bool f, .slice A len cap] 24)).alloc (.cells #[.int .i64 wd, .bool b] 26)).alloc (.cells #[.int .i64 0, .int .i64 0, .int .i64 0, .bool false, .slice none 0 0] 107) = w2 := ⟨_, rfl⟩
  obtain ⟨hq2, hs2, hc2, hd2, he2⟩ := box3 hw2
  have hb0 : W.heap.size < w2.heap.size := by omega
  have hb1 : W.heap.size + 1 < w2.heap.size := by omega
  have hb2 : W.heap.size + 2 < w2.heap.size := by omega
  have KA : Hid (∀ X, Q w2 X → X.cell? ⟨W.heap.size, 0, none⟩ = some (.int .i64 k) ∧ X.cell? ⟨W.heap.size, 1, none⟩ = some (.int .i64 n) ∧ X.cell? ⟨W.heap.size, 2, none⟩ = some (.bool f) ∧ X.cell? ⟨W.heap.size, 3, none⟩ = some (.slice A len cap) ∧ X.cell? ⟨W.heap.size + 1, 0, none⟩ = some (.int .i64 wd) ∧ X.cell? ⟨W.heap.size + 1, 1, none⟩ = some (.bool b)) := hide fun X hX => ⟨(hX.facts.1 _ 0 hb0).trans (hc2 0 _ rfl), (hX.facts.1 _ 1 hb0).trans (hc2 1 _ rfl), (hX.facts.1 _ 2 hb0).trans (hc2 2 _ rfl), (hX.facts.1 _ 3 hb0).trans (hc2 3 _ rfl), (hX.facts.1 _ 0 hb1).trans (hd2 0 _ rfl), (hX.facts.1 _ 1 hb1).trans (hd2 1 _ rfl)⟩
  have Z0 := hide (he2 0 _ rfl)
  have Z1 := hide (he2 1 _ rfl)
  have Z2 := hide (he2 2 _ rfl)
  have Z3 := hide (he2 3 _ rfl)
  have Z4 := hide (he2 4 _ rfl)
  have kb : w2.heap[W.heap.size + 2]? = some (.cells #[.int .i64 0, .int .i64 0, .int .i64 0, .bool false, .slice none 0 0] 107 (0, 0)) := by
    have h9 := heap_alloc_new ((W.alloc (.cells #[.int .i64 k, .int .i64 n, .bool f, .slice A len cap] 24)).alloc (.cells #[.int .i64 wd, .bool b] 26)) (.cells #[.int .i64 0, .int .i64 0, .int .i64 0, .bool false, .slice none 0 0] 107)
    rw [hw2] at h9
    simpa using h9
  have Y0 := hide (frz_new (j := 0) kb)
  have Y1 := hide (frz_new (j := 1) kb)
  have Y2 := hide (frz_new (j := 2) kb)
  have Y3 := hide (frz_new (j := 3) kb)
  have Y4 := hide (frz_new (j := 4) kb)
  have KB := hide kb
  clear kb
  have HW2 := hide hw2
  have HWQ := hide (hqW.trans hq2)
  have HQ2 := hide hq2
  have H := hide h
  clear h hw2 hq2 hqW hc2 hd2 he2
  have HKL : Hid (l.k = k) := hide (by cases l; injection HLV.out with e; simp at e; exact e.1)
  have hk2 : k ≠ 4 ∧ k ≠ 5 ∧ k ≠ 6 ∧ k ≠ 8 := by have := HKL.out; omega
  have RES : Hid (stE l no = 6 ∧ stA wd l no = 0 ∧ stL l no = noL) := hide (by
    have h1 : stE l no = 6 := by unfold stE; rw [if_neg hk]
    exact ⟨h1, by unfold stA; rw [if_neg (by omega)], by unfold stL; rw [if_neg (by omega)]⟩)
  have d4 : (k == 4) = false := by simp [hk2]
  have d5 : (k == 5) = false := by simp [hk2]
  have d6 : (k == 6) = false := by simp [hk2]
  have d8 : (k == 8) = false := by simp [hk2]
  clear hk hk2
  have Q22 := hide (Q.refl w2)
  obtain ⟨k0, k1, k2, k3, t0, t1⟩ := KA.out w2 Q22.out
  go_enter Try.func74, Try.ntmps74
  go_upto_region 1 with fail
  rw [HW2.out]
  have z0 := (Q22.out.facts.1 _ 0 hb2).trans Z0.out
  have z1 := (Q22.out.facts.1 _ 1 hb2).trans Z1.out
  have z2 := (Q22.out.facts.1 _ 2 hb2).trans Z2.out
  have z3 := (Q22.out.facts.1 _ 3 hb2).trans Z3.out
  have z4 := (Q22.out.facts.1 _ 4 hb2).trans Z4.out
  have y0 := (Q22.out.facts.2.1 _ 0 hb2).trans Y0.out
  have y1 := (Q22.out.facts.2.1 _ 1 hb2).trans Y1.out
  have y2 := (Q22.out.facts.2.1 _ 2 hb2).trans Y2.out
  have y3 := (Q22.out.facts.2.1 _ 3 hb2).trans Y3.out
  have y4 := (Q22.out.facts.2.1 _ 4 hb2).trans Y4.out
  have HS5 := hide (set5c (.int .i64 0) (.int .i64 0) (.int .i64 0) (.bool false) (.slice none 0 0) z0 z1 z2 z3 z4 _ rfl)
  have HQS := hide (q_set5 (b := W.heap.size + 2) (.int .i64 0) (.int .i64 0) (.int .i64 0) (.bool false) (.slice none 0 0) (HQ2.out.trans Q22.out) (by omega))
  go_wp2_with fail
  obtain ⟨s0, s1, s2, s3, s4⟩ := HS5.out
  refine bodyPost_ret (v := .tuple #[.agg #[.int .i64 0, .int .i64 0, .int .i64 0, .bool false, .slice none 0 0], .int .i64 6]) (by simp [results, Try.results74, go_sem, s0, s1, s2, s3, s4]) rfl ?_
  exact ⟨by rw [RES.out.1, RES.out.2.1, RES.out.2.2] <;> rfl, HQS.out⟩
set_option maxRecDepth 100000 in
set_option maxHeartbeats 2000000 in
theorem step_lo4 {w : World} {l : Lay} (h : LayR w l) (hc : l.count ≤ 1048576) (wd : Int) (b : Bool) (ho : Okw wd l) (no : Int) (hk : l.k = 4) (hn : no < 0) : ∀ W, Q w W → Calls Try.prog 74 #[l.v, tgW wd b, .int .i64 no] W (R1 W (.tuple #[plcV (stA wd l (no)) (stL l (no)), .int .i64 (stE l (no))])) := by
  intro W hqW
  unfold R1
  obtain ⟨k, n, f, A, len, cap, hlv⟩ : ∃ k n f A len cap, l.v = .agg #[.int .i64 k, .int .i64 n, .bool f, .slice A len cap] := by cases l; exact ⟨_, _, _, _, _, _, rfl⟩
  have hkk : k = 4 := by rw [show l.k = k by cases l; injection hlv with e; simp at e; exact e.1] at hk; exact hk
  subst hkk
  have HLV := hide hlv
  rw [hlv]
  clear hlv
  obtain ⟨w2, hw2⟩ : ∃ w2, ((W.alloc (.cells #[.int .i64 4, .int .i64 n, .bool f, .slice A len cap] 24)).alloc (.cells #[.int .i64 wd, .bool b] 26)).alloc (.cells #[.int .i64 0, .int .i64 0, .int .i64 0, .bool false, .slice none 0 0] 107) = w2 := ⟨_, rfl⟩
  obtain ⟨hq2, hs2, hc2, hd2, he2⟩ := box3 hw2
  have hb0 : W.heap.size < w2.heap.size := by omega
  have hb1 : W.heap.size + 1 < w2.heap.size := by omega
  have hb2 : W.heap.size + 2 < w2.heap.size := by omega
  have KA : Hid (∀ X, Q w2 X → X.cell? ⟨W.heap.size, 0, none⟩ = some (.int .i64 4) ∧ X.cell? ⟨W.heap.size, 1, none⟩ = some (.int .i64 n) ∧ X.cell? ⟨W.heap.size, 2, none⟩ = some (.bool f) ∧ X.cell? ⟨W.heap.size, 3, none⟩ = some (.slice A len cap) ∧ X.cell? ⟨W.heap.size + 1, 0, none⟩ = some (.int .i64 wd) ∧ X.cell? ⟨W.heap.size + 1, 1, none⟩ = some (.bool b)) := hide fun X hX => ⟨(hX.facts.1 _ 0 hb0).trans (hc2 0 _ rfl), (hX.facts.1 _ 1 hb0).trans (hc2 1 _ rfl), (hX.facts.1 _ 2 hb0).trans (hc2 2 _ rfl), (hX.facts.1 _ 3 hb0).trans (hc2 3 _ rfl), (hX.facts.1 _ 0 hb1).trans (hd2 0 _ rfl), (hX.facts.1 _ 1 hb1).trans (hd2 1 _ rfl)⟩
  have Z0 := hide (he2 0 _ rfl)
  have Z1 := hide (he2 1 _ rfl)
  have Z2 := hide (he2 2 _ rfl)
  have Z3 := hide (he2 3 _ rfl)
  have Z4 := hide (he2 4 _ rfl)
  have kb : w2.heap[W.heap.size + 2]? = some (.cells #[.int .i64 0, .int .i64 0, .int .i64 0, .bool false, .slice none 0 0] 107 (0, 0)) := by
    have h9 := heap_alloc_new ((W.alloc (.cells #[.int .i64 4, .int .i64 n, .bool f, .slice A len cap] 24)).alloc (.cells #[.int .i64 wd, .bool b] 26)) (.cells #[.int .i64 0, .int .i64 0, .int .i64 0, .bool false, .slice none 0 0] 107)
    rw [hw2] at h9
    simpa using h9
  have Y0 := hide (frz_new (j := 0) kb)
  have Y1 := hide (frz_new (j := 1) kb)
  have Y2 := hide (frz_new (j := 2) kb)
  have Y3 := hide (frz_new (j := 3) kb)
  have Y4 := hide (frz_new (j := 4) kb)
  have KB := hide kb
  clear kb
  have HW2 := hide hw2
  have HWQ := hide (hqW.trans hq2)
  have HQ2 := hide hq2
  have H := hide h
  clear h hw2 hq2 hqW hc2 hd2 he2
  have RES : Hid (stE l no = 4 ∧ stA wd l no = 0 ∧ stL l no = noL) := hide (by
    have h1 : stE l no = 4 := by unfold stE; rw [if_pos (by omega), if_pos (by omega)]
    exact ⟨h1, by unfold stA; rw [if_neg (by omega)], by unfold stL; rw [if_neg (by omega)]⟩)
  obtain ⟨np, hnp⟩ : ∃ np, numP l = np := ⟨_, rfl⟩
  have HPLC := hide (places_any H.out hc wd b ho)
  rw [HLV.out, hnp] at HPLC
  have dn : decide (no < 0) = true := by simp [hn]
  clear hk hn hnp
  have Q22 := hide (Q.refl w2)
  obtain ⟨k0, k1, k2, k3, t0, t1⟩ := KA.out w2 Q22.out
  go_enter Try.func74, Try.ntmps74
  go_upto_region 1 with fail
  rw [HW2.out]
  go_wp2_with fail
  refine (HPLC.out w2 HWQ.out).mono ?_
  rintro e w3 ⟨vp, rfl, hop, hq3⟩
  obtain ⟨Ap, cp, rfl, -, -, -, -⟩ := own_form hop
  have Q23 := hide hq3
  clear k0 k1 k2 k3 t0 t1 hop hq3
  have z0 := (Q23.out.facts.1 _ 0 hb2).trans Z0.out
  have z1 := (Q23.out.facts.1 _ 1 hb2).trans Z1.out
  have z2 := (Q23.out.facts.1 _ 2 hb2).trans Z2.out
  have z3 := (Q23.out.facts.1 _ 3 hb2).trans Z3.out
  have z4 := (Q23.out.facts.1 _ 4 hb2).trans Z4.out
  have y0 := (Q23.out.facts.2.1 _ 0 hb2).trans Y0.out
  have y1 := (Q23.out.facts.2.1 _ 1 hb2).trans Y1.out
  have y2 := (Q23.out.facts.2.1 _ 2 hb2).trans Y2.out
  have y3 := (Q23.out.facts.2.1 _ 3 hb2).trans Y3.out
  have y4 := (Q23.out.facts.2.1 _ 4 hb2).trans Y4.out
  have HS5 := hide (set5c (.int .i64 0) (.int .i64 0) (.int .i64 0) (.bool false) (.slice none 0 0) z0 z1 z2 z3 z4 _ rfl)
  have HQS := hide (q_set5 (b := W.heap.size + 2) (.int .i64 0) (.int .i64 0) (.int .i64 0) (.bool false) (.slice none 0 0) (HQ2.out.trans Q23.out) (by omega))
  go_wp2_with fail
  obtain ⟨s0, s1, s2, s3, s4⟩ := HS5.out
  refine bodyPost_ret (v := .tuple #[.agg #[.int .i64 0, .int .i64 0, .int .i64 0, .bool false, .slice none 0 0], .int .i64 4]) (by simp [results, Try.results74, go_sem, s0, s1, s2, s3, s4]) rfl ?_
  exact ⟨by rw [RES.out.1, RES.out.2.1, RES.out.2.2] <;> rfl, HQS.out⟩
set_option maxRecDepth 100000 in
set_option maxHeartbeats 2000000 in
theorem step_hi4 {w : World} {l : Lay} (h : LayR w l) (hc : l.count ≤ 1048576) (wd : Int) (b : Bool) (ho : Okw wd l) (no : Int) (hk : l.k = 4) (hn : 0 ≤ no ∧ (numP l : Int) ≤ no) : ∀ W, Q w W → Calls Try.prog 74 #[l.v, tgW wd b, .int .i64 no] W (R1 W (.tuple #[plcV (stA wd l (no)) (stL l (no)), .int .i64 (stE l (no))])) := by
  intro W hqW
  unfold R1
  obtain ⟨k, n, f, A, len, cap, hlv⟩ : ∃ k n f A len cap, l.v = .agg #[.int .i64 k, .int .i64 n, .bool f, .slice A len cap] := by cases l; exact ⟨_, _, _, _, _, _, rfl⟩
  have hkk : k = 4 := by rw [show l.k = k by cases l; injection hlv with e; simp at e; exact e.1] at hk; exact hk
  subst hkk
  have HLV := hide hlv
  rw [hlv]
  clear hlv
  obtain ⟨w2, hw2⟩ : ∃ w2, ((W.alloc (.cells #[.int .i64 4, .int .i64 n, .bool f, .slice A len cap] 24)).alloc (.cells #[.int .i64 wd, .bool b] 26)).alloc (.cells #[.int .i64 0, .int .i64 0, .int .i64 0, .bool false, .slice none 0 0] 107) = w2 := ⟨_, rfl⟩
  obtain ⟨hq2, hs2, hc2, hd2, he2⟩ := box3 hw2
  have hb0 : W.heap.size < w2.heap.size := by omega
  have hb1 : W.heap.size + 1 < w2.heap.size := by omega
  have hb2 : W.heap.size + 2 < w2.heap.size := by omega
  have KA : Hid (∀ X, Q w2 X → X.cell? ⟨W.heap.size, 0, none⟩ = some (.int .i64 4) ∧ X.cell? ⟨W.heap.size, 1, none⟩ = some (.int .i64 n) ∧ X.cell? ⟨W.heap.size, 2, none⟩ = some (.bool f) ∧ X.cell? ⟨W.heap.size, 3, none⟩ = some (.slice A len cap) ∧ X.cell? ⟨W.heap.size + 1, 0, none⟩ = some (.int .i64 wd) ∧ X.cell? ⟨W.heap.size + 1, 1, none⟩ = some (.bool b)) := hide fun X hX => ⟨(hX.facts.1 _ 0 hb0).trans (hc2 0 _ rfl), (hX.facts.1 _ 1 hb0).trans (hc2 1 _ rfl), (hX.facts.1 _ 2 hb0).trans (hc2 2 _ rfl), (hX.facts.1 _ 3 hb0).trans (hc2 3 _ rfl), (hX.facts.1 _ 0 hb1).trans (hd2 0 _ rfl), (hX.facts.1 _ 1 hb1).trans (hd2 1 _ rfl)⟩
  have Z0 := hide (he2 0 _ rfl)
  have Z1 := hide (he2 1 _ rfl)
  have Z2 := hide (he2 2 _ rfl)
  have Z3 := hide (he2 3 _ rfl)
  have Z4 := hide (he2 4 _ rfl)
  have kb : w2.heap[W.heap.size + 2]? = some (.cells #[.int .i64 0, .int .i64 0, .int .i64 0, .bool false, .slice none 0 0] 107 (0, 0)) := by
    have h9 := heap_alloc_new ((W.alloc (.cells #[.int .i64 4, .int .i64 n, .bool f, .slice A len cap] 24)).alloc (.cells #[.int .i64 wd, .bool b] 26)) (.cells #[.int .i64 0, .int .i64 0, .int .i64 0, .bool false, .slice none 0 0] 107)
    rw [hw2] at h9
    simpa using h9
  have Y0 := hide (frz_new (j := 0) kb)
  have Y1 := hide (frz_new (j := 1) kb)
  have Y2 := hide (frz_new (j := 2) kb)
  have Y3 := hide (frz_new (j := 3) kb)
  have Y4 := hide (frz_new (j := 4) kb)
  have KB := hide kb
  clear kb
  have HW2 := hide hw2
  have HWQ := hide (hqW.trans hq2)
  have HQ2 := hide hq2
  have H := hide h
  clear h hw2 hq2 hqW hc2 hd2 he2
  have RES : Hid (stE l no = 4 ∧ stA wd l no = 0 ∧ stL l no = noL) := hide (by
    have h1 : stE l no = 4 := by unfold stE; rw [if_pos (by omega), if_pos (by omega)]
    exact ⟨h1, by unfold stA; rw [if_neg (by omega)], by unfold stL; rw [if_neg (by omega)]⟩)
  obtain ⟨np, hnp⟩ : ∃ np, numP l = np := ⟨_, rfl⟩
  have HPLC := hide (places_any H.out hc wd b ho)
  rw [HLV.out, hnp] at HPLC
  rw [hnp] at hn
  have dn : decide (no < 0) = false := by simp; omega
  have dm : decide ((np : Int) ≤ no) = true := by simp; omega
  clear hk hn hnp
  have Q22 := hide (Q.refl w2)
  obtain ⟨k0, k1, k2, k3, t0, t1⟩ := KA.out w2 Q22.out
  go_enter Try.func74, Try.ntmps74
  go_upto_region 1 with fail
  rw [HW2.out]
  go_wp2_with fail
  refine (HPLC.out w2 HWQ.out).mono ?_
  rintro e w3 ⟨vp, rfl, hop, hq3⟩
  obtain ⟨Ap, cp, rfl, -, -, -, -⟩ := own_form hop
  have Q23 := hide hq3
  clear k0 k1 k2 k3 t0 t1 hop hq3
  have z0 := (Q23.out.facts.1 _ 0 hb2).trans Z0.out
  have z1 := (Q23.out.facts.1 _ 1 hb2).trans Z1.out
  have z2 := (Q23.out.facts.1 _ 2 hb2).trans Z2.out
  have z3 := (Q23.out.facts.1 _ 3 hb2).trans Z3.out
  have z4 := (Q23.out.facts.1 _ 4 hb2).trans Z4.out
  have y0 := (Q23.out.facts.2.1 _ 0 hb2).trans Y0.out
  have y1 := (Q23.out.facts.2.1 _ 1 hb2).trans Y1.out
  have y2 := (Q23.out.facts.2.1 _ 2 hb2).trans Y2.out
  have y3 := (Q23.out.facts.2.1 _ 3 hb2).trans Y3.out
  have y4 := (Q23.out.facts.2.1 _ 4 hb2).trans Y4.out
  have HS5 := hide (set5c (.int .i64 0) (.int .i64 0) (.int .i64 0) (.bool false) (.slice none 0 0) z0 z1 z2 z3 z4 _ rfl)
  have HQS := hide (q_set5 (b := W.heap.size + 2) (.int .i64 0) (.int .i64 0) (.int .i64 0) (.bool false) (.slice none 0 0) (HQ2.out.trans Q23.out) (by omega))
  go_wp2_with fail
  obtain ⟨s0, s1, s2, s3, s4⟩ := HS5.out
  refine bodyPost_ret (v := .tuple #[.agg #[.int .i64 0, .int .i64 0, .int .i64 0, .bool false, .slice none 0 0], .int .i64 4]) (by simp [results, Try.results74, go_sem, s0, s1, s2, s3, s4]) rfl ?_
  exact ⟨by rw [RES.out.1, RES.out.2.1, RES.out.2.2] <;> rfl, HQS.out⟩
set_option maxRecDepth 100000 in
set_option maxHeartbeats 2000000 in
theorem step_in4 {w : World} {l : Lay} (h : LayR w l) (hc : l.count ≤ 1048576) (wd : Int) (b : Bool) (ho : Okw wd l) (no : Nat) (hk : l.k = 4) (hn : no < numP l) : ∀ W, Q w W → Calls Try.prog 74 #[l.v, tgW wd b, .int .i64 (no : Int)] W (R1 W (.tuple #[plcV (stA wd l (no : Int)) (stL l (no : Int)), .int .i64 (stE l (no : Int))])) := by
  intro W hqW
  unfold R1
  obtain ⟨k, n, f, A, len, cap, hlv⟩ : ∃ k n f A len cap, l.v = .agg #[.int .i64 k, .int .i64 n, .bool f, .slice A len cap] := by cases l; exact ⟨_, _, _, _, _, _, rfl⟩
  have hkk : k = 4 := by rw [show l.k = k by cases l; injection hlv with e; simp at e; exact e.1] at hk; exact hk
  subst hkk
  have HLV := hide hlv
  rw [hlv]
  clear hlv
  obtain ⟨w2, hw2⟩ : ∃ w2, ((W.alloc (.cells #[.int .i64 4, .int .i64 n, .bool f, .slice A len cap] 24)).alloc (.cells #[.int .i64 wd, .bool b] 26)).alloc (.cells #[.int .i64 0, .int .i64 0, .int .i64 0, .bool false, .slice none 0 0] 107) = w2 := ⟨_, rfl⟩
  obtain ⟨hq2, hs2, hc2, hd2, he2⟩ := box3 hw2
  have hb0 : W.heap.size < w2.heap.size := by omega
  have hb1 : W.heap.size + 1 < w2.heap.size := by omega
  have hb2 : W.heap.size + 2 < w2.heap.size := by omega
  have KA : Hid (∀ X, Q w2 X → X.cell? ⟨W.heap.size, 0, none⟩ = some (.int .i64 4) ∧ X.cell? ⟨W.heap.size, 1, none⟩ = some (.int .i64 n) ∧ X.cell? ⟨W.heap.size, 2, none⟩ = some (.bool f) ∧ X.cell? ⟨W.heap.size, 3, none⟩ = some (.slice A len cap) ∧ X.cell? ⟨W.heap.size + 1, 0, none⟩ = some (.int .i64 wd) ∧ X.cell? ⟨W.heap.size + 1, 1, none⟩ = some (.bool b)) := hide fun X hX => ⟨(hX.facts.1 _ 0 hb0).trans (hc2 0 _ rfl), (hX.facts.1 _ 1 hb0).trans (hc2 1 _ rfl), (hX.facts.1 _ 2 hb0).trans (hc2 2 _ rfl), (hX.facts.1 _ 3 hb0).trans (hc2 3 _ rfl), (hX.facts.1 _ 0 hb1).trans (hd2 0 _ rfl), (hX.facts.1 _ 1 hb1).trans (hd2 1 _ rfl)⟩
  have Z0 := hide (he2 0 _ rfl)
  have Z1 := hide (he2 1 _ rfl)
  have Z2 := hide (he2 2 _ rfl)
  have Z3 := hide (he2 3 _ rfl)
  have Z4 := hide (he2 4 _ rfl)
  have kb : w2.heap[W.heap.size + 2]? = some (.cells #[.int .i64 0, .int .i64 0, .int .i64 0, .bool false, .slice none 0 0] 107 (0, 0)) := by
    have h9 := heap_alloc_new ((W.alloc (.cells #[.int .i64 4, .int .i64 n, .bool f, .slice A len cap] 24)).alloc (.cells #[.int .i64 wd, .bool b] 26)) (.cells #[.int .i64 0, .int .i64 0, .int .i64 0, .bool false, .slice none 0 0] 107)
    rw [hw2] at h9
    simpa using h9
  have Y0 := hide (frz_new (j := 0) kb)
  have Y1 := hide (frz_new (j := 1) kb)
  have Y2 := hide (frz_new (j := 2) kb)
  have Y3 := hide (frz_new (j := 3) kb)
  have Y4 := hide (frz_new (j := 4) kb)
  have KB := hide kb
  clear kb
  have HW2 := hide hw2
  have HWQ := hide (hqW.trans hq2)
  have HQ2 := hide hq2
  have H := hide h
  clear h hw2 hq2 hqW hc2 hd2 he2
  have hst0 : stE l (no : Int) = 0 := by unfold stE; rw [if_pos (by omega), if_neg (by omega)]
  have RES : Hid (stE l (no : Int) = 0 ∧ stA wd l (no : Int) = atL wd l no ∧ stL l (no : Int) = subL l no) := hide ⟨hst0, by unfold stA; rw [if_pos hst0, Int.toNat_natCast], by unfold stL; rw [if_pos hst0, Int.toNat_natCast]⟩
  obtain ⟨np, hnp⟩ : ∃ np, numP l = np := ⟨_, rfl⟩
  have HPLC := hide (places_any H.out hc wd b ho)
  rw [HLV.out, hnp] at HPLC
  rw [hnp] at hn
  have dm : decide ((np : Int) ≤ (no : Int)) = false := by simp; omega
  have dm2 : decide (np ≤ no) = false := by simp; omega
  have dn : decide ((no : Int) < 0) = false := by simp <;> omega
  have hni : (no : Int) < (np : Int) := by omega
  have hn2 : ¬ np ≤ no := by omega
  obtain ⟨at9, hat9⟩ : ∃ a, atL wd l no = a := ⟨_, rfl⟩
  obtain ⟨ks, ns, fs, As, ls, cs, hsv⟩ : ∃ k n f A len cap, encL (subL l no) = [.int .i64 k, .int .i64 n, .bool f, .slice A len cap] := by cases subL l no; exact ⟨_, _, _, _, _, _, rfl⟩
  have HSV := hide hsv
  have HAT := hide hat9
  have hrow : ∀ i u, (plcC wd l no)[i]? = some u → (rowsP wd l np)[no * 5 + i]? = some u := fun i u hu => by
    unfold rowsP
    rw [show List.range np = List.range no ++ (List.range (np - no)).map (no + ·) from by rw [← List.range_add]; congr 1; omega, List.flatMap_append]
    have hl5 : ((List.range no).flatMap (plcC wd l)).length = no * 5 := by
      rw [List.length_flatMap]
      have : (List.map (fun a => (plcC wd l a).length) (List.range no)) = List.replicate no 5 := by
        rw [List.eq_replicate_iff]
        refine ⟨by simp, fun x hx => ?_⟩
        obtain ⟨y, _, rfl⟩ := List.mem_map.1 hx
        unfold plcC
        simp [len_encL]
      rw [this]
      simp
    rw [List.getElem?_append_right (by omega), hl5, show no * 5 + i - no * 5 = i by omega]
    obtain ⟨t, ht⟩ : ∃ t, np - no = t + 1 := ⟨np - no - 1, by omega⟩
    rw [ht, List.range_succ_eq_map, List.map_cons, List.flatMap_cons, Nat.add_zero, List.getElem?_append_left]
    · exact hu
    · exact (List.getElem?_eq_some_iff.1 hu).1
  unfold plcC at hrow
  rw [hat9, hsv] at hrow
  have HROW := hide hrow
  clear hk hnp hst0 hat9 hsv hrow
  have Q22 := hide (Q.refl w2)
  obtain ⟨k0, k1, k2, k3, t0, t1⟩ := KA.out w2 Q22.out
  go_enter Try.func74, Try.ntmps74
  go_upto_region 1 with fail
  rw [HW2.out]
  go_wp2_with fail
  refine (HPLC.out w2 HWQ.out).mono ?_
  rintro e w3 ⟨vp, rfl, hop, hq3⟩
  obtain ⟨gp, cp, rfl, -, hgp, -, -, hgc, -⟩ := own_at hop (by omega)
  have p0 : w3.cell? ⟨gp, no * 5, none⟩ = some (.int .i64 at9) := hgc _ _ (HROW.out 0 _ rfl)
  have p1 : w3.cell? ⟨gp, no * 5 + 1, none⟩ = some (.int .i64 ks) := hgc _ _ (HROW.out 1 _ rfl)
  have p2 : w3.cell? ⟨gp, no * 5 + 2, none⟩ = some (.int .i64 ns) := hgc _ _ (HROW.out 2 _ rfl)
  have p3 : w3.cell? ⟨gp, no * 5 + 3, none⟩ = some (.bool fs) := hgc _ _ (HROW.out 3 _ rfl)
  have p4 : w3.cell? ⟨gp, no * 5 + 4, none⟩ = some (.slice As ls cs) := hgc _ _ (HROW.out 4 _ rfl)
  have Q23 := hide hq3
  clear k0 k1 k2 k3 t0 t1 hop hq3 hgc
  have z0 := (Q23.out.facts.1 _ 0 hb2).trans Z0.out
  have z1 := (Q23.out.facts.1 _ 1 hb2).trans Z1.out
  have z2 := (Q23.out.facts.1 _ 2 hb2).trans Z2.out
  have z3 := (Q23.out.facts.1 _ 3 hb2).trans Z3.out
  have z4 := (Q23.out.facts.1 _ 4 hb2).trans Z4.out
  have y0 := (Q23.out.facts.2.1 _ 0 hb2).trans Y0.out
  have y1 := (Q23.out.facts.2.1 _ 1 hb2).trans Y1.out
  have y2 := (Q23.out.facts.2.1 _ 2 hb2).trans Y2.out
  have y3 := (Q23.out.facts.2.1 _ 3 hb2).trans Y3.out
  have y4 := (Q23.out.facts.2.1 _ 4 hb2).trans Y4.out
  have HS5 := hide (set5c (.int .i64 at9) (.int .i64 ks) (.int .i64 ns) (.bool fs) (.slice As ls cs) z0 z1 z2 z3 z4 _ rfl)
  have HQS := hide (q_set5 (b := W.heap.size + 2) (.int .i64 at9) (.int .i64 ks) (.int .i64 ns) (.bool fs) (.slice As ls cs) (HQ2.out.trans Q23.out) (by omega))
  go_wp2_with fail
  obtain ⟨s0, s1, s2, s3, s4⟩ := HS5.out
  refine bodyPost_ret (v := .tuple #[.agg #[.int .i64 at9, .int .i64 ks, .int .i64 ns, .bool fs, .slice As ls cs], .int .i64 0]) (by simp [results, Try.results74, go_sem, s0, s1, s2, s3, s4]) rfl ?_
  exact ⟨by unfold plcV; rw [RES.out.1, RES.out.2.1, RES.out.2.2, HAT.out, HSV.out] <;> rfl, HQS.out⟩
set_option maxRecDepth 100000 in
set_option maxHeartbeats 2000000 in
theorem step_lo5 {w : World} {l : Lay} (h : LayR w l) (hc : l.count ≤ 1048576) (wd : Int) (b : Bool) (ho : Okw wd l) (no : Int) (hk : l.k = 5) (hn : no < 0) : ∀ W, Q w W → Calls Try.prog 74 #[l.v, tgW wd b, .int .i64 no] W (R1 W (.tuple #[plcV (stA wd l (no)) (stL l (no)), .int .i64 (stE l (no))])) := by
  intro W hqW
  unfold R1
  obtain ⟨k, n, f, A, len, cap, hlv⟩ : ∃ k n f A len cap, l.v = .agg #[.int .i64 k, .int .i64 n, .bool f, .slice A len cap] := by cases l; exact ⟨_, _, _, _, _, _, rfl⟩
  have hkk : k = 5 := by rw [show l.k = k by cases l; injection hlv with e; simp at e; exact e.1] at hk; exact hk
  subst hkk
  have HLV := hide hlv
  rw [hlv]
  clear hlv
  obtain ⟨w2, hw2⟩ : ∃ w2, ((W.alloc (.cells #[.int .i64 5, .int .i64 n, .bool f, .slice A len cap] 24)).alloc (.cells #[.int .i64 wd, .bool b] 26)).alloc (.cells #[.int .i64 0, .int .i64 0, .int .i64 0, .bool false, .slice none 0 0] 107) = w2 := ⟨_, rfl⟩
  obtain ⟨hq2, hs2, hc2, hd2, he2⟩ := box3 hw2
  have hb0 : W.heap.size < w2.heap.size := by omega
  have hb1 : W.heap.size + 1 < w2.heap.size := by omega
  have hb2 : W.heap.size + 2 < w2.heap.size := by omega
  have KA : Hid (∀ X, Q w2 X → X.cell? ⟨W.heap.size, 0, none⟩ = some (.int .i64 5) ∧ X.cell? ⟨W.heap.size, 1, none⟩ = some (.int .i64 n) ∧ X.cell? ⟨W.heap.size, 2, none⟩ = some (.bool f) ∧ X.cell? ⟨W.heap.size, 3, none⟩ = some (.slice A len cap) ∧ X.cell? ⟨W.heap.size + 1, 0, none⟩ = some (.int .i64 wd) ∧ X.cell? ⟨W.heap.size + 1, 1, none⟩ = some (.bool b)) := hide fun X hX => ⟨(hX.facts.1 _ 0 hb0).trans (hc2 0 _ rfl), (hX.facts.1 _ 1 hb0).trans (hc2 1 _ rfl), (hX.facts.1 _ 2 hb0).trans (hc2 2 _ rfl), (hX.facts.1 _ 3 hb0).trans (hc2 3 _ rfl), (hX.facts.1 _ 0 hb1).trans (hd2 0 _ rfl), (hX.facts.1 _ 1 hb1).trans (hd2 1 _ rfl)⟩
  have Z0 := hide (he2 0 _ rfl)
  have Z1 := hide (he2 1 _ rfl)
  have Z2 := hide (he2 2 _ rfl)
  have Z3 := hide (he2 3 _ rfl)
  have Z4 := hide (he2 4 _ rfl)
  have kb : w2.heap[W.heap.size + 2]? = some (.cells #[.int .i64 0, .int .i64 0, .int .i64 0, .bool false, .slice none 0 0] 107 (0, 0)) := by
    have h9 := heap_alloc_new ((W.alloc (.cells #[.int .i64 5, .int .i64 n, .bool f, .slice A len cap] 24)).alloc (.cells #[.int .i64 wd, .bool b] 26)) (.cells #[.int .i64 0, .int .i64 0, .int .i64 0, .bool false, .slice none 0 0] 107)
    rw [hw2] at h9
    simpa using h9
  have Y0 := hide (frz_new (j := 0) kb)
  have Y1 := hide (frz_new (j := 1) kb)
  have Y2 := hide (frz_new (j := 2) kb)
  have Y3 := hide (frz_new (j := 3) kb)
  have Y4 := hide (frz_new (j := 4) kb)
  have KB := hide kb
  clear kb
  have HW2 := hide hw2
  have HWQ := hide (hqW.trans hq2)
  have HQ2 := hide hq2
  have H := hide h
  clear h hw2 hq2 hqW hc2 hd2 he2
  have RES : Hid (stE l no = 4 ∧ stA wd l no = 0 ∧ stL l no = noL) := hide (by
    have h1 : stE l no = 4 := by unfold stE; rw [if_pos (by omega), if_pos (by omega)]
    exact ⟨h1, by unfold stA; rw [if_neg (by omega)], by unfold stL; rw [if_neg (by omega)]⟩)
  obtain ⟨np, hnp⟩ : ∃ np, numP l = np := ⟨_, rfl⟩
  have HPLC := hide (places_any H.out hc wd b ho)
  rw [HLV.out, hnp] at HPLC
  have dn : decide (no < 0) = true := by simp [hn]
  clear hk hn hnp
  have Q22 := hide (Q.refl w2)
  obtain ⟨k0, k1, k2, k3, t0, t1⟩ := KA.out w2 Q22.out
  go_enter Try.func74, Try.ntmps74
  go_upto_region 1 with fail
  rw [HW2.out]
  go_wp2_with fail
  refine (HPLC.out w2 HWQ.out).mono ?_
  rintro e w3 ⟨vp, rfl, hop, hq3⟩
  obtain ⟨Ap, cp, rfl, -, -, -, -⟩ := own_form hop
  have Q23 := hide hq3
  clear k0 k1 k2 k3 t0 t1 hop hq3
  have z0 := (Q23.out.facts.1 _ 0 hb2).trans Z0.out
  have z1 := (Q23.out.facts.1 _ 1 hb2).trans Z1.out
  have z2 := (Q23.out.facts.1 _ 2 hb2).trans Z2.out
  have z3 := (Q23.out.facts.1 _ 3 hb2).trans Z3.out
  have z4 := (Q23.out.facts.1 _ 4 hb2).trans Z4.out
  have y0 := (Q23.out.facts.2.1 _ 0 hb2).trans Y0.out
  have y1 := (Q23.out.facts.2.1 _ 1 hb2).trans Y1.out
  have y2 := (Q23.out.facts.2.1 _ 2 hb2).trans Y2.out
  have y3 := (Q23.out.facts.2.1 _ 3 hb2).trans Y3.out
  have y4 := (Q23.out.facts.2.1 _ 4 hb2).trans Y4.out
  have HS5 := hide (set5c (.int .i64 0) (.int .i64 0) (.int .i64 0) (.bool false) (.slice none 0 0) z0 z1 z2 z3 z4 _ rfl)
  have HQS := hide (q_set5 (b := W.heap.size + 2) (.int .i64 0) (.int .i64 0) (.int .i64 0) (.bool false) (.slice none 0 0) (HQ2.out.trans Q23.out) (by omega))
  go_wp2_with fail
  obtain ⟨s0, s1, s2, s3, s4⟩ := HS5.out
  refine bodyPost_ret (v := .tuple #[.agg #[.int .i64 0, .int .i64 0, .int .i64 0, .bool false, .slice none 0 0], .int .i64 4]) (by simp [results, Try.results74, go_sem, s0, s1, s2, s3, s4]) rfl ?_
  exact ⟨by rw [RES.out.1, RES.out.2.1, RES.out.2.2] <;> rfl, HQS.out⟩
set_option maxRecDepth 100000 in
set_option maxHeartbeats 2000000 in
theorem step_hi5 {w : World} {l : Lay} (h : LayR w l) (hc : l.count ≤ 1048576) (wd : Int) (b : Bool) (ho : Okw wd l) (no : Int) (hk : l.k = 5) (hn : 0 ≤ no ∧ (numP l : Int) ≤ no) : ∀ W, Q w W → Calls Try.prog 74 #[l.v, tgW wd b, .int .i64 no] W (R1 W (.tuple #[plcV (stA wd l (no)) (stL l (no)), .int .i64 (stE l (no))])) := by
  intro W hqW
  unfold R1
  obtain ⟨k, n, f, A, len, cap, hlv⟩ : ∃ k n f A len cap, l.v = .agg #[.int .i64 k, .int .i64 n, .bool f, .slice A len cap] := by cases l; exact ⟨_, _, _, _, _, _, rfl⟩
  have hkk : k = 5 := by rw [show l.k = k by cases l; injection hlv with e; simp at e; exact e.1] at hk; exact hk
  subst hkk
  have HLV := hide hlv
  rw [hlv]
  clear hlv
  obtain ⟨w2, hw2⟩ : ∃ w2, ((W.alloc (.cells #[.int .i64 5, .int .i64 n, .bool f, .slice A len cap] 24)).alloc (.cells #[.int .i64 wd, .bool b] 26)).alloc (.cells #[.int .i64 0, .int .i64 0, .int .i64 0, .bool false, .slice none 0 0] 107) = w2 := ⟨_, rfl⟩
  obtain ⟨hq2, hs2, hc2, hd2, he2⟩ := box3 hw2
  have hb0 : W.heap.size < w2.heap.size := by omega
  have hb1 : W.heap.size + 1 < w2.heap.size := by omega
  have hb2 : W.heap.size + 2 < w2.heap.size := by omega
  have KA : Hid (∀ X, Q w2 X → X.cell? ⟨W.heap.size, 0, none⟩ = some (.int .i64 5) ∧ X.cell? ⟨W.heap.size, 1, none⟩ = some (.int .i64 n) ∧ X.cell? ⟨W.heap.size, 2, none⟩ = some (.bool f) ∧ X.cell? ⟨W.heap.size, 3, none⟩ = some (.slice A len cap) ∧ X.cell? ⟨W.heap.size + 1, 0, none⟩ = some (.int .i64 wd) ∧ X.cell? ⟨W.heap.size + 1, 1, none⟩ = some (.bool b)) := hide fun X hX => ⟨(hX.facts.1 _ 0 hb0).trans (hc2 0 _ rfl), (hX.facts.1 _ 1 hb0).trans (hc2 1 _ rfl), (hX.facts.1 _ 2 hb0).trans (hc2 2 _ rfl), (hX.facts.1 _ 3 hb0).trans (hc2 3 _ rfl), (hX.facts.1 _ 0 hb1).trans (hd2 0 _ rfl), (hX.facts.1 _ 1 hb1).trans (hd2 1 _ rfl)⟩
  have Z0 := hide (he2 0 _ rfl)
  have Z1 := hide (he2 1 _ rfl)
  have Z2 := hide (he2 2 _ rfl)
  have Z3 := hide (he2 3 _ rfl)
  have Z4 := hide (he2 4 _ rfl)
  have kb : w2.heap[W.heap.size + 2]? = some (.cells #[.int .i64 0, .int .i64 0, .int .i64 0, .bool false, .slice none 0 0] 107 (0, 0)) := by
    have h9 := heap_alloc_new ((W.alloc (.cells #[.int .i64 5, .int .i64 n, .bool f, .slice A len cap] 24)).alloc (.cells #[.int .i64 wd, .bool b] 26)) (.cells #[.int .i64 0, .int .i64 0, .int .i64 0, .bool false, .slice none 0 0] 107)
    rw [hw2] at h9
    simpa using h9
  have Y0 := hide (frz_new (j := 0) kb)
  have Y1 := hide (frz_new (j := 1) kb)
  have Y2 := hide (frz_new (j := 2) kb)
  have Y3 := hide (frz_new (j := 3) kb)
  have Y4 := hide (frz_new (j := 4) kb)
  have KB := hide kb
  clear kb
  have HW2 := hide hw2
  have HWQ := hide (hqW.trans hq2)
  have HQ2 := hide hq2
  have H := hide h
  clear h hw2 hq2 hqW hc2 hd2 he2
  have RES : Hid (stE l no = 4 ∧ stA wd l no = 0 ∧ stL l no = noL) := hide (by
    have h1 : stE l no = 4 := by unfold stE; rw [if_pos (by omega), if_pos (by omega)]
    exact ⟨h1, by unfold stA; rw [if_neg (by omega)], by unfold stL; rw [if_neg (by omega)]⟩)
  obtain ⟨np, hnp⟩ : ∃ np, numP l = np := ⟨_, rfl⟩
  have HPLC := hide (places_any H.out hc wd b ho)
  rw [HLV.out, hnp] at HPLC
  rw [hnp] at hn
  have dn : decide (no < 0) = false := by simp; omega
  have dm : decide ((np : Int) ≤ no) = true := by simp; omega
  clear hk hn hnp
  have Q22 := hide (Q.refl w2)
  obtain ⟨k0, k1, k2, k3, t0, t1⟩ := KA.out w2 Q22.out
  go_enter Try.func74, Try.ntmps74
  go_upto_region 1 with fail
  rw [HW2.out]
  go_wp2_with fail
  refine (HPLC.out w2 HWQ.out).mono ?_
  rintro e w3 ⟨vp, rfl, hop, hq3⟩
  obtain ⟨Ap, cp, rfl, -, -, -, -⟩ := own_form hop
  have Q23 := hide hq3
  clear k0 k1 k2 k3 t0 t1 hop hq3
  have z0 := (Q23.out.facts.1 _ 0 hb2).trans Z0.out
  have z1 := (Q23.out.facts.1 _ 1 hb2).trans Z1.out
  have z2 := (Q23.out.facts.1 _ 2 hb2).trans Z2.out
  have z3 := (Q23.out.facts.1 _ 3 hb2).trans Z3.out
  have z4 := (Q23.out.facts.1 _ 4 hb2).trans Z4.out
  have y0 := (Q23.out.facts.2.1 _ 0 hb2).trans Y0.out
  have y1 := (Q23.out.facts.2.1 _ 1 hb2).trans Y1.out
  have y2 := (Q23.out.facts.2.1 _ 2 hb2).trans Y2.out
  have y3 := (Q23.out.facts.2.1 _ 3 hb2).trans Y3.out
  have y4 := (Q23.out.facts.2.1 _ 4 hb2).trans Y4.out
  have HS5 := hide (set5c (.int .i64 0) (.int .i64 0) (.int .i64 0) (.bool false) (.slice none 0 0) z0 z1 z2 z3 z4 _ rfl)
  have HQS := hide (q_set5 (b := W.heap.size + 2) (.int .i64 0) (.int .i64 0) (.int .i64 0) (.bool false) (.slice none 0 0) (HQ2.out.trans Q23.out) (by omega))
  go_wp2_with fail
  obtain ⟨s0, s1, s2, s3, s4⟩ := HS5.out
  refine bodyPost_ret (v := .tuple #[.agg #[.int .i64 0, .int .i64 0, .int .i64 0, .bool false, .slice none 0 0], .int .i64 4]) (by simp [results, Try.results74, go_sem, s0, s1, s2, s3, s4]) rfl ?_
  exact ⟨by rw [RES.out.1, RES.out.2.1, RES.out.2.2] <;> rfl, HQS.out⟩
set_option maxRecDepth 100000 in
set_option maxHeartbeats 2000000 in
theorem step_in5 {w : World} {l : Lay} (h : LayR w l) (hc : l.count ≤ 1048576) (wd : Int) (b : Bool) (ho : Okw wd l) (no : Nat) (hk : l.k = 5) (hn : no < numP l) : ∀ W, Q w W → Calls Try.prog 74 #[l.v, tgW wd b, .int .i64 (no : Int)] W (R1 W (.tuple #[plcV (stA wd l (no : Int)) (stL l (no : Int)), .int .i64 (stE l (no : Int))])) := by
  intro W hqW
  unfold R1
  obtain ⟨k, n, f, A, len, cap, hlv⟩ : ∃ k n f A len cap, l.v = .agg #[.int .i64 k, .int .i64 n, .bool f, .slice A len cap] := by cases l; exact ⟨_, _, _, _, _, _, rfl⟩
  have hkk : k = 5 := by rw [show l.k = k by cases l; injection hlv with e; simp at e; exact e.1] at hk; exact hk
  subst hkk
  have HLV := hide hlv
  rw [hlv]
  clear hlv
  obtain ⟨w2, hw2⟩ : ∃ w2, ((W.alloc (.cells #[.int .i64 5, .int .i64 n, .bool f, .slice A len cap] 24)).alloc (.cells #[.int .i64 wd, .bool b] 26)).alloc (.cells #[.int .i64 0, .int .i64 0, .int .i64 0, .bool false, .slice none 0 0] 107) = w2 := ⟨_, rfl⟩
  obtain ⟨hq2, hs2, hc2, hd2, he2⟩ := box3 hw2
  have hb0 : W.heap.size < w2.heap.size := by omega
  have hb1 : W.heap.size + 1 < w2.heap.size := by omega
  have hb2 : W.heap.size + 2 < w2.heap.size := by omega
  have KA : Hid (∀ X, Q w2 X → X.cell? ⟨W.heap.size, 0, none⟩ = some (.int .i64 5) ∧ X.cell? ⟨W.heap.size, 1, none⟩ = some (.int .i64 n) ∧ X.cell? ⟨W.heap.size, 2, none⟩ = some (.bool f) ∧ X.cell? ⟨W.heap.size, 3, none⟩ = some (.slice A len cap) ∧ X.cell? ⟨W.heap.size + 1, 0, none⟩ = some (.int .i64 wd) ∧ X.cell? ⟨W.heap.size + 1, 1, none⟩ = some (.bool b)) := hide fun X hX => ⟨(hX.facts.1 _ 0 hb0).trans (hc2 0 _ rfl), (hX.facts.1 _ 1 hb0).trans (hc2 1 _ rfl), (hX.facts.1 _ 2 hb0).trans (hc2 2 _ rfl), (hX.facts.1 _ 3 hb0).trans (hc2 3 _ rfl), (hX.facts.1 _ 0 hb1).trans (hd2 0 _ rfl), (hX.facts.1 _ 1 hb1).trans (hd2 1 _ rfl)⟩
  have Z0 := hide (he2 0 _ rfl)
  have Z1 := hide (he2 1 _ rfl)
  have Z2 := hide (he2 2 _ rfl)
  have Z3 := hide (he2 3 _ rfl)
  have Z4 := hide (he2 4 _ rfl)
  have kb : w2.heap[W.heap.size + 2]? = some (.cells #[.int .i64 0, .int .i64 0, .int .i64 0, .bool false, .slice none 0 0] 107 (0, 0)) := by
    have h9 := heap_alloc_new ((W.alloc (.cells #[.int .i64 5, .int .i64 n, .bool f, .slice A len cap] 24)).alloc (.cells #[.int .i64 wd, .bool b] 26)) (.cells #[.int .i64 0, .int .i64 0, .int .i64 0, .bool false, .slice none 0 0] 107)
    rw [hw2] at h9
    simpa using h9
  have Y0 := hide (frz_new (j := 0) kb)
  have Y1 := hide (frz_new (j := 1) kb)
  have Y2 := hide (frz_new (j := 2) kb)
  have Y3 := hide (frz_new (j := 3) kb)
  have Y4 := hide (frz_new (j := 4) kb)
  have KB := hide kb
  clear kb
  have HW2 := hide hw2
  have HWQ := hide (hqW.trans hq2)
  have HQ2 := hide hq2
  have H := hide h
  clear h hw2 hq2 hqW hc2 hd2 he2
  have hst0 : stE l (no : Int) = 0 := by unfold stE; rw [if_pos (by omega), if_neg (by omega)]
  have RES : Hid (stE l (no : Int) = 0 ∧ stA wd l (no : Int) = atL wd l no ∧ stL l (no : Int) = subL l no) := hide ⟨hst0, by unfold stA; rw [if_pos hst0, Int.toNat_natCast], by unfold stL; rw [if_pos hst0, Int.toNat_natCast]⟩
  obtain ⟨np, hnp⟩ : ∃ np, numP l = np := ⟨_, rfl⟩
  have HPLC := hide (places_any H.out hc wd b ho)
  rw [HLV.out, hnp] at HPLC
  rw [hnp] at hn
  have dm : decide ((np : Int) ≤ (no : Int)) = false := by simp; omega
  have dm2 : decide (np ≤ no) = false := by simp; omega
  have dn : decide ((no : Int) < 0) = false := by simp <;> omega
  have hni : (no : Int) < (np : Int) := by omega
  have hn2 : ¬ np ≤ no := by omega
  obtain ⟨at9, hat9⟩ : ∃ a, atL wd l no = a := ⟨_, rfl⟩
  obtain ⟨ks, ns, fs, As, ls, cs, hsv⟩ : ∃ k n f A len cap, encL (subL l no) = [.int .i64 k, .int .i64 n, .bool f, .slice A len cap] := by cases subL l no; exact ⟨_, _, _, _, _, _, rfl⟩
  have HSV := hide hsv
  have HAT := hide hat9
  have hrow : ∀ i u, (plcC wd l no)[i]? = some u → (rowsP wd l np)[no * 5 + i]? = some u := fun i u hu => by
    unfold rowsP
    rw [show List.range np = List.range no ++ (List.range (np - no)).map (no + ·) from by rw [← List.range_add]; congr 1; omega, List.flatMap_append]
    have hl5 : ((List.range no).flatMap (plcC wd l)).length = no * 5 := by
      rw [List.length_flatMap]
      have : (List.map (fun a => (plcC wd l a).length) (List.range no)) = List.replicate no 5 := by
        rw [List.eq_replicate_iff]
        refine ⟨by simp, fun x hx => ?_⟩
        obtain ⟨y, _, rfl⟩ := List.mem_map.1 hx
        unfold plcC
        simp [len_encL]
      rw [this]
      simp
    rw [List.getElem?_append_right (by omega), hl5, show no * 5 + i - no * 5 = i by omega]
    obtain ⟨t, ht⟩ : ∃ t, np - no = t + 1 := ⟨np - no - 1, by omega⟩
    rw [ht, List.range_succ_eq_map, List.map_cons, List.flatMap_cons, Nat.add_zero, List.getElem?_append_left]
    · exact hu
    · exact (List.getElem?_eq_some_iff.1 hu).1
  unfold plcC at hrow
  rw [hat9, hsv] at hrow
  have HROW := hide hrow
  clear hk hnp hst0 hat9 hsv hrow
  have Q22 := hide (Q.refl w2)
  obtain ⟨k0, k1, k2, k3, t0, t1⟩ := KA.out w2 Q22.out
  go_enter Try.func74, Try.ntmps74
  go_upto_region 1 with fail
  rw [HW2.out]
  go_wp2_with fail
  refine (HPLC.out w2 HWQ.out).mono ?_
  rintro e w3 ⟨vp, rfl, hop, hq3⟩
  obtain ⟨gp, cp, rfl, -, hgp, -, -, hgc, -⟩ := own_at hop (by omega)
  have p0 : w3.cell? ⟨gp, no * 5, none⟩ = some (.int .i64 at9) := hgc _ _ (HROW.out 0 _ rfl)
  have p1 : w3.cell? ⟨gp, no * 5 + 1, none⟩ = some (.int .i64 ks) := hgc _ _ (HROW.out 1 _ rfl)
  have p2 : w3.cell? ⟨gp, no * 5 + 2, none⟩ = some (.int .i64 ns) := hgc _ _ (HROW.out 2 _ rfl)
  have p3 : w3.cell? ⟨gp, no * 5 + 3, none⟩ = some (.bool fs) := hgc _ _ (HROW.out 3 _ rfl)
  have p4 : w3.cell? ⟨gp, no * 5 + 4, none⟩ = some (.slice As ls cs) := hgc _ _ (HROW.out 4 _ rfl)
  have Q23 := hide hq3
  clear k0 k1 k2 k3 t0 t1 hop hq3 hgc
  have z0 := (Q23.out.facts.1 _ 0 hb2).trans Z0.out
  have z1 := (Q23.out.facts.1 _ 1 hb2).trans Z1.out
  have z2 := (Q23.out.facts.1 _ 2 hb2).trans Z2.out
  have z3 := (Q23.out.facts.1 _ 3 hb2).trans Z3.out
  have z4 := (Q23.out.facts.1 _ 4 hb2).trans Z4.out
  have y0 := (Q23.out.facts.2.1 _ 0 hb2).trans Y0.out
  have y1 := (Q23.out.facts.2.1 _ 1 hb2).trans Y1.out
  have y2 := (Q23.out.facts.2.1 _ 2 hb2).trans Y2.out
  have y3 := (Q23.out.facts.2.1 _ 3 hb2).trans Y3.out
  have y4 := (Q23.out.facts.2.1 _ 4 hb2).trans Y4.out
  have HS5 := hide (set5c (.int .i64 at9) (.int .i64 ks) (.int .i64 ns) (.bool fs) (.slice As ls cs) z0 z1 z2 z3 z4 _ rfl)
  have HQS := hide (q_set5 (b := W.heap.size + 2) (.int .i64 at9) (.int .i64 ks) (.int .i64 ns) (.bool fs) (.slice As ls cs) (HQ2.out.trans Q23.out) (by omega))
  go_wp2_with fail
  obtain ⟨s0, s1, s2, s3, s4⟩ := HS5.out
  refine bodyPost_ret (v := .tuple #[.agg #[.int .i64 at9, .int .i64 ks, .int .i64 ns, .bool fs, .slice As ls cs], .int .i64 0]) (by simp [results, Try.results74, go_sem, s0, s1, s2, s3, s4]) rfl ?_
  exact ⟨by unfold plcV; rw [RES.out.1, RES.out.2.1, RES.out.2.2, HAT.out, HSV.out] <;> rfl, HQS.out⟩
set_option maxRecDepth 100000 in
set_option maxHeartbeats 2000000 in
theorem step_lo6 {w : World} {l : Lay} (h : LayR w l) (hc : l.count ≤ 1048576) (wd : Int) (b : Bool) (ho : Okw wd l) (no : Int) (hk : l.k = 6) (hn : no < 0) : ∀ W, Q w W → Calls Try.prog 74 #[l.v, tgW wd b, .int .i64 no] W (R1 W (.tuple #[plcV (stA wd l (no)) (stL l (no)), .int .i64 (stE l (no))])) := by
  intro W hqW
  unfold R1
  obtain ⟨k, n, f, A, len, cap, hlv⟩ : ∃ k n f A len cap, l.v = .agg #[.int .i64 k, .int .i64 n, .bool f, .slice A len cap] := by cases l; exact ⟨_, _, _, _, _, _, rfl⟩
  have hkk : k = 6 := by rw [show l.k = k by cases l; injection hlv with e; simp at e; exact e.1] at hk; exact hk
  subst hkk
  have HLV := hide hlv
  rw [hlv]
  clear hlv
  obtain ⟨w2, hw2⟩ : ∃ w2, ((W.alloc (.cells #[.int .i64 6, .int .i64 n, .bool f, .slice A len cap] 24)).alloc (.cells #[.int .i64 wd, .bool b] 26)).alloc (.cells #[.int .i64 0, .int .i64 0, .int .i64 0, .bool false, .slice none 0 0] 107) = w2 := ⟨_, rfl⟩
  obtain ⟨hq2, hs2, hc2, hd2, he2⟩ := box3 hw2
  have hb0 : W.heap.size < w2.heap.size := by omega
  have hb1 : W.heap.size + 1 < w2.heap.size := by omega
  have hb2 : W.heap.size + 2 < w2.heap.size := by omega
  have KA : Hid (∀ X, Q w2 X → X.cell? ⟨W.heap.size, 0, none⟩ = some (.int .i64 6) ∧ X.cell? ⟨W.heap.size, 1, none⟩ = some (.int .i64 n) ∧ X.cell? ⟨W.heap.size, 2, none⟩ = some (.bool f) ∧ X.cell? ⟨W.heap.size, 3, none⟩ = some (.slice A len cap) ∧ X.cell? ⟨W.heap.size + 1, 0, none⟩ = some (.int .i64 wd) ∧ X.cell? ⟨W.heap.size + 1, 1, none⟩ = some (.bool b)) := hide fun X hX => ⟨(hX.facts.1 _ 0 hb0).trans (hc2 0 _ rfl), (hX.facts.1 _ 1 hb0).trans (hc2 1 _ rfl), (hX.facts.1 _ 2 hb0).trans (hc2 2 _ rfl), (hX.facts.1 _ 3 hb0).trans (hc2 3 _ rfl), (hX.facts.1 _ 0 hb1).trans (hd2 0 _ rfl), (hX.facts.1 _ 1 hb1).trans (hd2 1 _ rfl)⟩
  have Z0 := hide (he2 0 _ rfl)
  have Z1 := hide (he2 1 _ rfl)
  have Z2 := hide (he2 2 _ rfl)
  have Z3 := hide (he2 3 _ rfl)
  have Z4 := hide (he2 4 _ rfl)
  have kb : w2.heap[W.heap.size + 2]? = some (.cells #[.int .i64 0, .int .i64 0, .int .i64 0, .bool false, .slice none 0 0] 107 (0, 0)) := by
    have h9 := heap_alloc_new ((W.alloc (.cells #[.int .i64 6, .int .i64 n, .bool f, .slice A len cap] 24)).alloc (.cells #[.int .i64 wd, .bool b] 26)) (.cells #[.int .i64 0, .int .i64 0, .int .i64 0, .bool false, .slice none 0 0] 107)
    rw [hw2] at h9
    simpa using h9
  have Y0 := hide (frz_new (j := 0) kb)
  have Y1 := hide (frz_new (j := 1) kb)
  have Y2 := hide (frz_new (j := 2) kb)
  have Y3 := hide (frz_new (j := 3) kb)
  have Y4 := hide (frz_new (j := 4) kb)
  have KB := hide kb
  clear kb
  have HW2 := hide hw2
  have HWQ := hide (hqW.trans hq2)
  have HQ2 := hide hq2
  have H := hide h
  clear h hw2 hq2 hqW hc2 hd2 he2
  have RES : Hid (stE l no = 4 ∧ stA wd l no = 0 ∧ stL l no = noL) := hide (by
    have h1 : stE l no = 4 := by unfold stE; rw [if_pos (by omega), if_pos (by omega)]
    exact ⟨h1, by unfold stA; rw [if_neg (by omega)], by unfold stL; rw [if_neg (by omega)]⟩)
  obtain ⟨np, hnp⟩ : ∃ np, numP l = np := ⟨_, rfl⟩
  have HPLC := hide (places_any H.out hc wd b ho)
  rw [HLV.out, hnp] at HPLC
  have dn : decide (no < 0) = true := by simp [hn]
  clear hk hn hnp
  have Q22 := hide (Q.refl w2)
  obtain ⟨k0, k1, k2, k3, t0, t1⟩ := KA.out w2 Q22.out
  go_enter Try.func74, Try.ntmps74
  go_upto_region 1 with fail
  rw [HW2.out]
  go_wp2_with fail
  refine (HPLC.out w2 HWQ.out).mono ?_
  rintro e w3 ⟨vp, rfl, hop, hq3⟩
  obtain ⟨Ap, cp, rfl, -, -, -, -⟩ := own_form hop
  have Q23 := hide hq3
  clear k0 k1 k2 k3 t0 t1 hop hq3
  have z0 := (Q23.out.facts.1 _ 0 hb2).trans Z0.out
  have z1 := (Q23.out.facts.1 _ 1 hb2).trans Z1.out
  have z2 := (Q23.out.facts.1 _ 2 hb2).trans Z2.out
  have z3 := (Q23.out.facts.1 _ 3 hb2).trans Z3.out
  have z4 := (Q23.out.facts.1 _ 4 hb2).trans Z4.out
  have y0 := (Q23.out.facts.2.1 _ 0 hb2).trans Y0.out
  have y1 := (Q23.out.facts.2.1 _ 1 hb2).trans Y1.out
  have y2 := (Q23.out.facts.2.1 _ 2 hb2).trans Y2.out
  have y3 := (Q23.out.facts.2.1 _ 3 hb2).trans Y3.out
  have y4 := (Q23.out.facts.2.1 _ 4 hb2).trans Y4.out
  have HS5 := hide (set5c (.int .i64 0) (.int .i64 0) (.int .i64 0) (.bool false) (.slice none 0 0) z0 z1 z2 z3 z4 _ rfl)
  have HQS := hide (q_set5 (b := W.heap.size + 2) (.int .i64 0) (.int .i64 0) (.int .i64 0) (.bool false) (.slice none 0 0) (HQ2.out.trans Q23.out) (by omega))
  go_wp2_with fail
  obtain ⟨s0, s1, s2, s3, s4⟩ := HS5.out
  refine bodyPost_ret (v := .tuple #[.agg #[.int .i64 0, .int .i64 0, .int .i64 0, .bool false, .slice none 0 0], .int .i64 4]) (by simp [results, Try.results74, go_sem, s0, s1, s2, s3, s4]) rfl ?_
  exact ⟨by rw [RES.out.1, RES.out.2.1, RES.out.2.2] <;> rfl, HQS.out⟩
set_option maxRecDepth 100000 in
set_option maxHeartbeats 2000000 in
theorem step_hi6 {w : World} {l : Lay} (h : LayR w l) (hc : l.count ≤ 1048576) (wd : Int) (b : Bool) (ho : Okw wd l) (no : Int) (hk : l.k = 6) (hn : 0 ≤ no ∧ (numP l : Int) ≤ no) : ∀ W, Q w W → Calls Try.prog 74 #[l.v, tgW wd b, .int .i64 no] W (R1 W (.tuple #[plcV (stA wd l (no)) (stL l (no)), .int .i64 (stE l (no))])) := by
  intro W hqW
  unfold R1
  obtain ⟨k, n, f, A, len, cap, hlv⟩ : ∃ k n f A len cap, l.v = .agg #[.int .i64 k, .int .i64 n, .bool f, .slice A len cap] := by cases l; exact ⟨_, _, _, _, _, _, rfl⟩
  have hkk : k = 6 := by rw [show l.k = k by cases l; injection hlv with e; simp at e; exact e.1] at hk; exact hk
  subst hkk
  have HLV := hide hlv
  rw [hlv]
  clear hlv
  obtain ⟨w2, hw2⟩ : ∃ w2, ((W.alloc (.cells #[.int .i64 6, .int .i64 n, .bool f, .slice A len cap] 24)).alloc (.cells #[.int .i64 wd, .bool b] 26)).alloc (.cells #[.int .i64 0, .int .i64 0, .int .i64 0, .bool false, .slice none 0 0] 107) = w2 := ⟨_, rfl⟩
  obtain ⟨hq2, hs2, hc2, hd2, he2⟩ := box3 hw2
  have hb0 : W.heap.size < w2.heap.size := by omega
  have hb1 : W.heap.size + 1 < w2.heap.size := by omega
  have hb2 : W.heap.size + 2 < w2.heap.size := by omega
  have KA : Hid (∀ X, Q w2 X → X.cell? ⟨W.heap.size, 0, none⟩ = some (.int .i64 6) ∧ X.cell? ⟨W.heap.size, 1, none⟩ = some (.int .i64 n) ∧ X.cell? ⟨W.heap.size, 2, none⟩ = some (.bool f) ∧ X.cell? ⟨W.heap.size, 3, none⟩ = some (.slice A len cap) ∧ X.cell? ⟨W.heap.size + 1, 0, none⟩ = some (.int .i64 wd) ∧ X.cell? ⟨W.heap.size + 1, 1, none⟩ = some (.bool b)) := hide fun X hX => ⟨(hX.facts.1 _ 0 hb0).trans (hc2 0 _ rfl), (hX.facts.1 _ 1 hb0).trans (hc2 1 _ rfl), (hX.facts.1 _ 2 hb0).trans (hc2 2 _ rfl), (hX.facts.1 _ 3 hb0).trans (hc2 3 _ rfl), (hX.facts.1 _ 0 hb1).trans (hd2 0 _ rfl), (hX.facts.1 _ 1 hb1).trans (hd2 1 _ rfl)⟩
  have Z0 := hide (he2 0 _ rfl)
  have Z1 := hide (he2 1 _ rfl)
  have Z2 := hide (he2 2 _ rfl)
  have Z3 := hide (he2 3 _ rfl)
  have Z4 := hide (he2 4 _ rfl)
  have kb : w2.heap[W.heap.size + 2]? = some (.cells #[.int .i64 0, .int .i64 0, .int .i64 0, .bool false, .slice none 0 0] 107 (0, 0)) := by
    have h9 := heap_alloc_new ((W.alloc (.cells #[.int .i64 6, .int .i64 n, .bool f, .slice A len cap] 24)).alloc (.cells #[.int .i64 wd, .bool b] 26)) (.cells #[.int .i64 0, .int .i64 0, .int .i64 0, .bool false, .slice none 0 0] 107)
    rw [hw2] at h9
    simpa using h9
  have Y0 := hide (frz_new (j := 0) kb)
  have Y1 := hide (frz_new (j := 1) kb)
  have Y2 := hide (frz_new (j := 2) kb)
  have Y3 := hide (frz_new (j := 3) kb)
  have Y4 := hide (frz_new (j := 4) kb)
  have KB := hide kb
  clear kb
  have HW2 := hide hw2
  have HWQ := hide (hqW.trans hq2)
  have HQ2 := hide hq2
  have H := hide h
  clear h hw2 hq2 hqW hc2 hd2 he2
  have RES : Hid (stE l no = 4 ∧ stA wd l no = 0 ∧ stL l no = noL) := hide (by
    have h1 : stE l no = 4 := by unfold stE; rw [if_pos (by omega), if_pos (by omega)]
    exact ⟨h1, by unfold stA; rw [if_neg (by omega)], by unfold stL; rw [if_neg (by omega)]⟩)
  obtain ⟨np, hnp⟩ : ∃ np, numP l = np := ⟨_, rfl⟩
  have HPLC := hide (places_any H.out hc wd b ho)
  rw [HLV.out, hnp] at HPLC
  rw [hnp] at hn
  have dn : decide (no < 0) = false := by simp; omega
  have dm : decide ((np : Int) ≤ no) = true := by simp; omega
  clear hk hn hnp
  have Q22 := hide (Q.refl w2)
  obtain ⟨k0, k1, k2, k3, t0, t1⟩ := KA.out w2 Q22.out
  go_enter Try.func74, Try.ntmps74
  go_upto_region 1 with fail
  rw [HW2.out]
  go_wp2_with fail
  refine (HPLC.out w2 HWQ.out).mono ?_
  rintro e w3 ⟨vp, rfl, hop, hq3⟩
  obtain ⟨Ap, cp, rfl, -, -, -, -⟩ := own_form hop
  have Q23 := hide hq3
  clear k0 k1 k2 k3 t0 t1 hop hq3
  have z0 := (Q23.out.facts.1 _ 0 hb2).trans Z0.out
  have z1 := (Q23.out.facts.1 _ 1 hb2).trans Z1.out
  have z2 := (Q23.out.facts.1 _ 2 hb2).trans Z2.out
  have z3 := (Q23.out.facts.1 _ 3 hb2).trans Z3.out
  have z4 := (Q23.out.facts.1 _ 4 hb2).trans Z4.out
  have y0 := (Q23.out.facts.2.1 _ 0 hb2).trans Y0.out
  have y1 := (Q23.out.facts.2.1 _ 1 hb2).trans Y1.out
  have y2 := (Q23.out.facts.2.1 _ 2 hb2).trans Y2.out
  have y3 := (Q23.out.facts.2.1 _ 3 hb2).trans Y3.out
  have y4 := (Q23.out.facts.2.1 _ 4 hb2).trans Y4.out
  have HS5 := hide (set5c (.int .i64 0) (.int .i64 0) (.int .i64 0) (.bool false) (.slice none 0 0) z0 z1 z2 z3 z4 _ rfl)
  have HQS := hide (q_set5 (b := W.heap.size + 2) (.int .i64 0) (.int .i64 0) (.int .i64 0) (.bool false) (.slice none 0 0) (HQ2.out.trans Q23.out) (by omega))
  go_wp2_with fail
  obtain ⟨s0, s1, s2, s3, s4⟩ := HS5.out
  refine bodyPost_ret (v := .tuple #[.agg #[.int .i64 0, .int .i64 0, .int .i64 0, .bool false, .slice none 0 0], .int .i64 4]) (by simp [results, Try.results74, go_sem, s0, s1, s2, s3, s4]) rfl ?_
  exact ⟨by rw [RES.out.1, RES.out.2.1, RES.out.2.2] <;> rfl, HQS.out⟩
set_option maxRecDepth 100000 in
set_option maxHeartbeats 2000000 in
theorem step_in6 {w : World} {l : Lay} (h : LayR w l) (hc : l.count ≤ 1048576) (wd : Int) (b : Bool) (ho : Okw wd l) (no : Nat) (hk : l.k = 6) (hn : no < numP l) : ∀ W, Q w W → Calls Try.prog 74 #[l.v, tgW wd b, .int .i64 (no : Int)] W (R1 W (.tuple #[plcV (stA wd l (no : Int)) (stL l (no : Int)), .int .i64 (stE l (no : Int))])) := by
  intro W hqW
  unfold R1
  obtain ⟨k, n, f, A, len, cap, hlv⟩ : ∃ k n f A len cap, l.v = .agg #[.int .i64 k, .int .i64 n, .bool f, .slice A len cap] := by cases l; exact ⟨_, _, _, _, _, _, rfl⟩
  have hkk : k = 6 := by rw [show l.k = k by cases l; injection hlv with e; simp at e; exact e.1] at hk; exact hk
  subst hkk
  have HLV := hide hlv
  rw [hlv]
  clear hlv
  obtain ⟨w2, hw2⟩ : ∃ w2, ((W.alloc (.cells #[.int .i64 6, .int .i64 n, .bool f, .slice A len cap] 24)).alloc (.cells #[.int .i64 wd, .bool b] 26)).alloc (.cells #[.int .i64 0, .int .i64 0, .int .i64 0, .bool false, .slice none 0 0] 107) = w2 := ⟨_, rfl⟩
  obtain ⟨hq2, hs2, hc2, hd2, he2⟩ := box3 hw2
  have hb0 : W.heap.size < w2.heap.size := by omega
  have hb1 : W.heap.size + 1 < w2.heap.size := by omega
  have hb2 : W.heap.size + 2 < w2.heap.size := by omega
  have KA : Hid (∀ X, Q w2 X → X.cell? ⟨W.heap.size, 0, none⟩ = some (.int .i64 6) ∧ X.cell? ⟨W.heap.size, 1, none⟩ = some (.int .i64 n) ∧ X.cell? ⟨W.heap.size, 2, none⟩ = some (.bool f) ∧ X.cell? ⟨W.heap.size, 3, none⟩ = some (.slice A len cap) ∧ X.cell? ⟨W.heap.size + 1, 0, none⟩ = some (.int .i64 wd) ∧ X.cell? ⟨W.heap.size + 1, 1, none⟩ = some (.bool b)) := hide fun X hX => ⟨(hX.facts.1 _ 0 hb0).trans (hc2 0 _ rfl), (hX.facts.1 _ 1 hb0).trans (hc2 1 _ rfl), (hX.facts.1 _ 2 hb0).trans (hc2 2 _ rfl), (hX.facts.1 _ 3 hb0).trans (hc2 3 _ rfl), (hX.facts.1 _ 0 hb1).trans (hd2 0 _ rfl), (hX.facts.1 _ 1 hb1).trans (hd2 1 _ rfl)⟩
  have Z0 := hide (he2 0 _ rfl)
  have Z1 := hide (he2 1 _ rfl)
  have Z2 := hide (he2 2 _ rfl)
  have Z3 := hide (he2 3 _ rfl)
  have Z4 := hide (he2 4 _ rfl)
  have kb : w2.heap[W.heap.size + 2]? = some (.cells #[.int .i64 0, .int .i64 0, .int .i64 0, .bool false, .slice none 0 0] 107 (0, 0)) := by
    have h9 := heap_alloc_new ((W.alloc (.cells #[.int .i64 6, .int .i64 n, .bool f, .slice A len cap] 24)).alloc (.cells #[.int .i64 wd, .bool b] 26)) (.cells #[.int .i64 0, .int .i64 0, .int .i64 0, .bool false, .slice none 0 0] 107)
    rw [hw2] at h9
    simpa using h9
  have Y0 := hide (frz_new (j := 0) kb)
  have Y1 := hide (frz_new (j := 1) kb)
  have Y2 := hide (frz_new (j := 2) kb)
  have Y3 := hide (frz_new (j := 3) kb)
  have Y4 := hide (frz_new (j := 4) kb)
  have KB := hide kb
  clear kb
  have HW2 := hide hw2
  have HWQ := hide (hqW.trans hq2)
  have HQ2 := hide hq2
  have H := hide h
  clear h hw2 hq2 hqW hc2 hd2 he2
  have hst0 : stE l (no : Int) = 0 := by unfold stE; rw [if_pos (by omega), if_neg (by omega)]
  have RES : Hid (stE l (no : Int) = 0 ∧ stA wd l (no : Int) = atL wd l no ∧ stL l (no : Int) = subL l no) := hide ⟨hst0, by unfold stA; rw [if_pos hst0, Int.toNat_natCast], by unfold stL; rw [if_pos hst0, Int.toNat_natCast]⟩
  obtain ⟨np, hnp⟩ : ∃ np, numP l = np := ⟨_, rfl⟩
  have HPLC := hide (places_any H.out hc wd b ho)
  rw [HLV.out, hnp] at HPLC
  rw [hnp] at hn
  have dm : decide ((np : Int) ≤ (no : Int)) = false := by simp; omega
  have dm2 : decide (np ≤ no) = false := by simp; omega
  have dn : decide ((no : Int) < 0) = false := by simp <;> omega
  have hni : (no : Int) < (np : Int) := by omega
  have hn2 : ¬ np ≤ no := by omega
  obtain ⟨at9, hat9⟩ : ∃ a, atL wd l no = a := ⟨_, rfl⟩
  obtain ⟨ks, ns, fs, As, ls, cs, hsv⟩ : ∃ k n f A len cap, encL (subL l no) = [.int .i64 k, .int .i64 n, .bool f, .slice A len cap] := by cases subL l no; exact ⟨_, _, _, _, _, _, rfl⟩
  have HSV := hide hsv
  have HAT := hide hat9
  have hrow : ∀ i u, (plcC wd l no)[i]? = some u → (rowsP wd l np)[no * 5 + i]? = some u := fun i u hu => by
    unfold rowsP
    rw [show List.range np = List.range no ++ (List.range (np - no)).map (no + ·) from by rw [← List.range_add]; congr 1; omega, List.flatMap_append]
    have hl5 : ((List.range no).flatMap (plcC wd l)).length = no * 5 := by
      rw [List.length_flatMap]
      have : (List.map (fun a => (plcC wd l a).length) (List.range no)) = List.replicate no 5 := by
        rw [List.eq_replicate_iff]
        refine ⟨by simp, fun x hx => ?_⟩
        obtain ⟨y, _, rfl⟩ := List.mem_map.1 hx
        unfold plcC
        simp [len_encL]
      rw [this]
      simp
    rw [List.getElem?_append_right (by omega), hl5, show no * 5 + i - no * 5 = i by omega]
    obtain ⟨t, ht⟩ : ∃ t, np - no = t + 1 := ⟨np - no - 1, by omega⟩
    rw [ht, List.range_succ_eq_map, List.map_cons, List.flatMap_cons, Nat.add_zero, List.getElem?_append_left]
    · exact hu
    · exact (List.getElem?_eq_some_iff.1 hu).1
  unfold plcC at hrow
  rw [hat9, hsv] at hrow
  have HROW := hide hrow
  clear hk hnp hst0 hat9 hsv hrow
  have Q22 := hide (Q.refl w2)
  obtain ⟨k0, k1, k2, k3, t0, t1⟩ := KA.out w2 Q22.out
  go_enter Try.func74, Try.ntmps74
  go_upto_region 1 with fail
  rw [HW2.out]
  go_wp2_with fail
  refine (HPLC.out w2 HWQ.out).mono ?_
  rintro e w3 ⟨vp, rfl, hop, hq3⟩
  obtain ⟨gp, cp, rfl, -, hgp, -, -, hgc, -⟩ := own_at hop (by omega)
  have p0 : w3.cell? ⟨gp, no * 5, none⟩ = some (.int .i64 at9) := hgc _ _ (HROW.out 0 _ rfl)
  have p1 : w3.cell? ⟨gp, no * 5 + 1, none⟩ = some (.int .i64 ks) := hgc _ _ (HROW.out 1 _ rfl)
  have p2 : w3.cell? ⟨gp, no * 5 + 2, none⟩ = some (.int .i64 ns) := hgc _ _ (HROW.out 2 _ rfl)
  have p3 : w3.cell? ⟨gp, no * 5 + 3, none⟩ = some (.bool fs) := hgc _ _ (HROW.out 3 _ rfl)
  have p4 : w3.cell? ⟨gp, no * 5 + 4, none⟩ = some (.slice As ls cs) := hgc _ _ (HROW.out 4 _ rfl)
  have Q23 := hide hq3
  clear k0 k1 k2 k3 t0 t1 hop hq3 hgc
  have z0 := (Q23.out.facts.1 _ 0 hb2).trans Z0.out
  have z1 := (Q23.out.facts.1 _ 1 hb2).trans Z1.out
  have z2 := (Q23.out.facts.1 _ 2 hb2).trans Z2.out
  have z3 := (Q23.out.facts.1 _ 3 hb2).trans Z3.out
  have z4 := (Q23.out.facts.1 _ 4 hb2).trans Z4.out
  have y0 := (Q23.out.facts.2.1 _ 0 hb2).trans Y0.out
  have y1 := (Q23.out.facts.2.1 _ 1 hb2).trans Y1.out
  have y2 := (Q23.out.facts.2.1 _ 2 hb2).trans Y2.out
  have y3 := (Q23.out.facts.2.1 _ 3 hb2).trans Y3.out
  have y4 := (Q23.out.facts.2.1 _ 4 hb2).trans Y4.out
  have HS5 := hide (set5c (.int .i64 at9) (.int .i64 ks) (.int .i64 ns) (.bool fs) (.slice As ls cs) z0 z1 z2 z3 z4 _ rfl)
  have HQS := hide (q_set5 (b := W.heap.size + 2) (.int .i64 at9) (.int .i64 ks) (.int .i64 ns) (.bool fs) (.slice As ls cs) (HQ2.out.trans Q23.out) (by omega))
  go_wp2_with fail
  obtain ⟨s0, s1, s2, s3, s4⟩ := HS5.out
  refine bodyPost_ret (v := .tuple #[.agg #[.int .i64 at9, .int .i64 ks, .int .i64 ns, .bool fs, .slice As ls cs], .int .i64 0]) (by simp [results, Try.results74, go_sem, s0, s1, s2, s3, s4]) rfl ?_
  exact ⟨by unfold plcV; rw [RES.out.1, RES.out.2.1, RES.out.2.2, HAT.out, HSV.out] <;> rfl, HQS.out⟩
set_option maxRecDepth 100000 in
set_option maxHeartbeats 2000000 in
theorem step_lo8 {w : World} {l : Lay} (h : LayR w l) (hc : l.count ≤ 1048576) (wd : Int) (b : Bool) (ho : Okw wd l) (no : Int) (hk : l.k = 8) (hn : no < 0) : ∀ W, Q w W → Calls Try.prog 74 #[l.v, tgW wd b, .int .i64 no] W (R1 W (.tuple #[plcV (stA wd l (no)) (stL l (no)), .int .i64 (stE l (no))])) := by
  intro W hqW
  unfold R1
  obtain ⟨k, n, f, A, len, cap, hlv⟩ : ∃ k n f A len cap, l.v = .agg #[.int .i64 k, .int .i64 n, .bool f, .slice A len cap] := by cases l; exact ⟨_, _, _, _, _, _, rfl⟩
  have hkk : k = 8 := by rw [show l.k = k by cases l; injection hlv with e; simp at e; exact e.1] at hk; exact hk
  subst hkk
  have HLV := hide hlv
  rw [hlv]
  clear hlv
  obtain ⟨w2, hw2⟩ : ∃ w2, ((W.alloc (.cells #[.int .i64 8, .int .i64 n, .bool f, .slice A len cap] 24)).alloc (.cells #[.int .i64 wd, .bool b] 26)).alloc (.cells #[.int .i64 0, .int .i64 0, .int .i64 0, .bool false, .slice none 0 0] 107) = w2 := ⟨_, rfl⟩
  obtain ⟨hq2, hs2, hc2, hd2, he2⟩ := box3 hw2
  have hb0 : W.heap.size < w2.heap.size := by omega
  have hb1 : W.heap.size + 1 < w2.heap.size := by omega
  have hb2 : W.heap.size + 2 < w2.heap.size := by omega
  have KA : Hid (∀ X, Q w2 X → X.cell? ⟨W.heap.size, 0, none⟩ = some (.int .i64 8) ∧ X.cell? ⟨W.heap.size, 1, none⟩ = some (.int .i64 n) ∧ X.cell? ⟨W.heap.size, 2, none⟩ = some (.bool f) ∧ X.cell? ⟨W.heap.size, 3, none⟩ = some (.slice A len cap) ∧ X.cell? ⟨W.heap.size + 1, 0, none⟩ = some (.int .i64 wd) ∧ X.cell? ⟨W.heap.size + 1, 1, none⟩ = some (.bool b)) := hide fun X hX => ⟨(hX.facts.1 _ 0 hb0).trans (hc2 0 _ rfl), (hX.facts.1 _ 1 hb0).trans (hc2 1 _ rfl), (hX.facts.1 _ 2 hb0).trans (hc2 2 _ rfl), (hX.facts.1 _ 3 hb0).trans (hc2 3 _ rfl), (hX.facts.1 _ 0 hb1).trans (hd2 0 _ rfl), (hX.facts.1 _ 1 hb1).trans (hd2 1 _ rfl)⟩
  have Z0 := hide (he2 0 _ rfl)
  have Z1 := hide (he2 1 _ rfl)
  have Z2 := hide (he2 2 _ rfl)
  have Z3 := hide (he2 3 _ rfl)
  have Z4 := hide (he2 4 _ rfl)
  have kb : w2.heap[W.heap.size + 2]? = some (.cells #[.int .i64 0, .int .i64 0, .int .i64 0, .bool false, .slice none 0 0] 107 (0, 0)) := by
    have h9 := heap_alloc_new ((W.alloc (.cells #[.int .i64 8, .int .i64 n, .bool f, .slice A len cap] 24)).alloc (.cells #[.int .i64 wd, .bool b] 26)) (.cells #[.int .i64 0, .int .i64 0, .int .i64 0, .bool false, .slice none 0 0] 107)
    rw [hw2] at h9
    simpa using h9
  have Y0 := hide (frz_new (j := 0) kb)
  have Y1 := hide (frz_new (j := 1) kb)
  have Y2 := hide (frz_new (j := 2) kb)
  have Y3 := hide (frz_new (j := 3) kb)
  have Y4 := hide (frz_new (j := 4) kb)
  have KB := hide kb
  clear kb
  have HW2 := hide hw2
  have HWQ := hide (hqW.trans hq2)
  have HQ2 := hide hq2
  have H := hide h
  clear h hw2 hq2 hqW hc2 hd2 he2
  have RES : Hid (stE l no = 4 ∧ stA wd l no = 0 ∧ stL l no = noL) := hide (by
    have h1 : stE l no = 4 := by unfold stE; rw [if_pos (by omega), if_pos (by omega)]
    exact ⟨h1, by unfold stA; rw [if_neg (by omega)], by unfold stL; rw [if_neg (by omega)]⟩)
  obtain ⟨np, hnp⟩ : ∃ np, numP l = np := ⟨_, rfl⟩
  have HPLC := hide (places_any H.out hc wd b ho)
  rw [HLV.out, hnp] at HPLC
  have dn : decide (no < 0) = true := by simp [hn]
  clear hk hn hnp
  have Q22 := hide (Q.refl w2)
  obtain ⟨k0, k1, k2, k3, t0, t1⟩ := KA.out w2 Q22.out
  go_enter Try.func74, Try.ntmps74
  go_upto_region 1 with fail
  rw [HW2.out]
  go_wp2_with fail
  refine (HPLC.out w2 HWQ.out).mono ?_
  rintro e w3 ⟨vp, rfl, hop, hq3⟩
  obtain ⟨Ap, cp, rfl, -, -, -, -⟩ := own_form hop
  have Q23 := hide hq3
  clear k0 k1 k2 k3 t0 t1 hop hq3
  have z0 := (Q23.out.facts.1 _ 0 hb2).trans Z0.out
  have z1 := (Q23.out.facts.1 _ 1 hb2).trans Z1.out
  have z2 := (Q23.out.facts.1 _ 2 hb2).trans Z2.out
  have z3 := (Q23.out.facts.1 _ 3 hb2).trans Z3.out
  have z4 := (Q23.out.facts.1 _ 4 hb2).trans Z4.out
  have y0 := (Q23.out.facts.2.1 _ 0 hb2).trans Y0.out
  have y1 := (Q23.out.facts.2.1 _ 1 hb2).trans Y1.out
  have y2 := (Q23.out.facts.2.1 _ 2 hb2).trans Y2.out
  have y3 := (Q23.out.facts.2.1 _ 3 hb2).trans Y3.out
  have y4 := (Q23.out.facts.2.1 _ 4 hb2).trans Y4.out
  have HS5 := hide (set5c (.int .i64 0) (.int .i64 0) (.int .i64 0) (.bool false) (.slice none 0 0) z0 z1 z2 z3 z4 _ rfl)
  have HQS := hide (q_set5 (b := W.heap.size + 2) (.int .i64 0) (.int .i64 0) (.int .i64 0) (.bool false) (.slice none 0 0) (HQ2.out.trans Q23.out) (by omega))
  go_wp2_with fail
  obtain ⟨s0, s1, s2, s3, s4⟩ := HS5.out
  refine bodyPost_ret (v := .tuple #[.agg #[.int .i64 0, .int .i64 0, .int .i64 0, .bool false, .slice none 0 0], .int .i64 4]) (by simp [results, Try.results74, go_sem, s0, s1, s2, s3, s4]) rfl ?_
  exact ⟨by rw [RES.out.1, RES.out.2.1, RES.out.2.2] <;> rfl, HQS.out⟩
set_option maxRecDepth 100000 in
set_option maxHeartbeats 2000000 in
theorem step_hi8 {w : World} {l : Lay} (h : LayR w l) (hc : l.count ≤ 1048576) (wd : Int) (b : Bool) (ho : Okw wd l) (no : Int) (hk : l.k = 8) (hn : 0 ≤ no ∧ (numP l : Int) ≤ no) : ∀ W, Q w W → Calls Try.prog 74 #[l.v, tgW wd b, .int .i64 no] W (R1 W (.tuple #[plcV (stA wd l (no)) (stL l (no)), .int .i64 (stE l (no))])) := by
  intro W hqW
  unfold R1
  obtain ⟨k, n, f, A, len, cap, hlv⟩ : ∃ k n f A len cap, l.v = .agg #[.int .i64 k, .int .i64 n, .bool f, .slice A len cap] := by cases l; exact ⟨_, _, _, _, _, _, rfl⟩
  have hkk : k = 8 := by rw [show l.k = k by cases l; injection hlv with e; simp at e; exact e.1] at hk; exact hk
  subst hkk
  have HLV := hide hlv
  rw [hlv]
  clear hlv
  obtain ⟨w2, hw2⟩ : ∃ w2, ((W.alloc (.cells #[.int .i64 8, .int .i64 n, .bool f, .slice A len cap] 24)).alloc (.cells #[.int .i64 wd, .bool b] 26)).alloc (.cells #[.int .i64 0, .int .i64 0, .int .i64 0, .bool false, .slice none 0 0] 107) = w2 := ⟨_, rfl⟩
  obtain ⟨hq2, hs2, hc2, hd2, he2⟩ := box3 hw2
  have hb0 : W.heap.size < w2.heap.size := by omega
  have hb1 : W.heap.size + 1 < w2.heap.size := by omega
  have hb2 : W.heap.size + 2 < w2.heap.size := by omega
  have KA : Hid (∀ X, Q w2 X → X.cell? ⟨W.heap.size, 0, none⟩ = some (.int .i64 8) ∧ X.cell? ⟨W.heap.size, 1, none⟩ = some (.int .i64 n) ∧ X.cell? ⟨W.heap.size, 2, none⟩ = some (.bool f) ∧ X.cell? ⟨W.heap.size, 3, none⟩ = some (.slice A len cap) ∧ X.cell? ⟨W.heap.size + 1, 0, none⟩ = some (.int .i64 wd) ∧ X.cell? ⟨W.heap.size + 1, 1, none⟩ = some (.bool b)) := hide fun X hX => ⟨(hX.facts.1 _ 0 hb0).trans (hc2 0 _ rfl), (hX.facts.1 _ 1 hb0).trans (hc2 1 _ rfl), (hX.facts.1 _ 2 hb0).trans (hc2 2 _ rfl), (hX.facts.1 _ 3 hb0).trans (hc2 3 _ rfl), (hX.facts.1 _ 0 hb1).trans (hd2 0 _ rfl), (hX.facts.1 _ 1 hb1).trans (hd2 1 _ rfl)⟩
  have Z0 := hide (he2 0 _ rfl)
  have Z1 := hide (he2 1 _ rfl)
  have Z2 := hide (he2 2 _ rfl)
  have Z3 := hide (he2 3 _ rfl)
  have Z4 := hide (he2 4 _ rfl)
  have kb : w2.heap[W.heap.size + 2]? = some (.cells #[.int .i64 0, .int .i64 0, .int .i64 0, .bool false, .slice none 0 0] 107 (0, 0)) := by
    have h9 := heap_alloc_new ((W.alloc (.cells #[.int .i64 8, .int .i64 n, .bool f, .slice A len cap] 24)).alloc (.cells #[.int .i64 wd, .bool b] 26)) (.cells #[.int .i64 0, .int .i64 0, .int .i64 0, .bool false, .slice none 0 0] 107)
    rw [hw2] at h9
    simpa using h9
  have Y0 := hide (frz_new (j := 0) kb)
  have Y1 := hide (frz_new (j := 1) kb)
  have Y2 := hide (frz_new (j := 2) kb)
  have Y3 := hide (frz_new (j := 3) kb)
  have Y4 := hide (frz_new (j := 4) kb)
  have KB := hide kb
  clear kb
  have HW2 := hide hw2
  have HWQ := hide (hqW.trans hq2)
  have HQ2 := hide hq2
  have H := hide h
  clear h hw2 hq2 hqW hc2 hd2 he2
  have RES : Hid (stE l no = 4 ∧ stA wd l no = 0 ∧ stL l no = noL) := hide (by
    have h1 : stE l no = 4 := by unfold stE; rw [if_pos (by omega), if_pos (by omega)]
    exact ⟨h1, by unfold stA; rw [if_neg (by omega)], by unfold stL; rw [if_neg (by omega)]⟩)
  obtain ⟨np, hnp⟩ : ∃ np, numP l = np := ⟨_, rfl⟩
  have HPLC := hide (places_any H.out hc wd b ho)
  rw [HLV.out, hnp] at HPLC
  rw [hnp] at hn
  have dn : decide (no < 0) = false := by simp; omega
  have dm : decide ((np : Int) ≤ no) = true := by simp; omega
  clear hk hn hnp
  have Q22 := hide (Q.refl w2)
  obtain ⟨k0, k1, k2, k3, t0, t1⟩ := KA.out w2 Q22.out
  go_enter Try.func74, Try.ntmps74
  go_upto_region 1 with fail
  rw [HW2.out]
  go_wp2_with fail
  refine (HPLC.out w2 HWQ.out).mono ?_
  rintro e w3 ⟨vp, rfl, hop, hq3⟩
  obtain ⟨Ap, cp, rfl, -, -, -, -⟩ := own_form hop
  have Q23 := hide hq3
  clear k0 k1 k2 k3 t0 t1 hop hq3
  have z0 := (Q23.out.facts.1 _ 0 hb2).trans Z0.out
  have z1 := (Q23.out.facts.1 _ 1 hb2).trans Z1.out
  have z2 := (Q23.out.facts.1 _ 2 hb2).trans Z2.out
  have z3 := (Q23.out.facts.1 _ 3 hb2).trans Z3.out
  have z4 := (Q23.out.facts.1 _ 4 hb2).trans Z4.out
  have y0 := (Q23.out.facts.2.1 _ 0 hb2).trans Y0.out
  have y1 := (Q23.out.facts.2.1 _ 1 hb2).trans Y1.out
  have y2 := (Q23.out.facts.2.1 _ 2 hb2).trans Y2.out
  have y3 := (Q23.out.facts.2.1 _ 3 hb2).trans Y3.out
  have y4 := (Q23.out.facts.2.1 _ 4 hb2).trans Y4.out
  have HS5 := hide (set5c (.int .i64 0) (.int .i64 0) (.int .i64 0) (.bool false) (.slice none 0 0) z0 z1 z2 z3 z4 _ rfl)
  have HQS := hide (q_set5 (b := W.heap.size + 2) (.int .i64 0) (.int .i64 0) (.int .i64 0) (.bool false) (.slice none 0 0) (HQ2.out.trans Q23.out) (by omega))
  go_wp2_with fail
  obtain ⟨s0, s1, s2, s3, s4⟩ := HS5.out
  refine bodyPost_ret (v := .tuple #[.agg #[.int .i64 0, .int .i64 0, .int .i64 0, .bool false, .slice none 0 0], .int .i64 4]) (by simp [results, Try.results74, go_sem, s0, s1, s2, s3, s4]) rfl ?_
  exact ⟨by rw [RES.out.1, RES.out.2.1, RES.out.2.2] <;> rfl, HQS.out⟩
set_option maxRecDepth 100000 in
set_option maxHeartbeats 2000000 in
theorem step_in8 {w : World} {l : Lay} (h : LayR w l) (hc : l.count ≤ 1048576) (wd : Int) (b : Bool) (ho : Okw wd l) (no : Nat) (hk : l.k = 8) (hn : no < numP l) : ∀ W, Q w W → Calls Try.prog 74 #[l.v, tgW wd b, .int .i64 (no : Int)] W (R1 W (.tuple #[plcV (stA wd l (no : Int)) (stL l (no : Int)), .int .i64 (stE l (no : Int))])) := by
  intro W hqW
  unfold R1
  obtain ⟨k, n, f, A, len, cap, hlv⟩ : ∃ k n f A len cap, l.v = .agg #[.int .i64 k, .int .i64 n, .bool f, .slice A len cap] := by cases l; exact ⟨_, _, _, _, _, _, rfl⟩
  have hkk : k = 8 := by rw [show l.k = k by cases l; injection hlv with e; simp at e; exact e.1] at hk; exact hk
  subst hkk
  have HLV := hide hlv
  rw [hlv]
  clear hlv
  obtain ⟨w2, hw2⟩ : ∃ w2, ((W.alloc (.cells #[.int .i64 8, .int .i64 n, .bool f, .slice A len cap] 24)).alloc (.cells #[.int .i64 wd, .bool b] 26)).alloc (.cells #[.int .i64 0, .int .i64 0, .int .i64 0, .bool false, .slice none 0 0] 107) = w2 := ⟨_, rfl⟩
  obtain ⟨hq2, hs2, hc2, hd2, he2⟩ := box3 hw2
  have hb0 : W.heap.size < w2.heap.size := by omega
  have hb1 : W.heap.size + 1 < w2.heap.size := by omega
  have hb2 : W.heap.size + 2 < w2.heap.size := by omega
  have KA : Hid (∀ X, Q w2 X → X.cell? ⟨W.heap.size, 0, none⟩ = some (.int .i64 8) ∧ X.cell? ⟨W.heap.size, 1, none⟩ = some (.int .i64 n) ∧ X.cell? ⟨W.heap.size, 2, none⟩ = some (.bool f) ∧ X.cell? ⟨W.heap.size, 3, none⟩ = some (.slice A len cap) ∧ X.cell? ⟨W.heap.size + 1, 0, none⟩ = some (.int .i64 wd) ∧ X.cell? ⟨W.heap.size + 1, 1, none⟩ = some (.bool b)) := hide fun X hX => ⟨(hX.facts.1 _ 0 hb0).trans (hc2 0 _ rfl), (hX.facts.1 _ 1 hb0).trans (hc2 1 _ rfl), (hX.facts.1 _ 2 hb0).trans (hc2 2 _ rfl), (hX.facts.1 _ 3 hb0).trans (hc2 3 _ rfl), (hX.facts.1 _ 0 hb1).trans (hd2 0 _ rfl), (hX.facts.1 _ 1 hb1).trans (hd2 1 _ rfl)⟩
  have Z0 := hide (he2 0 _ rfl)
  have Z1 := hide (he2 1 _ rfl)
  have Z2 := hide (he2 2 _ rfl)
  have Z3 := hide (he2 3 _ rfl)
  have Z4 := hide (he2 4 _ rfl)
  have kb : w2.heap[W.heap.size + 2]? = some (.cells #[.int .i64 0, .int .i64 0, .int .i64 0, .bool false, .slice none 0 0] 107 (0, 0)) := by
    have h9 := heap_alloc_new ((W.alloc (.cells #[.int .i64 8, .int .i64 n, .bool f, .slice A len cap] 24)).alloc (.cells #[.int .i64 wd, .bool b] 26)) (.cells #[.int .i64 0, .int .i64 0, .int .i64 0, .bool false, .slice none 0 0] 107)
    rw [hw2] at h9
    simpa using h9
  have Y0 := hide (frz_new (j := 0) kb)
  have Y1 := hide (frz_new (j := 1) kb)
  have Y2 := hide (frz_new (j := 2) kb)
  have Y3 := hide (frz_new (j := 3) kb)
  have Y4 := hide (frz_new (j := 4) kb)
  have KB := hide kb
  clear kb
  have HW2 := hide hw2
  have HWQ := hide (hqW.trans hq2)
  have HQ2 := hide hq2
  have H := hide h
  clear h hw2 hq2 hqW hc2 hd2 he2
  have hst0 : stE l (no : Int) = 0 := by unfold stE; rw [if_pos (by omega), if_neg (by omega)]
  have RES : Hid (stE l (no : Int) = 0 ∧ stA wd l (no : Int) = atL wd l no ∧ stL l (no : Int) = subL l no) := hide ⟨hst0, by unfold stA; rw [if_pos hst0, Int.toNat_natCast], by unfold stL; rw [if_pos hst0, Int.toNat_natCast]⟩
  obtain ⟨np, hnp⟩ : ∃ np, numP l = np := ⟨_, rfl⟩
  have HPLC := hide (places_any H.out hc wd b ho)
  rw [HLV.out, hnp] at HPLC
  rw [hnp] at hn
  have dm : decide ((np : Int) ≤ (no : Int)) = false := by simp; omega
  have dm2 : decide (np ≤ no) = false := by simp; omega
  have dn : decide ((no : Int) < 0) = false := by simp <;> omega
  have hni : (no : Int) < (np : Int) := by omega
  have hn2 : ¬ np ≤ no := by omega
  obtain ⟨at9, hat9⟩ : ∃ a, atL wd l no = a := ⟨_, rfl⟩
  obtain ⟨ks, ns, fs, As, ls, cs, hsv⟩ : ∃ k n f A len cap, encL (subL l no) = [.int .i64 k, .int .i64 n, .bool f, .slice A len cap] := by cases subL l no; exact ⟨_, _, _, _, _, _, rfl⟩
  have HSV := hide hsv
  have HAT := hide hat9
  have hrow : ∀ i u, (plcC wd l no)[i]? = some u → (rowsP wd l np)[no * 5 + i]? = some u := fun i u hu => by
    unfold rowsP
    rw [show List.range np = List.range no ++ (List.range (np - no)).map (no + ·) from by rw [← List.range_add]; congr 1; omega, List.flatMap_append]
    have hl5 : ((List.range no).flatMap (plcC wd l)).length = no * 5 := by
      rw [List.length_flatMap]
      have : (List.map (fun a => (plcC wd l a).length) (List.range no)) = List.replicate no 5 := by
        rw [List.eq_replicate_iff]
        refine ⟨by simp, fun x hx => ?_⟩
        obtain ⟨y, _, rfl⟩ := List.mem_map.1 hx
        unfold plcC
        simp [len_encL]
      rw [this]
      simp
    rw [List.getElem?_append_right (by omega), hl5, show no * 5 + i - no * 5 = i by omega]
    obtain ⟨t, ht⟩ : ∃ t, np - no = t + 1 := ⟨np - no - 1, by omega⟩
    rw [ht, List.range_succ_eq_map, List.map_cons, List.flatMap_cons, Nat.add_zero, List.getElem?_append_left]
    · exact hu
    · exact (List.getElem?_eq_some_iff.1 hu).1
  unfold plcC at hrow
  rw [hat9, hsv] at hrow
  have HROW := hide hrow
  clear hk hnp hst0 hat9 hsv hrow
  have Q22 := hide (Q.refl w2)
  obtain ⟨k0, k1, k2, k3, t0, t1⟩ := KA.out w2 Q22.out
  go_enter Try.func74, Try.ntmps74
  go_upto_region 1 with fail
  rw [HW2.out]
  go_wp2_with fail
  refine (HPLC.out w2 HWQ.out).mono ?_
  rintro e w3 ⟨vp, rfl, hop, hq3⟩
  obtain ⟨gp, cp, rfl, -, hgp, -, -, hgc, -⟩ := own_at hop (by omega)
  have p0 : w3.cell? ⟨gp, no * 5, none⟩ = some (.int .i64 at9) := hgc _ _ (HROW.out 0 _ rfl)
  have p1 : w3.cell? ⟨gp, no * 5 + 1, none⟩ = some (.int .i64 ks) := hgc _ _ (HROW.out 1 _ rfl)
  have p2 : w3.cell? ⟨gp, no * 5 + 2, none⟩ = some (.int .i64 ns) := hgc _ _ (HROW.out 2 _ rfl)
  have p3 : w3.cell? ⟨gp, no * 5 + 3, none⟩ = some (.bool fs) := hgc _ _ (HROW.out 3 _ rfl)
  have p4 : w3.cell? ⟨gp, no * 5 + 4, none⟩ = some (.slice As ls cs) := hgc _ _ (HROW.out 4 _ rfl)
  have Q23 := hide hq3
  clear k0 k1 k2 k3 t0 t1 hop hq3 hgc
  have z0 := (Q23.out.facts.1 _ 0 hb2).trans Z0.out
  have z1 := (Q23.out.facts.1 _ 1 hb2).trans Z1.out
  have z2 := (Q23.out.facts.1 _ 2 hb2).trans Z2.out
  have z3 := (Q23.out.facts.1 _ 3 hb2).trans Z3.out
  have z4 := (Q23.out.facts.1 _ 4 hb2).trans Z4.out
  have y0 := (Q23.out.facts.2.1 _ 0 hb2).trans Y0.out
  have y1 := (Q23.out.facts.2.1 _ 1 hb2).trans Y1.out
  have y2 := (Q23.out.facts.2.1 _ 2 hb2).trans Y2.out
  have y3 := (Q23.out.facts.2.1 _ 3 hb2).trans Y3.out
  have y4 := (Q23.out.facts.2.1 _ 4 hb2).trans Y4.out
  have HS5 := hide (set5c (.int .i64 at9) (.int .i64 ks) (.int .i64 ns) (.bool fs) (.slice As ls cs) z0 z1 z2 z3 z4 _ rfl)
  have HQS := hide (q_set5 (b := W.heap.size + 2) (.int .i64 at9) (.int .i64 ks) (.int .i64 ns) (.bool fs) (.slice As ls cs) (HQ2.out.trans Q23.out) (by omega))
  go_wp2_with fail
  obtain ⟨s0, s1, s2, s3, s4⟩ := HS5.out
  refine bodyPost_ret (v := .tuple #[.agg #[.int .i64 at9, .int .i64 ks, .int .i64 ns, .bool fs, .slice As ls cs], .int .i64 0]) (by simp [results, Try.results74, go_sem, s0, s1, s2, s3, s4]) rfl ?_
  exact ⟨by unfold plcV; rw [RES.out.1, RES.out.2.1, RES.out.2.2, HAT.out, HSV.out] <;> rfl, HQS.out⟩
theorem step_any {w : World} {l : Lay} (h : LayR w l) (hc : l.count ≤ 1048576) (wd : Int) (b : Bool) (ho : Okw wd l) (no : Int) : ∀ W, Q w W → Calls Try.prog 74 #[l.v, tgW wd b, .int .i64 no] W (R1 W (.tuple #[plcV (stA wd l no) (stL l no), .int .i64 (stE l no)])) := by
  by_cases h4 : l.k = 4
  · by_cases hlo : no < 0
    · exact step_lo4 h hc wd b ho no h4 hlo
    · by_cases hhi : (numP l : Int) ≤ no
      · exact step_hi4 h hc wd b ho no h4 ⟨by omega, hhi⟩
      · obtain ⟨j, rfl⟩ : ∃ j : Nat, no = j := ⟨no.toNat, by omega⟩
        exact step_in4 h hc wd b ho j h4 (by omega)
  by_cases h5 : l.k = 5
  · by_cases hlo : no < 0
    · exact step_lo5 h hc wd b ho no h5 hlo
    · by_cases hhi : (numP l : Int) ≤ no
      · exact step_hi5 h hc wd b ho no h5 ⟨by omega, hhi⟩
      · obtain ⟨j, rfl⟩ : ∃ j : Nat, no = j := ⟨no.toNat, by omega⟩
        exact step_in5 h hc wd b ho j h5 (by omega)
  by_cases h6 : l.k = 6
  · by_cases hlo : no < 0
    · exact step_lo6 h hc wd b ho no h6 hlo
    · by_cases hhi : (numP l : Int) ≤ no
      · exact step_hi6 h hc wd b ho no h6 ⟨by omega, hhi⟩
      · obtain ⟨j, rfl⟩ : ∃ j : Nat, no = j := ⟨no.toNat, by omega⟩
        exact step_in6 h hc wd b ho j h6 (by omega)
  by_cases h8 : l.k = 8
  · by_cases hlo : no < 0
    · exact step_lo8 h hc wd b ho no h8 hlo
    · by_cases hhi : (numP l : Int) ≤ no
      · exact step_hi8 h hc wd b ho no h8 ⟨by omega, hhi⟩
      · obtain ⟨j, rfl⟩ : ∃ j : Nat, no = j := ⟨no.toNat, by omega⟩
        exact step_in8 h hc wd b ho j h8 (by omega)
  exact step_none h hc wd b ho no (by omega)
end Go.Proofs.Ytbgbalfhbficaaa

namespace Go.Proofs.Ytbgbalfhbficaaa
open Go.RowKit
set_option linter.unusedVariables false
set_option linter.unusedSimpArgs false
theorem Okw.al0 {wd : Int} {l : Lay} (h : Okw wd l) : aL wd l = 0 ∧ rmX wd l = l.room wd ∧ lgX wd l = 0 := by
  have h1 : aL wd l = 0 := by
    unfold aL tgE
    rw [if_neg (by have := h.valid; omega), if_pos h.word]
  have h2 := lgX_neg (wd := wd) (l := l) (by have := h.small; omega)
  exact ⟨h1, h2.1, h2.2⟩
theorem fld65_0 (a c : Int) (X : World) : Sem.run Try.prog (Instr.field 65 (.agg #[.int .i64 a, .int .i64 c]) 0) X = .ok (.int .i64 a) X := by kernel_rfl
namespace Ri
theorem run_fldv {P : Program} {o : Oper} {A : Act} {w : World} {x : Operand} {t : TypeId} {k : Nat} {v u : Value} (ho : o.op = .field t x k) (hx : A.eval x = v) (h : Sem.run P (Instr.field t v k) w = .ok u w) : (execOp A.eval o).run P w = .ok (.value u) w := by
  unfold execOp
  simp only [ho, hx]
  simp [Sem.run_bind, h]
end Ri
set_option maxRecDepth 100000 in
set_option maxHeartbeats 2000000 in
theorem parts_k4 (n : Int) (f : Bool) (A : Option Addr) (len cap : Nat) (W : World) : Calls Try.prog 122 #[.agg #[.int .i64 4, .int .i64 n, .bool f, .slice A len cap]] W (R1 W (.int .i64 2)) := by
  unfold R1
  obtain ⟨w1, hw1⟩ : ∃ w1, W.alloc (.cells #[.int .i64 4, .int .i64 n, .bool f, .slice A len cap] 24) = w1 := ⟨_, rfl⟩
  obtain ⟨hq1, hs1, hc⟩ := box1 hw1
  have k0 : w1.cell? ⟨W.heap.size, 0, none⟩ = some (.int .i64 4) := hc 0 _ rfl
  have k3 : w1.cell? ⟨W.heap.size, 3, none⟩ = some (.slice A len cap) := hc 3 _ rfl
  have HW1 := hide hw1
  have HQ1 := hide hq1
  clear hw1 hc hq1
  go_enter Try.func122, Try.ntmps122
  go_upto_region 1 with fail
  rw [HW1.out]
  go_wp2_with fail
  go_ret
  exact ⟨rfl, HQ1.out⟩
set_option maxRecDepth 100000 in
set_option maxHeartbeats 2000000 in
theorem parts_k6 (n : Int) (f : Bool) (A : Option Addr) (len cap : Nat) (W : World) : Calls Try.prog 122 #[.agg #[.int .i64 6, .int .i64 n, .bool f, .slice A len cap]] W (R1 W (.int .i64 (len : Int))) := by
  unfold R1
  obtain ⟨w1, hw1⟩ : ∃ w1, W.alloc (.cells #[.int .i64 6, .int .i64 n, .bool f, .slice A len cap] 24) = w1 := ⟨_, rfl⟩
  obtain ⟨hq1, hs1, hc⟩ := box1 hw1
  have k0 : w1.cell? ⟨W.heap.size, 0, none⟩ = some (.int .i64 6) := hc 0 _ rfl
  have k3 : w1.cell? ⟨W.heap.size, 3, none⟩ = some (.slice A len cap) := hc 3 _ rfl
  have HW1 := hide hw1
  have HQ1 := hide hq1
  clear hw1 hc hq1
  go_enter Try.func122, Try.ntmps122
  go_upto_region 1 with fail
  rw [HW1.out]
  go_wp2_with fail
  go_ret
  exact ⟨rfl, HQ1.out⟩
set_option maxRecDepth 100000 in
set_option maxHeartbeats 2000000 in
theorem parts_k8 (n : Int) (f : Bool) (A : Option Addr) (len cap : Nat) (W : World) : Calls Try.prog 122 #[.agg #[.int .i64 8, .int .i64 n, .bool f, .slice A len cap]] W (R1 W (.int .i64 (len : Int))) := by
  unfold R1
  obtain ⟨w1, hw1⟩ : ∃ w1, W.alloc (.cells #[.int .i64 8, .int .i64 n, .bool f, .slice A len cap] 24) = w1 := ⟨_, rfl⟩
  obtain ⟨hq1, hs1, hc⟩ := box1 hw1
  have k0 : w1.cell? ⟨W.heap.size, 0, none⟩ = some (.int .i64 8) := hc 0 _ rfl
  have k3 : w1.cell? ⟨W.heap.size, 3, none⟩ = some (.slice A len cap) := hc 3 _ rfl
  have HW1 := hide hw1
  have HQ1 := hide hq1
  clear hw1 hc hq1
  go_enter Try.func122, Try.ntmps122
  go_upto_region 1 with fail
  rw [HW1.out]
  go_wp2_with fail
  go_ret
  exact ⟨rfl, HQ1.out⟩
set_option maxRecDepth 100000 in
set_option maxHeartbeats 2000000 in
theorem Offset8 {w : World} {l : Lay} (h : LayR w l) (hc : l.count ≤ 1048576) (wd : Int) (b : Bool) (ho : Okw wd l) (no : Nat) (hk : l.k = 8) (hn : no < l.parts.length) : ∀ W, Q w W → Calls Try.prog 103 #[l.v, tgW wd b, .int .i64 (no : Int)] W (R1 W (.tuple #[.int .i64 (atL wd l no), .int .i64 0])) := by
  intro W hqW
  unfold R1
  obtain ⟨k, n, f, A, len, cap, hlv⟩ : ∃ k n f A len cap, l.v = .agg #[.int .i64 k, .int .i64 n, .bool f, .slice A len cap] := by cases l; exact ⟨_, _, _, _, _, _, rfl⟩
  have hkk : k = 8 := by rw [show l.k = k by cases l; injection hlv with e; simp at e; exact e.1] at hk; exact hk
  subst hkk
  have HLV := hide hlv
  rw [hlv]
  clear hlv
  obtain ⟨w2, hw2⟩ : ∃ w2, (W.alloc (.cells #[.int .i64 8, .int .i64 n, .bool f, .slice A len cap] 24)).alloc (.cells #[.int .i64 wd, .bool b] 26) = w2 := ⟨_, rfl⟩
  obtain ⟨hq2, hs2, hc2, hd2⟩ := box2 hw2
  have hb0 : W.heap.size < w2.heap.size := by omega
  have hb1 : W.heap.size + 1 < w2.heap.size := by omega
  have KA : Hid (∀ X, Q w2 X → X.cell? ⟨W.heap.size, 0, none⟩ = some (.int .i64 8) ∧ X.cell? ⟨W.heap.size, 1, none⟩ = some (.int .i64 n) ∧ X.cell? ⟨W.heap.size, 2, none⟩ = some (.bool f) ∧ X.cell? ⟨W.heap.size, 3, none⟩ = some (.slice A len cap) ∧ X.cell? ⟨W.heap.size + 1, 0, none⟩ = some (.int .i64 wd) ∧ X.cell? ⟨W.heap.size + 1, 1, none⟩ = some (.bool b)) := hide fun X hX => ⟨(hX.facts.1 _ 0 hb0).trans (hc2 0 _ rfl), (hX.facts.1 _ 1 hb0).trans (hc2 1 _ rfl), (hX.facts.1 _ 2 hb0).trans (hc2 2 _ rfl), (hX.facts.1 _ 3 hb0).trans (hc2 3 _ rfl), (hX.facts.1 _ 0 hb1).trans (hd2 0 _ rfl), (hX.facts.1 _ 1 hb1).trans (hd2 1 _ rfl)⟩
  have HW2 := hide hw2
  have HWQ := hide (hqW.trans hq2)
  have HQ2 := hide hq2
  have H := hide h
  clear h hw2 hq2 hqW hc2 hd2
  have HKL : Hid (l.k = 8 ∧ l.n = n) := hide (by cases l; injection HLV.out with e; simp at e; exact ⟨e.1, e.2.1⟩)
  have HSL : Hid (Sl 4 encL w A len cap l.parts) := hide (by
    cases H.out with
    | mk a1 a2 a3 a4 a5 a6 =>
      injection HLV.out with e
      simp at e
      obtain ⟨e1, e2, e3, e4, e5, e6⟩ := e
      subst e1 e2 e3 e4 e5 e6
      exact a3)
  have HAL : Hid (∀ p ∈ l.parts, LayR w p ∧ p.count ≤ 1048576) := hide (fun p hp => ⟨(by cases H.out with | mk a1 a2 a3 a4 a5 a6 => exact a6 p hp), by have := count_part hp; omega⟩)
  have HVL := hide ho.vl
  have HNP : Hid (numP l = numP l) := hide rfl
  have hlen := HSL.out.len
  rw [hlen] at hn
  have HN := hide hn
  obtain ⟨ha0, hrx, hlx⟩ := ho.al0
  have HASK := hide (asked_any H.out hc wd b)
  have HSZD := hide (sized_any H.out hc wd b ho.valid ho.word)
  rw [HLV.out, ha0] at HASK
  rw [HLV.out, hrx, hlx] at HSZD
  obtain ⟨sz, hsz⟩ : ∃ sz, (l.room wd).1 = sz := ⟨_, rfl⟩
  obtain ⟨al, hal⟩ : ∃ al, (l.room wd).2 = al := ⟨_, rfl⟩
  rw [show l.room wd = (sz, al) by rw [← hsz, ← hal]] at HSZD
  unfold R1 at HASK HSZD
  have hfr := fr_valid H.out ho.valid
  have HROOM := hide (fun (p : Lay) (hp : p ∈ l.parts) => roomOf_any (HAL.out p hp).1 wd b ho.word (HVL.out.part hp) (hfr.part hp))
  have HCAP := hide (fun (p : Lay) (hp : p ∈ l.parts) => fr_cap (HAL.out p hp).1 (HVL.out.part hp) (hfr.part hp) wd ho.word)
  have hnn : decide ((no : Int) < 0) = false := by simp <;> omega
  have hge : decide ((len : Int) ≤ (no : Int)) = false := by simp; omega
  have hge2 : ¬ len ≤ no := by omega
  have hlz : decide ((len : Int) < 0) = false := by simp <;> omega
  have HAT : Hid (atL wd l no = 0) := hide (by unfold atL; rw [if_neg (by rw [HKL.out.1]; decide), if_neg (by rw [HKL.out.1]; decide)])
  clear hk hn hsz hal hlen ha0 hrx hlx hfr
  have Q22 := hide (Q.refl w2)
  obtain ⟨k0, k1, k2, k3, t0, t1⟩ := KA.out w2 Q22.out
  go_enter Try.func103, Try.ntmps103
  go_upto_region 1 with fail
  rw [HW2.out]
  have HPR := hide (parts_k8 n f A len cap)
  unfold R1 at HPR
  go_wp2_with fail
  refine (HASK.out w2 HWQ.out).mono ?_
  rintro e w3 ⟨rfl, hq3⟩
  have Q23 := hide hq3
  clear hq3 k0 k1 k2 k3 t0 t1
  obtain ⟨k0, k1, k2, k3, t0, t1⟩ := KA.out w3 Q23.out
  go_wp2_with fail
  refine (HPR.out w3).mono ?_
  rintro e w4 ⟨rfl, hq4⟩
  have Q24 := hide (Q23.out.trans hq4)
  clear hq4 k0 k1 k2 k3 t0 t1
  obtain ⟨k0, k1, k2, k3, t0, t1⟩ := KA.out w4 Q24.out
  go_wp2_with fail
  refine (HSZD.out w4 (HWQ.out.trans Q24.out)).mono ?_
  rintro e w5 ⟨rfl, hq5⟩
  have Q25 := hide (Q24.out.trans hq5)
  clear hq5 k0 k1 k2 k3 t0 t1
  obtain ⟨w6, hw6⟩ : ∃ w6, w5.alloc (.cells #[.int .i64 sz, .int .i64 al] 65) = w6 := ⟨_, rfl⟩
  obtain ⟨hq6, hs6, hc6⟩ := box1 hw6
  have HW6 := hide hw6
  have Q26 := hide (Q25.out.trans hq6)
  clear hw6 hc6 hq6
  obtain ⟨k0, k1, k2, k3, t0, t1⟩ := KA.out w6 Q26.out
  go_upto_region 10 with fail
  rw [HW6.out]
  go_wp2_with fail
  go_ret2
  exact ⟨by rw [HAT.out] <;> rfl, HQ2.out.trans Q26.out⟩
set_option maxRecDepth 100000 in
set_option maxHeartbeats 2000000 in
theorem Offset6 {w : World} {l : Lay} (h : LayR w l) (hc : l.count ≤ 1048576) (wd : Int) (b : Bool) (ho : Okw wd l) (no : Nat) (hk : l.k = 6) (hn : no < l.parts.length) : ∀ W, Q w W → Calls Try.prog 103 #[l.v, tgW wd b, .int .i64 (no : Int)] W (R1 W (.tuple #[.int .i64 (atL wd l no), .int .i64 0])) := by
  intro W hqW
  unfold R1
  obtain ⟨k, n, f, A, len, cap, hlv⟩ : ∃ k n f A len cap, l.v = .agg #[.int .i64 k, .int .i64 n, .bool f, .slice A len cap] := by cases l; exact ⟨_, _, _, _, _, _, rfl⟩
  have hkk : k = 6 := by rw [show l.k = k by cases l; injection hlv with e; simp at e; exact e.1] at hk; exact hk
  subst hkk
  have HLV := hide hlv
  rw [hlv]
  clear hlv
  obtain ⟨w2, hw2⟩ : ∃ w2, (W.alloc (.cells #[.int .i64 6, .int .i64 n, .bool f, .slice A len cap] 24)).alloc (.cells #[.int .i64 wd, .bool b] 26) = w2 := ⟨_, rfl⟩
  obtain ⟨hq2, hs2, hc2, hd2⟩ := box2 hw2
  have hb0 : W.heap.size < w2.heap.size := by omega
  have hb1 : W.heap.size + 1 < w2.heap.size := by omega
  have KA : Hid (∀ X, Q w2 X → X.cell? ⟨W.heap.size, 0, none⟩ = some (.int .i64 6) ∧ X.cell? ⟨W.heap.size, 1, none⟩ = some (.int .i64 n) ∧ X.cell? ⟨W.heap.size, 2, none⟩ = some (.bool f) ∧ X.cell? ⟨W.heap.size, 3, none⟩ = some (.slice A len cap) ∧ X.cell? ⟨W.heap.size + 1, 0, none⟩ = some (.int .i64 wd) ∧ X.cell? ⟨W.heap.size + 1, 1, none⟩ = some (.bool b)) := hide fun X hX => ⟨(hX.facts.1 _ 0 hb0).trans (hc2 0 _ rfl), (hX.facts.1 _ 1 hb0).trans (hc2 1 _ rfl), (hX.facts.1 _ 2 hb0).trans (hc2 2 _ rfl), (hX.facts.1 _ 3 hb0).trans (hc2 3 _ rfl), (hX.facts.1 _ 0 hb1).trans (hd2 0 _ rfl), (hX.facts.1 _ 1 hb1).trans (hd2 1 _ rfl)⟩
  have HW2 := hide hw2
  have HWQ := hide (hqW.trans hq2)
  have HQ2 := hide hq2
  have H := hide h
  clear h hw2 hq2 hqW hc2 hd2
  have HKL : Hid (l.k = 6 ∧ l.n = n) := hide (by cases l; injection HLV.out with e; simp at e; exact ⟨e.1, e.2.1⟩)
  have HSL : Hid (Sl 4 encL w A len cap l.parts) := hide (by
    cases H.out with
    | mk a1 a2 a3 a4 a5 a6 =>
      injection HLV.out with e
      simp at e
      obtain ⟨e1, e2, e3, e4, e5, e6⟩ := e
      subst e1 e2 e3 e4 e5 e6
      exact a3)
  have HAL : Hid (∀ p ∈ l.parts, LayR w p ∧ p.count ≤ 1048576) := hide (fun p hp => ⟨(by cases H.out with | mk a1 a2 a3 a4 a5 a6 => exact a6 p hp), by have := count_part hp; omega⟩)
  have HVL := hide ho.vl
  have HNP : Hid (numP l = numP l) := hide rfl
  have hlen := HSL.out.len
  rw [hlen] at hn
  have HN := hide hn
  obtain ⟨ha0, hrx, hlx⟩ := ho.al0
  have HASK := hide (asked_any H.out hc wd b)
  have HSZD := hide (sized_any H.out hc wd b ho.valid ho.word)
  rw [HLV.out, ha0] at HASK
  rw [HLV.out, hrx, hlx] at HSZD
  obtain ⟨sz, hsz⟩ : ∃ sz, (l.room wd).1 = sz := ⟨_, rfl⟩
  obtain ⟨al, hal⟩ : ∃ al, (l.room wd).2 = al := ⟨_, rfl⟩
  rw [show l.room wd = (sz, al) by rw [← hsz, ← hal]] at HSZD
  unfold R1 at HASK HSZD
  have hfr := fr_valid H.out ho.valid
  have HROOM := hide (fun (p : Lay) (hp : p ∈ l.parts) => roomOf_any (HAL.out p hp).1 wd b ho.word (HVL.out.part hp) (hfr.part hp))
  have HCAP := hide (fun (p : Lay) (hp : p ∈ l.parts) => fr_cap (HAL.out p hp).1 (HVL.out.part hp) (hfr.part hp) wd ho.word)
  have hnn : decide ((no : Int) < 0) = false := by simp <;> omega
  have hge : decide ((len : Int) ≤ (no : Int)) = false := by simp; omega
  have hge2 : ¬ len ≤ no := by omega
  have hlz : decide ((len : Int) < 0) = false := by simp <;> omega
  have hst2 : (standR (l.parts.map (Lay.room wd))).1 ≤ 1088000000000 := by
    have hsm := ho.small
    have hvl := HVL.out
    have hk6 := HKL.out.1
    have hcap := HCAP.out
    cases l with
    | mk k1 n1 f1 A1 len1 cap1 ps =>
      have h6' : k1 = 6 := hk6
      subst h6'
      rw [room_mk] at hsm
      unfold roomR at hsm
      rw [if_neg (by decide), if_neg (by decide), if_neg (by decide), if_neg (by decide), if_neg (by decide), if_pos rfl] at hsm
      have hr : ∀ r ∈ ps.map (Lay.room wd), isA r.2 ∧ 0 ≤ r.1 := fun r hr => by
        obtain ⟨p, hpm, rfl⟩ := List.mem_map.1 hr
        have := hcap p hpm
        exact ⟨this.1, this.2.1⟩
      have hst := stand_mono (ps.map (Lay.room wd)) (0, 1) hr isA.one (by simp)
      have : (standR (ps.map (Lay.room wd))).1 ≤ 4096 := Int.le_trans (hst.2.1.up hst.2.2).1 hsm
      show (standR (ps.map (Lay.room wd))).1 ≤ 1088000000000
      omega
  have hl12 : l.parts.length ≤ 12 := by
    have hvl := HVL.out
    cases l with
    | mk k1 n1 f1 A1 len1 cap1 ps => exact hvl.len.1
  have HPL := hide (fun W' hW' => placed_any (k := 6) (n := n) (f := f) HSL.out hl12 wd b HROOM.out HCAP.out hst2 W' hW')
  have HAT : Hid (((offsTo (l.parts.map (Lay.room wd)) len).map (Value.int .i64))[no]? = some (.int .i64 (atL wd l no))) := hide (by
    unfold atL offsTo
    rw [if_neg (by rw [HKL.out.1]; decide), if_pos HKL.out.1, List.getElem?_map, List.getElem?_map, List.getElem?_range HN.out]
    rfl)
  obtain ⟨at9, hat9⟩ : ∃ a, atL wd l no = a := ⟨_, rfl⟩
  rw [hat9] at HAT
  obtain ⟨rp, hrp⟩ : ∃ rp, rmV (upI (standR (l.parts.map (Lay.room wd))).1 (standR (l.parts.map (Lay.room wd))).2, (standR (l.parts.map (Lay.room wd))).2) = rp := ⟨_, rfl⟩
  obtain ⟨r1, r2, hr12⟩ : ∃ r1 r2 : Int, rp = .agg #[.int .i64 r1, .int .i64 r2] := ⟨_, _, hrp.symm⟩
  rw [hrp, hr12] at HPL
  have HA9 := hide hat9
  have hni : (no : Int) < (len : Int) := by omega
  have HNI := hide hni
  clear hst2 hl12 hat9 hrp hr12
  clear hk hn hsz hal hlen ha0 hrx hlx hfr
  have Q22 := hide (Q.refl w2)
  obtain ⟨k0, k1, k2, k3, t0, t1⟩ := KA.out w2 Q22.out
  go_enter Try.func103, Try.ntmps103
  go_upto_region 1 with fail
  rw [HW2.out]
  have HPR := hide (parts_k6 n f A len cap)
  unfold R1 at HPR
  go_wp2_with fail
  refine (HASK.out w2 HWQ.out).mono ?_
  rintro e w3 ⟨rfl, hq3⟩
  have Q23 := hide hq3
  clear hq3 k0 k1 k2 k3 t0 t1
  obtain ⟨k0, k1, k2, k3, t0, t1⟩ := KA.out w3 Q23.out
  go_wp2_with fail
  refine (HPR.out w3).mono ?_
  rintro e w4 ⟨rfl, hq4⟩
  have Q24 := hide (Q23.out.trans hq4)
  clear hq4 k0 k1 k2 k3 t0 t1
  obtain ⟨k0, k1, k2, k3, t0, t1⟩ := KA.out w4 Q24.out
  go_wp2_with fail
  refine (HSZD.out w4 (HWQ.out.trans Q24.out)).mono ?_
  rintro e w5 ⟨rfl, hq5⟩
  have Q25 := hide (Q24.out.trans hq5)
  clear hq5 k0 k1 k2 k3 t0 t1
  obtain ⟨w6, hw6⟩ : ∃ w6, w5.alloc (.cells #[.int .i64 sz, .int .i64 al] 65) = w6 := ⟨_, rfl⟩
  obtain ⟨hq6, hs6, hc6⟩ := box1 hw6
  have HW6 := hide hw6
  have Q26 := hide (Q25.out.trans hq6)
  clear hw6 hc6 hq6
  obtain ⟨k0, k1, k2, k3, t0, t1⟩ := KA.out w6 Q26.out
  go_upto_region 10 with fail
  rw [HW6.out]
  go_wp2_with fail
  refine (HPL.out w6 (HWQ.out.trans Q26.out)).mono ?_
  rintro e w7 ⟨vo, rfl, hoo, hq7⟩
  obtain ⟨go, co, rfl, -, hgo, -, -, hgc, -⟩ := own_at hoo (by omega)
  have hac := hgc no _ HAT.out
  have Q27 := hide (Q26.out.trans hq7)
  clear hq7 k0 k1 k2 k3 t0 t1 hoo hgc
  obtain ⟨w8, hw8⟩ : ∃ w8, w7.alloc (.cells #[.int .i64 r1, .int .i64 r2] 65) = w8 := ⟨_, rfl⟩
  obtain ⟨hq8, hs8, hc8⟩ := box1 hw8
  have HW8 := hide hw8
  have Q28 := hide (Q27.out.trans hq8)
  have hac8 := (hq8.facts.1 _ no hgo).trans hac
  clear hw8 hc8 hq8 hac
  go_upto_region 15 with fail
  rw [HW8.out]
  go_wp2_with fail
  go_ret2
  exact ⟨by rw [HA9.out] <;> rfl, HQ2.out.trans Q28.out⟩
set_option maxRecDepth 100000 in
set_option maxHeartbeats 2000000 in
theorem Offset4 {w : World} {l : Lay} (h : LayR w l) (hc : l.count ≤ 1048576) (wd : Int) (b : Bool) (ho : Okw wd l) (no : Nat) (hk : l.k = 4) (hn : no < l.parts.length) : ∀ W, Q w W → Calls Try.prog 103 #[l.v, tgW wd b, .int .i64 (no : Int)] W (R1 W (.tuple #[.int .i64 (atL wd l no), .int .i64 0])) := by
  intro W hqW
  unfold R1
  obtain ⟨k, n, f, A, len, cap, hlv⟩ : ∃ k n f A len cap, l.v = .agg #[.int .i64 k, .int .i64 n, .bool f, .slice A len cap] := by cases l; exact ⟨_, _, _, _, _, _, rfl⟩
  have hkk : k = 4 := by rw [show l.k = k by cases l; injection hlv with e; simp at e; exact e.1] at hk; exact hk
  subst hkk
  have HLV := hide hlv
  rw [hlv]
  clear hlv
  obtain ⟨w2, hw2⟩ : ∃ w2, (W.alloc (.cells #[.int .i64 4, .int .i64 n, .bool f, .slice A len cap] 24)).alloc (.cells #[.int .i64 wd, .bool b] 26) = w2 := ⟨_, rfl⟩
  obtain ⟨hq2, hs2, hc2, hd2⟩ := box2 hw2
  have hb0 : W.heap.size < w2.heap.size := by omega
  have hb1 : W.heap.size + 1 < w2.heap.size := by omega
  have KA : Hid (∀ X, Q w2 X → X.cell? ⟨W.heap.size, 0, none⟩ = some (.int .i64 4) ∧ X.cell? ⟨W.heap.size, 1, none⟩ = some (.int .i64 n) ∧ X.cell? ⟨W.heap.size, 2, none⟩ = some (.bool f) ∧ X.cell? ⟨W.heap.size, 3, none⟩ = some (.slice A len cap) ∧ X.cell? ⟨W.heap.size + 1, 0, none⟩ = some (.int .i64 wd) ∧ X.cell? ⟨W.heap.size + 1, 1, none⟩ = some (.bool b)) := hide fun X hX => ⟨(hX.facts.1 _ 0 hb0).trans (hc2 0 _ rfl), (hX.facts.1 _ 1 hb0).trans (hc2 1 _ rfl), (hX.facts.1 _ 2 hb0).trans (hc2 2 _ rfl), (hX.facts.1 _ 3 hb0).trans (hc2 3 _ rfl), (hX.facts.1 _ 0 hb1).trans (hd2 0 _ rfl), (hX.facts.1 _ 1 hb1).trans (hd2 1 _ rfl)⟩
  have HW2 := hide hw2
  have HWQ := hide (hqW.trans hq2)
  have HQ2 := hide hq2
  have H := hide h
  clear h hw2 hq2 hqW hc2 hd2
  have HKL : Hid (l.k = 4 ∧ l.n = n) := hide (by cases l; injection HLV.out with e; simp at e; exact ⟨e.1, e.2.1⟩)
  have HSL : Hid (Sl 4 encL w A len cap l.parts) := hide (by
    cases H.out with
    | mk a1 a2 a3 a4 a5 a6 =>
      injection HLV.out with e
      simp at e
      obtain ⟨e1, e2, e3, e4, e5, e6⟩ := e
      subst e1 e2 e3 e4 e5 e6
      exact a3)
  have HAL : Hid (∀ p ∈ l.parts, LayR w p ∧ p.count ≤ 1048576) := hide (fun p hp => ⟨(by cases H.out with | mk a1 a2 a3 a4 a5 a6 => exact a6 p hp), by have := count_part hp; omega⟩)
  have HVL := hide ho.vl
  have HNP : Hid (numP l = numP l) := hide rfl
  have hlen := HSL.out.len
  rw [hlen] at hn
  have HN := hide hn
  obtain ⟨ha0, hrx, hlx⟩ := ho.al0
  have HASK := hide (asked_any H.out hc wd b)
  have HSZD := hide (sized_any H.out hc wd b ho.valid ho.word)
  rw [HLV.out, ha0] at HASK
  rw [HLV.out, hrx, hlx] at HSZD
  obtain ⟨sz, hsz⟩ : ∃ sz, (l.room wd).1 = sz := ⟨_, rfl⟩
  obtain ⟨al, hal⟩ : ∃ al, (l.room wd).2 = al := ⟨_, rfl⟩
  rw [show l.room wd = (sz, al) by rw [← hsz, ← hal]] at HSZD
  unfold R1 at HASK HSZD
  have hfr := fr_valid H.out ho.valid
  have HROOM := hide (fun (p : Lay) (hp : p ∈ l.parts) => roomOf_any (HAL.out p hp).1 wd b ho.word (HVL.out.part hp) (hfr.part hp))
  have HCAP := hide (fun (p : Lay) (hp : p ∈ l.parts) => fr_cap (HAL.out p hp).1 (HVL.out.part hp) (hfr.part hp) wd ho.word)
  have hnn : decide ((no : Int) < 0) = false := by simp <;> omega
  have hlen1 : len = 1 := by
    have h9 := HVL.out
    cases l with
    | mk k0' n0' f0' A0' len0' cap0' ps0' =>
      have h8 := h9.kind.2.2.1
      have h7 : k0' = 4 := HKL.out.1
      unfold numL at h8
      rw [if_pos (.inl h7), decide_eq_true_eq] at h8
      exact HSL.out.len.symm.trans h8
  have HL1 := hide hlen1
  have hno : no = 0 := by omega
  subst hno
  have HAT : Hid (atL wd l 0 = 0) := hide (by unfold atL; rw [if_neg (by rw [HKL.out.1]; decide), if_neg (by rw [HKL.out.1]; decide)])
  have hq := Q.refl w2
  obtain ⟨g, o, m', x', y', B, l', d', qs, e, hb, hx, z0, z1, z2, z3⟩ := lay_at (HSL.out.up (HWQ.out.trans hq)) (show 0 < len by omega)
  cases e
  obtain ⟨p, hpe⟩ : ∃ p, Lay.mk m' x' y' B l' d' qs = p := ⟨_, rfl⟩
  have hpv : p.v = .agg #[.int .i64 m', .int .i64 x', .bool y', .slice B l' d'] := by rw [← hpe]; rfl
  have hpe4 : encL p = [.int .i64 m', .int .i64 x', .bool y', .slice B l' d'] := by rw [← hpe]; rfl
  rw [hpe] at hx
  rw [Nat.zero_mul, Nat.add_zero] at z0 z1 z2 z3
  have hpm := List.mem_of_getElem? hx
  obtain ⟨ps1, hps1⟩ : ∃ s, (p.room wd).1 = s := ⟨_, rfl⟩
  obtain ⟨pa1, hpa1⟩ : ∃ s, (p.room wd).2 = s := ⟨_, rfl⟩
  have HRC := hide (HROOM.out p hpm)
  rw [hpv, show p.room wd = (ps1, pa1) by rw [← hps1, ← hpa1], show rmV (ps1, pa1) = .agg #[.int .i64 ps1, .int .i64 pa1] from rfl] at HRC
  have hb2 : g < w2.heap.size := hb
  have HZ0 := hide z0
  have HZ1 := hide z1
  have HZ2 := hide z2
  have HZ3 := hide z3
  clear hq hx hpe hpv hpe4 hps1 hpa1 z0 z1 z2 z3 hlen1
  clear hk hn hsz hal hlen ha0 hrx hlx hfr
  have Q22 := hide (Q.refl w2)
  obtain ⟨k0, k1, k2, k3, t0, t1⟩ := KA.out w2 Q22.out
  go_enter Try.func103, Try.ntmps103
  go_upto_region 1 with fail
  rw [HW2.out]
  have HPR := hide (parts_k4 n f (some ⟨g, o, none⟩) len cap)
  unfold R1 at HPR
  go_wp2_with fail
  refine (HASK.out w2 HWQ.out).mono ?_
  rintro e w3 ⟨rfl, hq3⟩
  have Q23 := hide hq3
  clear hq3 k0 k1 k2 k3 t0 t1
  obtain ⟨k0, k1, k2, k3, t0, t1⟩ := KA.out w3 Q23.out
  go_wp2_with fail
  refine (HPR.out w3).mono ?_
  rintro e w4 ⟨rfl, hq4⟩
  have Q24 := hide (Q23.out.trans hq4)
  clear hq4 k0 k1 k2 k3 t0 t1
  obtain ⟨k0, k1, k2, k3, t0, t1⟩ := KA.out w4 Q24.out
  go_wp2_with fail
  refine (HSZD.out w4 (HWQ.out.trans Q24.out)).mono ?_
  rintro e w5 ⟨rfl, hq5⟩
  have Q25 := hide (Q24.out.trans hq5)
  clear hq5 k0 k1 k2 k3 t0 t1
  obtain ⟨w6, hw6⟩ : ∃ w6, w5.alloc (.cells #[.int .i64 sz, .int .i64 al] 65) = w6 := ⟨_, rfl⟩
  obtain ⟨hq6, hs6, hc6⟩ := box1 hw6
  have HW6 := hide hw6
  have Q26 := hide (Q25.out.trans hq6)
  clear hw6 hc6 hq6
  obtain ⟨k0, k1, k2, k3, t0, t1⟩ := KA.out w6 Q26.out
  go_upto_region 10 with fail
  rw [HW6.out]
  have HB2 : Hid (∀ X, Q w2 X → X.cell? ⟨g, o, none⟩ = some (.int .i64 m') ∧ X.cell? ⟨g, o + 1, none⟩ = some (.int .i64 x') ∧ X.cell? ⟨g, o + 2, none⟩ = some (.bool y') ∧ X.cell? ⟨g, o + 3, none⟩ = some (.slice B l' d')) := hide fun X hX => ⟨(hX.facts.1 _ _ hb2).trans HZ0.out, (hX.facts.1 _ _ hb2).trans HZ1.out, (hX.facts.1 _ _ hb2).trans HZ2.out, (hX.facts.1 _ _ hb2).trans HZ3.out⟩
  go_upto_region 18 with fail
  clear k0 k1 k2 k3 t0 t1
  refine Ri.made (Ri.phi [Ri.isV (.int .i64 0), Ri.isV (.pointer (some ⟨W.heap.size, 3, none⟩)), Ri.isV (.slice (some ⟨g, o, none⟩) len cap), Ri.isV (.pointer (some ⟨g, o + 0 * 4, none⟩)), Ri.isV (.agg #[.int .i64 m', .int .i64 x', .bool y', .slice B l' d']), Ri.isV (tgW wd b), Ri.isV (.agg #[.int .i64 ps1, .int .i64 pa1]), Ri.isV (.int .i64 ps1), Ri.isV (.int .i64 0), Ri.isV (.int .i64 0), Ri.isV (.int .i64 0)]) (by kernel_rfl) (by kernel_rfl) (Ri.phi_mono ?_) ?_ ?_
  · exact ⟨Ri.mono_isV _, Ri.mono_isV _, Ri.mono_isV _, Ri.mono_isV _, Ri.mono_isV _, Ri.mono_isV _, Ri.mono_isV _, Ri.mono_isV _, Ri.mono_isV _, Ri.mono_isV _, Ri.mono_isV _, trivial⟩
  · refine Ri.All.cons ?_ (Ri.All.cons ?_ (Ri.All.cons ?_ (Ri.All.cons ?_ (Ri.All.cons ?_ (Ri.All.cons ?_ (Ri.All.cons ?_ (Ri.All.cons ?_ (Ri.All.cons ?_ (Ri.All.cons ?_ (Ri.All.cons ?_ (Ri.All.nil)))))))))))
    · refine ⟨rfl, fun f9 W9 hq hf A9 hA hB hO => ?_⟩
      have e1 := (hB 2 (by kernel_rfl)).trans (show _ = .int .i64 ((0 : Nat) : Int) by simp [Act.eval])
      exact Ri.wp_value _ (Ri.run_mv rfl e1) rfl
    · refine ⟨rfl, fun f9 W9 hq hf A9 hA hB hO => ?_⟩
      have e1 := (hB 3 (by kernel_rfl)).trans (show _ = .pointer (some ⟨W.heap.size, 0, none⟩) by simp [Act.eval])
      exact Ri.wp_value _ (Ri.run_fld (f := _) rfl e1 Try.underlying24 rfl (sz := 0) (by kernel_rfl)) rfl
    · refine ⟨rfl, fun f9 W9 hq hf A9 hA hB hO => ?_⟩
      have e1 := (hA 58 1 (by kernel_rfl) (by simp)).trans (show f9 1 = _ from hf 1 (by kernel_rfl))
      exact Ri.wp_value _ (Ri.run_ld1 rfl e1 Try.underlying22 rfl ((KA.out W9 (Q26.out.trans ((Q.refl w6).drew.trans hq))).2.2.2.1)) rfl
    · refine ⟨rfl, fun f9 W9 hq hf A9 hA hB hO => ?_⟩
      have e1 := (hA 59 2 (by kernel_rfl) (by simp)).trans (show f9 2 = _ from hf 2 (by kernel_rfl))
      have e2 : A9.eval (.const (.int .i64 0)) = .int .i64 ((0 : Nat) : Int) := rfl
      exact Ri.wp_value _ (Ri.run_idx rfl e1 e2 Try.underlying22 (sz := 4) (by kernel_rfl) (by have := HL1.out; omega)) rfl
    · refine ⟨rfl, fun f9 W9 hq hf A9 hA hB hO => ?_⟩
      have e1 := (hA 60 3 (by kernel_rfl) (by simp)).trans (show f9 3 = _ from hf 3 (by kernel_rfl))
      exact Ri.wp_value _ (Ri.run_ldagg (cs := [.int .i64 m', .int .i64 x', .bool y', .slice B l' d']) rfl e1 (c4G ((HB2.out _ (Q26.out.trans ((Q.refl w6).drew.trans hq))).1) ((HB2.out _ (Q26.out.trans ((Q.refl w6).drew.trans hq))).2.1) ((HB2.out _ (Q26.out.trans ((Q.refl w6).drew.trans hq))).2.2.1) ((HB2.out _ (Q26.out.trans ((Q.refl w6).drew.trans hq))).2.2.2)) Try.underlying24 rfl (by kernel_rfl)) rfl
    · refine ⟨rfl, fun f9 W9 hq hf A9 hA hB hO => ?_⟩
      have e1 := (hB 4 (by kernel_rfl)).trans (show _ = .pointer (some ⟨W.heap.size + 1, 0, none⟩) by simp [Act.eval])
      obtain ⟨-, -, -, -, u0, u1⟩ := KA.out W9 (Q26.out.trans ((Q.refl w6).drew.trans hq))
      exact Ri.wp_value _ (Ri.run_ldagg (cs := [.int .i64 wd, .bool b]) rfl e1 (c2L u0 u1) Try.underlying26 rfl (by kernel_rfl)) rfl
    · refine ⟨rfl, fun f9 W9 hq hf A9 hA hB hO => ?_⟩
      have e1 := (hA 61 4 (by kernel_rfl) (by simp)).trans (show f9 4 = _ from hf 4 (by kernel_rfl))
      have e2 := (hA 62 5 (by kernel_rfl) (by simp)).trans (show f9 5 = _ from hf 5 (by kernel_rfl))
      refine Ri.wp_call #[.agg #[.int .i64 m', .int .i64 x', .bool y', .slice B l' d'], tgW wd b] rfl (by simp [e1, e2]) Try.func58 (by kernel_rfl) (by kernel_rfl) ((HRC.out W9 (HWQ.out.trans (Q26.out.trans ((Q.refl w6).drew.trans hq)))).mono ?_)
      rintro e w9 ⟨rfl, h1⟩
      exact ⟨_, rfl, h1, rfl⟩
    · refine ⟨rfl, fun f9 W9 hq hf A9 hA hB hO => ?_⟩
      have e1 := (hA 63 6 (by kernel_rfl) (by simp)).trans (show f9 6 = _ from hf 6 (by kernel_rfl))
      exact Ri.wp_value _ (Ri.run_fldv rfl e1 (fld65_0 ps1 pa1 W9)) rfl
    · refine ⟨rfl, fun f9 W9 hq hf A9 hA hB hO => ?_⟩
      have e1 := (hA 57 0 (by kernel_rfl) (by simp)).trans (show f9 0 = _ from hf 0 (by kernel_rfl))
      have e2 := (hA 64 7 (by kernel_rfl) (by simp)).trans (show f9 7 = _ from hf 7 (by kernel_rfl))
      exact Ri.wp_value _ ((Ri.run_mulI rfl e1 e2 Try.underlying3 (by rw [Int.zero_mul]; decide) (by rw [Int.zero_mul]; decide)).trans (by rw [Int.zero_mul])) rfl
    · refine ⟨rfl, fun f9 W9 hq hf A9 hA hB hO => ?_⟩
      have e1 := (hA 65 8 (by kernel_rfl) (by simp)).trans (show f9 8 = _ from hf 8 (by kernel_rfl))
      exact Ri.wp_value _ (Ri.run_asg rfl e1) rfl
    · refine ⟨rfl, fun f9 W9 hq hf A9 hA hB hO => ?_⟩
      exact Ri.wp_value _ (Ri.run_asg rfl rfl) rfl
  · intro f9 w8 hq8 hf
    have h9 := hf 9 (by simp)
    have h10 := hf 10 (by simp)
    simp only [Ri.phi, List.getD_cons_zero, List.getD_cons_succ, Ri.isV] at h9 h10
    simp only [Ri.acts, Act.put, List.setIfInBounds_toArray, List.set_cons_zero, List.set_cons_succ, Nat.zero_add, Nat.reduceAdd]
    rw [h9, h10]
    have HQ8 := hide hq8
    clear hf h9 h10 hq8
    go_wp2_with fail
    go_ret2
    exact ⟨by rw [HAT.out] <;> rfl, HQ2.out.trans (Q26.out.trans HQ8.out)⟩
end Go.Proofs.Ytbgbalfhbficaaa

namespace Go.Proofs.Ytbgbalfhbficaaa
open Go.RowKit
set_option linter.unusedVariables false
set_option linter.unusedSimpArgs false
/-- a layout without its places in memory -/
def Lay.ske : Lay → Lay
  | .mk k n f _ _ _ ps => .mk k n f none 0 0 (ps.attach.map fun p => Lay.ske p.1)
termination_by c => SizeOf.sizeOf c
decreasing_by
  have := List.sizeOf_lt_of_mem p.2
  simp
  omega
theorem ske_mk (k n : Int) (f : Bool) (A : Option Addr) (len cap : Nat) (ps : List Lay) : (Lay.mk k n f A len cap ps).ske = .mk k n f none 0 0 (ps.map Lay.ske) := by
  rw [Lay.ske, attach_map']
theorem map_eq_of {α β : Type} {f g : α → β} : ∀ {l : List α}, (∀ x ∈ l, f x = g x) → l.map f = l.map g
  | [], _ => rfl
  | a :: r, h => by rw [List.map_cons, List.map_cons, h a (List.mem_cons_self ..), map_eq_of fun x hx => h x (List.mem_cons_of_mem _ hx)]
theorem flatMap_eq_of {α β : Type} {f g : α → List β} : ∀ {l : List α}, (∀ x ∈ l, f x = g x) → l.flatMap f = l.flatMap g
  | [], _ => rfl
  | a :: r, h => by rw [List.flatMap_cons, List.flatMap_cons, h a (List.mem_cons_self ..), flatMap_eq_of fun x hx => h x (List.mem_cons_of_mem _ hx)]
theorem ske_flat {w : World} {l : Lay} (h : LayR w l) : l.ske.flat = l.flat.map Lay.ske := by
  induction h with
  | @mk k n f A len cap ps _ _ _ _ _ _ ih =>
    rw [ske_mk, flat_mk, flat_mk, List.map_cons, ske_mk, List.flatMap_map, List.map_flatMap, flatMap_eq_of ih]
theorem ske_count {w : World} {l : Lay} (h : LayR w l) : l.ske.count = l.count := by
  unfold Lay.count
  rw [ske_flat h, List.length_map]
theorem ske_k (l : Lay) : l.ske.k = l.k ∧ l.ske.n = l.n ∧ l.ske.f = l.f ∧ l.ske.parts = l.parts.map Lay.ske := by
  cases l
  rw [ske_mk]
  exact ⟨rfl, rfl, rfl, rfl⟩
theorem ske_bits (l : Lay) : bitsL l.ske = bitsL l := by
  unfold bitsL
  rw [(ske_k l).1, (ske_k l).2.1]
theorem ske_pack (l : Lay) : packR l.ske = packR l := by
  unfold packR
  rw [(ske_k l).2.2.2, List.foldl_map]
  simp only [ske_bits]
theorem ske_deep {w : World} {l : Lay} (h : LayR w l) : l.ske.deep = l.deep := by
  induction h with
  | @mk k n f A len cap ps _ _ _ _ _ _ ih =>
    rw [ske_mk, deep_mk, deep_mk, List.map_map, map_eq_of (f := Lay.deep ∘ Lay.ske) ih]
theorem ske_cells {w : World} {l : Lay} (h : LayR w l) : l.ske.cells = l.cells := by
  induction h with
  | @mk k n f A len cap ps _ _ _ _ _ _ ih =>
    rw [ske_mk, cells_mk, cells_mk, List.map_map, map_eq_of (f := Lay.cells ∘ Lay.ske) ih]
theorem ske_big (l : Lay) : bigL l.ske = bigL l := by
  unfold bigL
  rw [(ske_k l).1, (ske_k l).2.1, (ske_k l).2.2.2, List.length_map, ske_pack]
theorem ske_right (l : Lay) : rightL l.ske = rightL l := by
  unfold rightL
  rw [(ske_k l).1, (ske_k l).2.1, (ske_k l).2.2.1, (ske_k l).2.2.2, List.length_map, List.all_map]
  have : ((fun p : Lay => decide (p.k = 1) || decide (p.k = 2)) ∘ Lay.ske) = fun p : Lay => decide (p.k = 1) || decide (p.k = 2) := by
    funext p
    show (decide (p.ske.k = 1) || decide (p.ske.k = 2)) = _
    rw [(ske_k p).1]
  rw [this]
theorem ske_valid {w : World} {l : Lay} (h : LayR w l) : validL l.ske = validL l := by
  unfold validL
  rw [ske_count h, ske_deep h, ske_cells h, ske_flat h, List.any_map, List.all_map]
  have h1 : (bigL ∘ Lay.ske) = bigL := funext ske_big
  have h2 : (rightL ∘ Lay.ske) = rightL := funext ske_right
  rw [h1, h2]
theorem ske_room {w : World} {l : Lay} (h : LayR w l) (wd : Int) : l.ske.room wd = l.room wd := by
  induction h with
  | @mk k n f A len cap ps _ _ _ _ _ _ ih =>
    have hp := ske_pack (.mk k n f A len cap ps)
    rw [ske_mk] at hp
    rw [ske_mk, room_mk, room_mk, hp, List.map_map, map_eq_of (f := Lay.room wd ∘ Lay.ske) ih]
/-- what is said of a layout is said of each of its shape -/
theorem shape_al {w w' : World} {l m : Lay} (h : LayR w l) (h2 : LayR w' m) (e : l.ske = m.ske) (wd : Int) : eL wd l = eL wd m ∧ alL wd l = alL wd m ∧ szL wd l = szL wd m ∧ l.count = m.count := by
  have hv : validL l = validL m := by rw [← ske_valid h, ← ske_valid h2, e]
  have hr : l.room wd = m.room wd := by rw [← ske_room h, ← ske_room h2, e]
  have he : eL wd l = eL wd m := by unfold eL; rw [hv, hr]
  refine ⟨he, by unfold alL; rw [he, hr], by unfold szL; rw [he, hr], by rw [← ske_count h, ← ske_count h2, e]⟩
theorem ske_inj {k n k2 n2 : Int} {f f2 : Bool} {A A2 : Option Addr} {len cap len2 cap2 : Nat} {ps qs : List Lay} (e : (Lay.mk k n f A len cap ps).ske = (Lay.mk k2 n2 f2 A2 len2 cap2 qs).ske) : k = k2 ∧ n = n2 ∧ f = f2 ∧ ps.map Lay.ske = qs.map Lay.ske := by
  rw [ske_mk, ske_mk] at e
  injection e with e1 e2 e3 _ _ _ e4
  exact ⟨e1, e2, e3, e4⟩
end Go.Proofs.Ytbgbalfhbficaaa
