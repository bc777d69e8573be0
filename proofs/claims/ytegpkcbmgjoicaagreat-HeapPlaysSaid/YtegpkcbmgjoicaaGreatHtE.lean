/- The law HeapPlays, walked. Conditions: the slice reads as acts. -/
import Derived.Test.YtegpkcbmgjoicaaGreatHtU2
namespace Go.Proofs.YtegpkcbmgjoicaaGreat
open Go.RowKit HP
set_option linter.unusedVariables false
def PlaysRel (w0 : World) (g bM : Nat) (v9 : Value) (wr : World) (n : Nat) : Prop :=
  ∃ (i : Nat) (m : HM) (v : RV), v9 = .int .i64 (i : Int) ∧ i ≤ n ∧ Hid (OR w0 wr g m v bM ∧ Inv m ∧ Sim m v.m ∧ m.calls ≤ i ∧ wr.heap[bM]? = some (.cells v.cells MT (0, 0)))
set_option maxRecDepth 100000 in
set_option maxHeartbeats 8000000 in
theorem plays_bad (kind size piece : Int) (A : Option Addr) (n c : Nat) (w : World) (hs : shapeB kind size piece = false) : Calls Tryz.prog 3 #[.agg #[.int .i64 kind, .int .i64 size, .int .i64 piece], .slice A n c] w fun e w' => e = .returned (.bool true) ∧ Q w w' := by
  have HN : Hid (∀ W, Calls Tryz.prog 5 #[.int .i64 kind, .int .i64 size, .int .i64 piece] W fun e w' => e = .returned (.tuple #[.pointer none, .int .i64 1]) ∧ Q W w') := fun W => (new_any kind size piece W).mono (by
    rintro e w' (⟨-, h1, h2⟩ | ⟨h1, -⟩)
    · exact ⟨h1, h2⟩
    · rw [hs] at h1; cases h1)
  have HM : Hid (∀ W, Calls Tryz.prog 6 #[.int .i64 kind, .int .i64 size, .int .i64 piece] W fun e w' => e = .returned (.tuple #[.agg #[.int .i64 0, .int .i64 0, .int .i64 0, .slice none 0 0, .slice none 0 0, .int .i64 0, .int .i64 0, .int .i64 0, .int .i64 0], .int .i64 1]) ∧ Q W w') := fun W => (rNew_any kind size piece W).mono (by
    rw [hs]
    rintro e w' (⟨-, h1, h2⟩ | ⟨h1, -⟩)
    · exact ⟨h1, h2⟩
    · cases h1)
  clear hs
  go_enter Tryz.func3, Tryz.ntmps3
  go_wp2_with fail
  refine (HN.out _).mono ?_
  rintro e w1 ⟨rfl, hqw1⟩
  obtain ⟨hcw1, hfw1, hzw1⟩ := hqw1.facts
  try simp at hzw1
  try have hs0w1 : w.heap.size < w1.heap.size := by omega
  try have hs1w1 : w.heap.size + 1 < w1.heap.size := by omega
  go_wp2_with fail
  refine (HM.out _).mono ?_
  rintro e w2 ⟨rfl, hqw2⟩
  obtain ⟨hcw2, hfw2, hzw2⟩ := hqw2.facts
  try simp at hzw2
  try have hs0w2 : w.heap.size < w2.heap.size := by omega
  try have hs1w2 : w.heap.size + 1 < w2.heap.size := by omega
  go_wp2_with fail
  refine (known_any _).mono ?_
  rintro e w3 ⟨rfl, hqw3⟩
  obtain ⟨hcw3, hfw3, hzw3⟩ := hqw3.facts
  try simp at hzw3
  try have hs0w3 : w.heap.size < w3.heap.size := by omega
  try have hs1w3 : w.heap.size + 1 < w3.heap.size := by omega
  go_wp2_with fail
  go_ret
  exact ⟨rfl, (by repeat (first | exact Q.refl _ | assumption | refine Q.drew ?_ | refine Q.drewN ?_ _ | refine Q.alloc ?_ _ | refine Q.set ?_ (by first | (simp; done) | (simp; omega) | omega) _ | refine Q.trans ?_ (by assumption)))⟩
set_option maxRecDepth 100000 in
set_option maxHeartbeats 8000000 in
theorem plays_long (kind size piece : Int) (A : Option Addr) (n c : Nat) (w : World) (hs : shapeB kind size piece = true) (hn : n ≤ 140737488351232) (hl : 320 < n) : Calls Tryz.prog 3 #[.agg #[.int .i64 kind, .int .i64 size, .int .i64 piece], .slice A n c] w fun e w' => e = .returned (.bool true) ∧ Q w w' := by
  have HN : Hid (∀ W, Calls Tryz.prog 5 #[.int .i64 kind, .int .i64 size, .int .i64 piece] W fun e w' => ∃ g, e = .returned (.tuple #[.pointer (some ⟨g, 0, none⟩), .int .i64 0]) ∧ Q W w') := fun W => (own_new hs W).mono (by
    rintro e w' ⟨g, h, O⟩
    exact ⟨g, h, O.toQ⟩)
  have HM : Hid (∀ W, Calls Tryz.prog 6 #[.int .i64 kind, .int .i64 size, .int .i64 piece] W fun e w' => ∃ v' : RV, e = .returned (.tuple #[.agg v'.cells, .int .i64 0]) ∧ Q W w') := fun W => (rNew_any kind size piece W).mono (by
    rw [hs]
    rintro e w' (⟨h1, -⟩ | ⟨-, v', h1, -, -, -, -, h2⟩)
    · cases h1
    · exact ⟨v', h1, h2⟩)
  have HL : Hid (∀ W, Calls Tryz.prog 7 #[.slice A n c] W fun e w' => e = .returned (.bool true) ∧ Q W w') := fun W => by
    have := long_any A n c W hn
    rw [decide_eq_true hl] at this
    exact this
  clear hs hn hl
  go_enter Tryz.func3, Tryz.ntmps3
  go_wp2_with fail
  refine (HN.out _).mono ?_
  rintro e w1 ⟨g, rfl, hq1⟩
  have hz1 := hq1.size
  have HQ1 := hide hq1
  obtain ⟨hc1, hf1, -⟩ := hq1.facts
  clear hq1
  go_wp2_with fail
  refine (HM.out _).mono ?_
  rintro e w2 ⟨⟨A', n', c', B', k', d', ⟨r0, r1, r2, rb, ry, r5, r6, r7, r8⟩⟩, rfl, hq2⟩
  have hz2 := hq2.size
  have hq1 := HQ1.out
  dsimp only [RV.cells]
  go_wp2_with fail
  refine (HL.out _).mono ?_
  rintro e w3 ⟨rfl, hqw3⟩
  obtain ⟨hcw3, hfw3, hzw3⟩ := hqw3.facts
  try simp at hzw3
  try have hs0w3 : w.heap.size < w3.heap.size := by omega
  try have hs1w3 : w.heap.size + 1 < w3.heap.size := by omega
  go_wp2_with fail
  refine (known_any _).mono ?_
  rintro e w4 ⟨rfl, hqw4⟩
  obtain ⟨hcw4, hfw4, hzw4⟩ := hqw4.facts
  try simp at hzw4
  try have hs0w4 : w.heap.size < w4.heap.size := by omega
  try have hs1w4 : w.heap.size + 1 < w4.heap.size := by omega
  go_wp2_with fail
  go_ret
  exact ⟨rfl, (by repeat (first | exact Q.refl _ | assumption | refine Q.drew ?_ | refine Q.drewN ?_ _ | refine Q.alloc ?_ _ | refine Q.set ?_ (by first | (simp; done) | (simp; omega) | omega) _ | refine Q.trans ?_ (by assumption)))⟩
set_option maxRecDepth 100000 in
set_option maxHeartbeats 8000000 in
theorem plays_good (kind size piece : Int) (A : Option Addr) (n c : Nat) (l : List Ask3) (w : World) (hs : shapeB kind size piece = true) (hS : SlOk 3 encA okA w ⟨A, n, c, l⟩) (hl : ¬ 320 < n) : Calls Tryz.prog 3 #[.agg #[.int .i64 kind, .int .i64 size, .int .i64 piece], .slice A n c] w fun e w' => e = .returned (.bool true) ∧ Q w w' := by
  have hnc := hS.sl.cap
  have hbig := hS.big
  dsimp only at hnc hbig
  have HS := hide hS
  have hni : (n : Int) ≤ 320 := by omega
  have HL : Hid (∀ W, Calls Tryz.prog 7 #[.slice A n c] W fun e w' => e = .returned (.bool false) ∧ Q W w') := fun W => by
    have := long_any A n c W (by omega)
    rw [decide_eq_false hl] at this
    exact this
  have HI0 := hide (newM_inv hs)
  have HS0 := hide (sim_new hs)
  obtain ⟨w1, hw1⟩ : ∃ w1, w.alloc (.cells #[.int .i64 kind, .int .i64 size, .int .i64 piece] 23) = w1 := ⟨_, rfl⟩
  have hq1 : Q w w1 := by rw [← hw1]; exact (Q.refl w).alloc _
  have hb10 : w1.cell? ⟨w.heap.size, 0, none⟩ = some (.int .i64 kind) := by rw [← hw1, cell_new]; rfl
  have hb11 : w1.cell? ⟨w.heap.size, 1, none⟩ = some (.int .i64 size) := by rw [← hw1, cell_new]; rfl
  have hb12 : w1.cell? ⟨w.heap.size, 2, none⟩ = some (.int .i64 piece) := by rw [← hw1, cell_new]; rfl
  have hbx1 : w.heap.size < w1.heap.size := by rw [← hw1]; simp
  have HN := hide (own_new hs w1)
  have HM : Hid (∀ W, Calls Tryz.prog 6 #[.int .i64 kind, .int .i64 size, .int .i64 piece] W fun e w' => ∃ v', e = .returned (.tuple #[.agg v'.cells, .int .i64 0]) ∧ v'.m = newR kind size piece ∧ RmR w' v' ∧ FrA W.heap.size none v'.A [] v'.m.bl ∧ FrA W.heap.size none v'.B [] v'.m.ys ∧ Q W w') := fun W => (rNew_any kind size piece W).mono (by
    rw [hs]
    rintro e w' (⟨h1, -⟩ | ⟨-, v', h1, h2, h3, h5, h6, h4⟩)
    · cases h1
    · exact ⟨v', h1, h2, h3, h5, h6, h4⟩)
  have HW1 := hide hw1
  clear hw1 hs hS hl
  go_enter Tryz.func3, Tryz.ntmps3
  go_wp2_with fail
  rw [HW1.out]
  refine HN.out.mono ?_
  rintro e w2 ⟨g, rfl, o2⟩
  have O2 := hide o2
  have hqo := o2.toQ
  have c20 := (hqo.facts.1 _ 0 hbx1).trans hb10
  have c21 := (hqo.facts.1 _ 1 hbx1).trans hb11
  have c22 := (hqo.facts.1 _ 2 hbx1).trans hb12
  clear o2
  go_wp2_with fail
  refine (HM.out w2).mono ?_
  rintro e w3 ⟨⟨A', n', c', B', k', d', ⟨r0, r1, r2, rb, ry, r5, r6, r7, r8⟩⟩, rfl, hvm, hvR, hvF, hvG, hq3⟩
  obtain ⟨bM, hbM⟩ : ∃ bM, bM = w3.heap.size := ⟨_, rfl⟩
  obtain ⟨w4, hw4⟩ : ∃ w4, w3.alloc (.cells #[.int .i64 r0, .int .i64 r1, .int .i64 r2, .slice A' n' c', .slice B' k' d', .int .i64 r5, .int .i64 r6, .int .i64 r7, .int .i64 r8] MT) = w4 := ⟨_, rfl⟩
  have hq34 : Q w3 w4 := by rw [← hw4]; exact (Q.refl _).alloc _
  have HR4 := hide (show w4.heap[bM]? = some (.cells #[.int .i64 r0, .int .i64 r1, .int .i64 r2, .slice A' n' c', .slice B' k' d', .int .i64 r5, .int .i64 r6, .int .i64 r7, .int .i64 r8] MT (0, 0)) by rw [← hw4, hbM]; exact heap_alloc_new w3 _)
  have HO4 : Hid (OR w1 w4 g (newM kind size piece) ⟨A', n', c', B', k', d', ⟨r0, r1, r2, rb, ry, r5, r6, r7, r8⟩⟩ bM) := or_start O2.out hq3 hvR hq34 hbM hvF hvG
  have HW4 := hide hw4
  have HBM := hide hbM
  have HVM := hide hvm
  dsimp only [RV.cells]
  have hs3 := hq3.size
  have hs2w := hqo.size
  clear hvF hvG hw4 hbM hvm hvR hq34 O2 hqo c20 c21 c22 hq3
  go_wp2_with fail
  rw [HW4.out, ← HBM.out]
  refine (HL.out _).mono ?_
  rintro e w5 ⟨rfl, hq5⟩
  have HO5 := hide (HO4.out.q hq5)
  have HR5 := hide ((hq5.below.block _ (blk_lt HR4.out)).trans HR4.out)
  have hbMs : w1.heap.size ≤ bM := by have := HBM.out; omega
  clear hq5 HO4 HR4 HW4
  go_wp2_with fail
  go_loopw [9] (fun v9 wr => PlaysRel w1 g bM v9 wr n) (fun v9 _ => n - (intOf v9).toNat)
  case atStart => exact ⟨0, _, _, by go_num, Nat.zero_le _, hide ⟨HO5.out, HI0.out, by rw [show ((⟨A', n', c', B', k', d', ⟨r0, r1, r2, rb, ry, r5, r6, r7, r8⟩⟩ : RV).m) = _ from HVM.out]; exact HS0.out, Int.le_refl _, HR5.out⟩⟩
  case round =>
    obtain ⟨i, m, v, rfl, hi, HO⟩ := hrel
    have hq0 : Q w1 wr := HO.out.1.toQ
    have hz0 := hq0.size
    have q0 := HO.out.2.2.2.2
    have hbr := blk_lt q0
    by_cases hlt : i < n
    · have hd1 : decide ((i : Int) < (n : Int)) = true := by simp; omega
      have hd0 : decide (i < n) = true := by simp; omega
      have hlti : (i : Int) < (n : Int) := by omega
      obtain ⟨bA, oA, op, a1, b1, hA, hbl, hx, x0, x1, x2⟩ := HS.out.sl.ask i hlt
      dsimp only at hA
      subst hA
      have hok := HS.out.all _ (List.mem_of_getElem? hx)
      obtain ⟨a0l, a0h⟩ : -9223372036854775808 ≤ a1 ∧ a1 ≤ 9223372036854775807 := okI_b (w := w) hok.2.1
      have hqw := hq1.trans hq0
      have y0 := (hqw.facts.1 bA _ hbl).trans x0
      have y1 := (hqw.facts.1 bA _ hbl).trans x1
      have y2 := (hqw.facts.1 bA _ hbl).trans x2
      have hsim := act_sim HO.out.2.2.1 HO.out.2.1 op a1 b1
      obtain ⟨m2, hm2⟩ : ∃ m2, m2 = (actM m op a1 b1).1 := ⟨_, rfl⟩
      obtain ⟨rx, hrx⟩ : ∃ rx, rx = (actM m op a1 b1).2.1 := ⟨_, rfl⟩
      obtain ⟨ry, hry⟩ : ∃ ry, ry = (actM m op a1 b1).2.2 := ⟨_, rfl⟩
      have hmc : m.calls ≤ i := HO.out.2.2.2.1
      have HACT : Hid (Calls Tryz.prog 9 #[.pointer (some ⟨g, 0, none⟩), .agg #[.int .i64 op, .int .i64 a1, .int .i64 b1]] wr fun e w' => e = .returned (.tuple #[.int .i64 rx, .int .i64 ry]) ∧ OR w1 w' g m2 v bM ∧ KeepM wr w') := by
        rw [hrx, hry, hm2]
        exact or_act HO.out.1 HO.out.2.1 (by omega) op a1 b1 ⟨a0l, a0h⟩
      have HI2 : Hid (Inv m2) := by rw [hm2]; exact act_inv HO.out.2.1 _ _ _
      have HC2 : Hid (m2.calls ≤ ((i + 1 : Nat) : Int)) := by
        have h1 := act_calls m op a1 b1
        rw [hm2]
        refine hide ?_
        push_cast
        omega
      have HC3 : m2.calls < 1000000 := by have := HC2.out; omega
      have HRF : Hid (∀ W, OR w1 W g m2 v bM → bM < W.heap.size → Calls Tryz.prog 10 #[v.val, .agg #[.int .i64 op, .int .i64 a1, .int .i64 b1]] W fun e w' => ∃ v', e = .returned (.tuple #[v'.val, .int .i64 rx, .int .i64 ry]) ∧ Sim m2 v'.m ∧ OR w1 w' g m2 v' bM ∧ RmR w' v' ∧ Fr W.heap.size v v' ∧ Q W w') := fun W O hb => by
        refine (or_ref O (HO.out.2.2.1.K HO.out.2.1 (by omega)) hb op a1 b1).mono ?_
        rintro e w' ⟨v', he, hm, O', hR, hF, hq⟩
        rw [← hsim.1, ← hrx, ← hry] at he
        refine ⟨v', he, ?_, O', hR, hF, hq⟩
        rw [hm, hm2]
        exact hsim.2
      have HSH : Hid (∀ W v', OR w1 W g m2 v' bM → Sim m2 v'.m → Calls Tryz.prog 11 #[.pointer (some ⟨g, 0, none⟩), v'.val] W fun e w' => e = .returned (.bool true) ∧ OR w1 w' g m2 v' bM ∧ KeepM W w') := fun W v' O S => or_shows O HI2.out S HC3
      have HX0 : Hid (∀ W, Q w W → W.cell? ⟨bA, oA + i * 3, none⟩ = some (.int .i64 op) ∧ W.cell? ⟨bA, oA + i * 3 + 1, none⟩ = some (.int .i64 a1) ∧ W.cell? ⟨bA, oA + i * 3 + 2, none⟩ = some (.int .i64 b1)) := fun W hq => ⟨(hq.facts.1 bA _ hbl).trans x0, (hq.facts.1 bA _ hbl).trans x1, (hq.facts.1 bA _ hbl).trans x2⟩
      clear hm2 hrx hry hx hok x0 x1 x2 hsim hmc
      go_wp2_with fail
      refine HACT.out.mono ?_
      rintro e w2 ⟨rfl, o2, km2⟩
      have O2 := hide o2
      have hq2 := o2.toQ
      obtain ⟨u0, u1, u2⟩ := HX0.out w2 (hq1.trans hq2)
      have q2 := km2 _ _ q0
      have hb2 := blk_lt q2
      have HQ2 := hide q2
      have hz2' := hq2.size
      have hz2m : w1.heap.size ≤ w2.heap.size := hz2'
      have hbA2 : bA < w2.heap.size := by have := hq1.size; omega
      clear o2 y0 y1 y2 HACT q0 q2 km2
      go_wp2_with fail
      refine Ri.made_mid 11 10 (Ri.phi [Ri.isV (.agg v.cells), Ri.isV ((.slice (some ⟨bA, oA, none⟩) n c)), Ri.isV (.int .i64 (i : Int)), Ri.isV (.pointer (some ⟨bA, oA + i * 3, none⟩)), Ri.isV (.agg #[.int .i64 op, .int .i64 a1, .int .i64 b1]), GoodT w1 g m2 bM rx ry, GoodT w1 g m2 bM rx ry, GoodV w1 g m2 bM, Ri.isV (.int .i64 rx), Ri.isV (.int .i64 ry), NewB w2.heap.size, (fun _ _ => True), Ri.isV (.int .i64 rx), Ri.isV (.int .i64 ry)]) (GoodB w1 g m2 bM) (by kernel_rfl) (by kernel_rfl) (by decide) (by kernel_rfl) (Ri.phi_mono ?_) (Ri.phi_monoB ?_) ?_ ?_ (fun _ _ => trivial) ?_
      · exact ⟨Ri.mono_isV _, Ri.mono_isV _, Ri.mono_isV _, Ri.mono_isV _, Ri.mono_isV _, goodT_q _ _ _ _ _ _, goodT_q _ _ _ _ _ _, goodV_q _ _ _ _, Ri.mono_isV _, Ri.mono_isV _, newB_q _, (fun _ _ _ _ _ => trivial), Ri.mono_isV _, Ri.mono_isV _, trivial⟩
      · exact ⟨Ri.mono_isB _, Ri.mono_isB _, Ri.mono_isB _, Ri.mono_isB _, Ri.mono_isB _, goodT_b hz2m, goodT_b hz2m, goodV_b hz2m, Ri.mono_isB _, Ri.mono_isB _, newB_b, (fun _ _ _ _ _ _ _ => trivial), Ri.mono_isB _, Ri.mono_isB _, trivial⟩
      · exact goodB_q _ _ _ _
      · refine Ri.All.cons ?_ (Ri.All.cons ?_ (Ri.All.cons ?_ (Ri.All.cons ?_ (Ri.All.cons ?_ (Ri.All.cons ?_ (Ri.All.cons ?_ (Ri.All.cons ?_ (Ri.All.cons ?_ (Ri.All.cons ?_ (Ri.All.cons ?_ (Ri.All.cons ?_ (Ri.All.cons ?_ (Ri.All.cons ?_ (Ri.All.nil))))))))))))))
        · refine ⟨fun e => absurd e (by decide), fun _ => ⟨rfl, fun f W hq hf A hA hB hO => ?_⟩⟩
          have e1 := (hB 7 (by kernel_rfl)).trans (show _ = .pointer (some ⟨bM, 0, none⟩) by simp [Act.eval])
          exact Ri.wp_value _ (Ri.run_ldrow rfl e1 ((((Q.refl w2).drew.trans hq).below.block _ hb2).trans HQ2.out) Tryz.underlying32 rfl (by kernel_rfl)) rfl
        · refine ⟨fun e => absurd e (by decide), fun _ => ⟨rfl, fun f W hq hf A hA hB hO => ?_⟩⟩
          have e1 := (hB 1 (by kernel_rfl)).trans (show _ = (.slice (some ⟨bA, oA, none⟩) n c) by simp [Act.eval])
          exact Ri.wp_value _ (Ri.run_mv rfl e1) rfl
        · refine ⟨fun e => absurd e (by decide), fun _ => ⟨rfl, fun f W hq hf A hA hB hO => ?_⟩⟩
          have e1 := (hB 9 (by kernel_rfl)).trans (show _ = .int .i64 (i : Int) by simp [Act.eval])
          exact Ri.wp_value _ (Ri.run_mv rfl e1) rfl
        · refine ⟨fun e => absurd e (by decide), fun _ => ⟨rfl, fun f W hq hf A hA hB hO => ?_⟩⟩
          have e1 := (hA 69 1 (by kernel_rfl) (by simp)).trans (show f 1 = _ from hf 1 (by kernel_rfl))
          have e2 := (hA 70 2 (by kernel_rfl) (by simp)).trans (show f 2 = _ from hf 2 (by kernel_rfl))
          exact Ri.wp_value _ (Ri.run_idx (k := i) rfl e1 e2 Tryz.underlying24 (by kernel_rfl) hlt) rfl
        · refine ⟨fun e => absurd e (by decide), fun _ => ⟨rfl, fun f W hq hf A hA hB hO => ?_⟩⟩
          have e1 := (hA 71 3 (by kernel_rfl) (by simp)).trans (show f 3 = _ from hf 3 (by kernel_rfl))
          exact Ri.wp_value _ (Ri.run_ldagg (cs := [.int .i64 op, .int .i64 a1, .int .i64 b1]) rfl e1 (cells3 ((((Q.refl w2).drew.trans hq).facts.1 bA _ hbA2).trans u0) ((((Q.refl w2).drew.trans hq).facts.1 bA _ hbA2).trans u1) ((((Q.refl w2).drew.trans hq).facts.1 bA _ hbA2).trans u2)) Tryz.underlying40 rfl (by kernel_rfl)) rfl
        · refine ⟨fun e => absurd e (by decide), fun _ => ⟨rfl, fun f W hq hf A hA hB hO => ?_⟩⟩
          have e1 := (hA 68 0 (by kernel_rfl) (by simp)).trans (show f 0 = _ from hf 0 (by kernel_rfl))
          have e2 := (hA 72 4 (by kernel_rfl) (by simp)).trans (show f 4 = _ from hf 4 (by kernel_rfl))
          refine Ri.wp_call #[.agg v.cells, .agg #[.int .i64 op, .int .i64 a1, .int .i64 b1]] rfl (by simp [e1, e2]) Tryz.func10 (by kernel_rfl) (by kernel_rfl) ((HRF.out W (O2.out.q ((Q.refl w2).drew.trans hq)) (Nat.lt_of_lt_of_le hb2 hq.size)).mono ?_)
          rintro e w3 ⟨v', rfl, hS, hO3, -, -, hq3⟩
          exact ⟨_, rfl, hq3, v', rfl, hS, hO3⟩
        · refine ⟨fun e => absurd e (by decide), fun _ => ⟨rfl, fun f W hq hf A hA hB hO => ?_⟩⟩
          obtain ⟨v', hv, hS, hO3⟩ : GoodT w1 g m2 bM rx ry (f 5) W := hf 5 (by kernel_rfl)
          exact Ri.wp_value _ (Ri.run_mv rfl ((hA 73 5 (by kernel_rfl) (by simp)).trans hv)) ⟨v', rfl, hS, hO3⟩
        · refine ⟨fun e => absurd e (by decide), fun _ => ⟨rfl, fun f W hq hf A hA hB hO => ?_⟩⟩
          obtain ⟨v', hv, hS, hO3⟩ : GoodT w1 g m2 bM rx ry (f 6) W := hf 6 (by kernel_rfl)
          exact Ri.wp_value _ (Ri.run_ext rfl ((hA 67 6 (by kernel_rfl) (by simp)).trans hv) rfl) ⟨v', rfl, hS, hO3⟩
        · refine ⟨fun e => absurd e (by decide), fun _ => ⟨rfl, fun f W hq hf A hA hB hO => ?_⟩⟩
          obtain ⟨v', hv, hS, hO3⟩ : GoodT w1 g m2 bM rx ry (f 6) W := hf 6 (by kernel_rfl)
          exact Ri.wp_value _ (Ri.run_ext rfl ((hA 67 6 (by kernel_rfl) (by simp)).trans hv) rfl) rfl
        · refine ⟨fun e => absurd e (by decide), fun _ => ⟨rfl, fun f W hq hf A hA hB hO => ?_⟩⟩
          obtain ⟨v', hv, hS, hO3⟩ : GoodT w1 g m2 bM rx ry (f 6) W := hf 6 (by kernel_rfl)
          exact Ri.wp_value _ (Ri.run_ext rfl ((hA 67 6 (by kernel_rfl) (by simp)).trans hv) rfl) rfl
        · refine ⟨fun e => absurd e (by decide), fun _ => ⟨rfl, fun f W hq hf A hA hB hO => ?_⟩⟩
          exact Ri.wp_val _ (Ri.run_allocM rfl) ((Q.refl W).alloc _) ⟨_, rfl, hq.size, _, rfl, heap_alloc_new W _⟩
        · refine ⟨fun _ => ⟨rfl, fun f W hq hf A hA hB => ?_⟩, fun h => absurd rfl h⟩
          obtain ⟨v', hv, hS, hO3⟩ : GoodV w1 g m2 bM (f 7) W := hf 7 (by kernel_rfl)
          obtain ⟨b, hbv, hbl, cs, hcs, hrow⟩ : NewB w2.heap.size (f 10) W := hf 10 (by kernel_rfl)
          have e1 := (hA 12 10 (by kernel_rfl) (by simp)).trans hbv
          have e2 := (hA 74 7 (by kernel_rfl) (by simp)).trans hv
          have hrow2 := setRow_heap W b cs v'.cells MT (0, 0) hrow
          have hSB : StB b W (W.setRow b v'.cells) := ⟨⟨rfl, rfl, rfl, by simp, fun i _ hi => setRow_other _ _ _ _ hi⟩, ⟨cs, hrow⟩, ⟨v'.cells, rfl, hrow2⟩⟩
          refine Ri.wp_rowG rfl e1 e2 rfl hrow (by kernel_rfl) hcs (by simp [RV.cells, Value.oneCell']) ⟨b, hbl, hSB⟩ ⟨b, v', hbv, hrow2, hS, hO3.stB hSB (Nat.le_trans hz2m hbl)⟩
        · refine ⟨fun e => absurd e (by decide), fun _ => ⟨rfl, fun f W hq hf A hA hB hO => ?_⟩⟩
          have e1 := (hA 75 8 (by kernel_rfl) (by simp)).trans (show f 8 = _ from hf 8 (by kernel_rfl))
          exact Ri.wp_value _ (Ri.run_asg rfl e1) rfl
        · refine ⟨fun e => absurd e (by decide), fun _ => ⟨rfl, fun f W hq hf A hA hB hO => ?_⟩⟩
          have e1 := (hA 76 9 (by kernel_rfl) (by simp)).trans (show f 9 = _ from hf 9 (by kernel_rfl))
          exact Ri.wp_value _ (Ri.run_asg rfl e1) rfl
      · intro f W hq hf hg
        have e12 : f 12 = .int .i64 rx := hf 12 (by simp) (by decide)
        have e13 : f 13 = .int .i64 ry := hf 13 (by simp) (by decide)
        obtain ⟨b, ⟨A2, n2, c2, B2, k2, d2, ⟨t0, t1, t2, tb, ty, t5, t6, t7, t8⟩⟩, e10, hrow, S3, O3⟩ := hg
        have hqw : Q w2 W := hq
        have qM := (hqw.below.block _ hb2).trans HQ2.out
        simp only [Ri.acts, Act.put, List.setIfInBounds_toArray, List.set_cons_zero, List.set_cons_succ, Nat.zero_add, Nat.reduceAdd]
        rw [e10, e12, e13]
        dsimp only [RV.cells] at hrow
        obtain ⟨i0, i1, i2, i3, i4, i5, i6, i7, i8⟩ := cells9 hrow
        obtain ⟨z0, z1, z2, z3, z4, z5, z6, z7, z8⟩ := cells9 qM
        obtain ⟨f0, f1, f2, f3, f4, f5, f6, f7, f8⟩ := free9 qM
        have HQW := hide hqw
        have HO3 := hide O3
        have HS3 := hide S3
        have HQM := hide qM
        have bnx : (rx != rx) = false := by simp
        have bny : (ry != ry) = false := by simp
        clear hq hf hqw O3 S3 qM e10 e12 e13 hrow
        go_wp2_with fail
        obtain ⟨W3, hW3⟩ : ∃ W3, W3 = (((((((((W.setCell ⟨bM, 0, none⟩ (.int .i64 t0)).setCell ⟨bM, 1, none⟩ (.int .i64 t1)).setCell ⟨bM, 2, none⟩ (.int .i64 t2)).setCell ⟨bM, 3, none⟩ (.slice A2 n2 c2)).setCell ⟨bM, 4, none⟩ (.slice B2 k2 d2)).setCell ⟨bM, 5, none⟩ (.int .i64 t5)).setCell ⟨bM, 6, none⟩ (.int .i64 t6)).setCell ⟨bM, 7, none⟩ (.int .i64 t7)).setCell ⟨bM, 8, none⟩ (.int .i64 t8)) := ⟨_, rfl⟩
        rw [← hW3]
        have HQ3 : Hid (Q w1 W3) := by
          rw [hW3]
          exact q9 (w0 := w1) (w := W) (b := bM) (.int .i64 t0) (.int .i64 t1) (.int .i64 t2) (.slice A2 n2 c2) (.slice B2 k2 d2) (.int .i64 t5) (.int .i64 t6) (.int .i64 t7) (.int .i64 t8) HO3.out.toQ hbMs
        have HT3 := turn9 W bM (.int .i64 t0) (.int .i64 t1) (.int .i64 t2) (.slice A2 n2 c2) (.slice B2 k2 d2) (.int .i64 t5) (.int .i64 t6) (.int .i64 t7) (.int .i64 t8)
        rw [← hW3] at HT3
        have HO4 := hide (HO3.out.box HQM.out HT3 HQ3.out)
        have HR4 : Hid (W3.heap[bM]? = some (.cells #[.int .i64 t0, .int .i64 t1, .int .i64 t2, .slice A2 n2 c2, .slice B2 k2 d2, .int .i64 t5, .int .i64 t6, .int .i64 t7, .int .i64 t8] MT (0, 0))) := by
          rw [hW3]
          exact row9g (w := W) (b := bM) (.int .i64 t0) (.int .i64 t1) (.int .i64 t2) (.slice A2 n2 c2) (.slice B2 k2 d2) (.int .i64 t5) (.int .i64 t6) (.int .i64 t7) (.int .i64 t8) HQM.out
        have HSW := hide (HSH.out W3 _ HO4.out HS3.out)
        clear hW3 HT3 HO3 HSH HRF i0 i1 i2 i3 i4 i5 i6 i7 i8 z0 z1 z2 z3 z4 z5 z6 z7 z8 f0 f1 f2 f3 f4 f5 f6 f7 f8
        refine HSW.out.mono ?_
        rintro e w5 ⟨rfl, o5, km5⟩
        have O5 := hide o5
        have HR5 := hide (km5 _ _ HR4.out)
        clear o5 km5 HSW
        go_wp2_with fail
        go_roundw
        case rel => exact ⟨i + 1, m2, _, by go_num, by omega, hide ⟨O5.out, HI2.out, HS3.out, HC2.out, HR5.out⟩⟩
        case measure => simp [intOf] <;> omega
    · have hd1 : decide ((i : Int) < (n : Int)) = false := by simp; omega
      have hd0 : decide (i < n) = false := by simp; omega
      obtain rfl : i = n := by omega
      go_wp2_with fail
      refine (known_any _).mono ?_
      rintro e w9 ⟨rfl, hqw9⟩
      obtain ⟨hcw9, hfw9, hzw9⟩ := hqw9.facts
      try simp at hzw9
      try have hs0w9 : w.heap.size < w9.heap.size := by omega
      try have hs1w9 : w.heap.size + 1 < w9.heap.size := by omega
      go_wp2_with fail
      go_ret
      exact ⟨rfl, hq1.trans (hq0.trans hqw9)⟩
theorem plays_any (kind size piece : Int) (v : SlV Ask3) (w : World) (hS : SlOk 3 encA okA w v) : Calls Tryz.prog 3 #[.agg #[.int .i64 kind, .int .i64 size, .int .i64 piece], v.val] w fun e w' => e = .returned (.bool true) ∧ Q w w' := by
  obtain ⟨A, n, c, l⟩ := v
  unfold SlV.val
  cases hs : shapeB kind size piece
  · exact plays_bad kind size piece A n c w hs
  · by_cases hl : 320 < n
    · exact plays_long kind size piece A n c w hs (by have := hS.sl.cap; have := hS.big; dsimp only at *; omega) hl
    · exact plays_good kind size piece A n c l w hs hS hl
end Go.Proofs.YtegpkcbmgjoicaaGreat
