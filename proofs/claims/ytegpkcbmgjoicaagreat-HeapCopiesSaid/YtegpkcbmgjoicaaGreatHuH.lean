/- The law HeapCopies, walked. Conditions: the slices read as acts. -/
import Derived.Test.YtegpkcbmgjoicaaGreatHuU2
namespace Go.Proofs.YtegpkcbmgjoicaaGreat
open Go.RowKit HP
set_option linter.unusedVariables false
def CopRel (w0 : World) (g bM : Nat) (v9 : Value) (wr : World) (n : Nat) : Prop :=
  ∃ (i : Nat) (m : HM) (v : RV), v9 = .int .i64 (i : Int) ∧ i ≤ n ∧ Hid (OR w0 wr g m v bM ∧ Inv m ∧ Sim m v.m ∧ m.calls ≤ i ∧ wr.heap[bM]? = some (.cells v.cells MT (0, 0)))
def CopiesRel (w0 : World) (g bM : Nat) (m : HM) (v : RV) (g2 bN n : Nat) (v14 : Value) (wr : World) (nm : Nat) : Prop :=
  ∃ (i : Nat) (mc : HM) (u : RV), v14 = .int .i64 (i : Int) ∧ i ≤ nm ∧ Hid (OR2 w0 wr g m g2 mc v u bM bN ∧ Inv mc ∧ Sim mc u.m ∧ mc.calls ≤ n + i ∧ wr.heap[bM]? = some (.cells v.cells MT (0, 0)) ∧ wr.heap[bN]? = some (.cells u.cells MT (0, 0)) ∧ m.kind = mc.kind ∧ m.piece = mc.piece ∧ m.size = mc.size)
def XM (w0 : World) (g : Nat) (m : HM) (bM : Nat) (W : World) : Prop := ∃ v' : RV, W.heap[bM]? = some (.cells v'.cells MT (0, 0)) ∧ Sim m v'.m ∧ OR w0 W g m v' bM
theorem xm_q (w0 : World) (g : Nat) (m : HM) (bM : Nat) : ∀ w1 w2, XM w0 g m bM w1 → Q w1 w2 → XM w0 g m bM w2 := fun _ _ ⟨v', h, S, O⟩ hq => ⟨v', (hq.below.block _ (blk_lt h)).trans h, S, O.q hq⟩
/-- all is kept that the last test reads -/
def JC (w0 : World) (g : Nat) (m : HM) (g2 : Nat) (mc : HM) (v u : RV) (bM bN : Nat) (W : World) : Prop := OR2 w0 W g m g2 mc v u bM bN ∧ W.heap[bM]? = some (.cells v.cells MT (0, 0)) ∧ W.heap[bN]? = some (.cells u.cells MT (0, 0))
theorem JC.keep {w0 W W' : World} {g g2 bM bN : Nat} {m mc : HM} {v u : RV} (J : JC w0 g m g2 mc v u bM bN W) (O : OR2 w0 W' g m g2 mc v u bM bN) (k : KeepM W W') : JC w0 g m g2 mc v u bM bN W' := ⟨O, k _ _ J.2.1, k _ _ J.2.2⟩
set_option maxRecDepth 100000 in
set_option maxHeartbeats 8000000 in
theorem copies_bad (kind size piece : Int) (A Am : Option Addr) (n c nm cm : Nat) (w : World) (hs : shapeB kind size piece = false) : Calls Tryz.prog 4 #[.agg #[.int .i64 kind, .int .i64 size, .int .i64 piece], .slice A n c, .slice Am nm cm] w fun e w' => e = .returned (.bool true) ∧ Q w w' := by
  have HN : Hid (∀ W, Calls Tryz.prog 5 #[.int .i64 kind, .int .i64 size, .int .i64 piece] W fun e w' => e = .returned (.tuple #[.pointer none, .int .i64 1]) ∧ Q W w') := fun W => (new_any kind size piece W).mono (by
    rintro e w' (⟨-, h1, h2⟩ | ⟨h1, -⟩)
    · exact ⟨h1, h2⟩
    · rw [hs] at h1; cases h1)
  have HM : Hid (∀ W, Calls Tryz.prog 6 #[.int .i64 kind, .int .i64 size, .int .i64 piece] W fun e w' => e = .returned (.tuple #[.agg #[.int .i64 0, .int .i64 0, .int .i64 0, .slice none 0 0, .slice none 0 0, .int .i64 0, .int .i64 0, .int .i64 0, .int .i64 0], .int .i64 1]) ∧ Q W w') := fun W => (rNew_any kind size piece W).mono (by
    rw [hs]
    rintro e w' (⟨-, h1, h2⟩ | ⟨h1, -⟩)
    · exact ⟨h1, h2⟩
    · cases h1)
  clear hs
  go_enter Tryz.func4, Tryz.ntmps4
  go_wp2_with fail
  refine (HN.out _).mono ?_
  rintro e w1 ⟨rfl, hqw1⟩
  obtain ⟨hcw1, hfw1, hzw1⟩ := hqw1.facts
  try simp at hzw1
  try have hs0w1 : w.heap.size < w1.heap.size := by omega
  try have hs1w1 : w.heap.size + 1 < w1.heap.size := by omega
  go_wp2_with fail
  refine (HM.out _).mono ?_
  rintro e w2 ⟨rfl, hqw2⟩
  obtain ⟨hcw2, hfw2, hzw2⟩ := hqw2.facts
  try simp at hzw2
  try have hs0w2 : w.heap.size < w2.heap.size := by omega
  try have hs1w2 : w.heap.size + 1 < w2.heap.size := by omega
  go_wp2_with fail
  refine (known_any _).mono ?_
  rintro e w3 ⟨rfl, hqw3⟩
  obtain ⟨hcw3, hfw3, hzw3⟩ := hqw3.facts
  try simp at hzw3
  try have hs0w3 : w.heap.size < w3.heap.size := by omega
  try have hs1w3 : w.heap.size + 1 < w3.heap.size := by omega
  go_wp2_with fail
  go_ret
  exact ⟨rfl, (by repeat (first | exact Q.refl _ | assumption | refine Q.drew ?_ | refine Q.drewN ?_ _ | refine Q.alloc ?_ _ | refine Q.set ?_ (by first | (simp; done) | (simp; omega) | omega) _ | refine Q.trans ?_ (by assumption)))⟩
set_option maxRecDepth 100000 in
set_option maxHeartbeats 8000000 in
theorem copies_long1 (kind size piece : Int) (A Am : Option Addr) (n c nm cm : Nat) (w : World) (hs : shapeB kind size piece = true) (hn : n ≤ 140737488351232) (hm : nm ≤ 140737488351232) (hl : 320 < n) : Calls Tryz.prog 4 #[.agg #[.int .i64 kind, .int .i64 size, .int .i64 piece], .slice A n c, .slice Am nm cm] w fun e w' => e = .returned (.bool true) ∧ Q w w' := by
  have HN : Hid (∀ W, Calls Tryz.prog 5 #[.int .i64 kind, .int .i64 size, .int .i64 piece] W fun e w' => ∃ g, e = .returned (.tuple #[.pointer (some ⟨g, 0, none⟩), .int .i64 0]) ∧ Q W w') := fun W => (own_new hs W).mono (by
    rintro e w' ⟨g, h, O⟩
    exact ⟨g, h, O.toQ⟩)
  have HM : Hid (∀ W, Calls Tryz.prog 6 #[.int .i64 kind, .int .i64 size, .int .i64 piece] W fun e w' => ∃ v' : RV, e = .returned (.tuple #[.agg v'.cells, .int .i64 0]) ∧ Q W w') := fun W => (rNew_any kind size piece W).mono (by
    rw [hs]
    rintro e w' (⟨h1, -⟩ | ⟨-, v', h1, -, -, -, -, h2⟩)
    · cases h1
    · exact ⟨v', h1, h2⟩)
  have HL : Hid (∀ W, Calls Tryz.prog 7 #[.slice A n c] W fun e w' => e = .returned (.bool true) ∧ Q W w') := fun W => by
    have := long_any A n c W hn
    rw [decide_eq_true hl] at this
    exact this
  clear hs hn hm hl
  go_enter Tryz.func4, Tryz.ntmps4
  go_wp2_with fail
  refine (HN.out _).mono ?_
  rintro e w1 ⟨g, rfl, hq1⟩
  have hz1 := hq1.size
  have HQ1 := hide hq1
  obtain ⟨hc1, hf1, -⟩ := hq1.facts
  clear hq1
  go_wp2_with fail
  refine (HM.out _).mono ?_
  rintro e w2 ⟨⟨A', n', c', B', k', d', ⟨r0, r1, r2, rb, ry, r5, r6, r7, r8⟩⟩, rfl, hq2⟩
  have hz2 := hq2.size
  have hq1 := HQ1.out
  dsimp only [RV.cells]
  go_wp2_with fail
  refine (HL.out _).mono ?_
  rintro e w3 ⟨rfl, hqw3⟩
  obtain ⟨hcw3, hfw3, hzw3⟩ := hqw3.facts
  try simp at hzw3
  try have hs0w3 : w.heap.size < w3.heap.size := by omega
  try have hs1w3 : w.heap.size + 1 < w3.heap.size := by omega
  go_wp2_with fail
  refine (known_any _).mono ?_
  rintro e w4 ⟨rfl, hqw4⟩
  obtain ⟨hcw4, hfw4, hzw4⟩ := hqw4.facts
  try simp at hzw4
  try have hs0w4 : w.heap.size < w4.heap.size := by omega
  try have hs1w4 : w.heap.size + 1 < w4.heap.size := by omega
  go_wp2_with fail
  go_ret
  exact ⟨rfl, (by repeat (first | exact Q.refl _ | assumption | refine Q.drew ?_ | refine Q.drewN ?_ _ | refine Q.alloc ?_ _ | refine Q.set ?_ (by first | (simp; done) | (simp; omega) | omega) _ | refine Q.trans ?_ (by assumption)))⟩
set_option maxRecDepth 100000 in
set_option maxHeartbeats 8000000 in
theorem copies_long2 (kind size piece : Int) (A Am : Option Addr) (n c nm cm : Nat) (w : World) (hs : shapeB kind size piece = true) (hn : n ≤ 140737488351232) (hm : nm ≤ 140737488351232) (hl : ¬ 320 < n) (hl2 : 320 < nm) : Calls Tryz.prog 4 #[.agg #[.int .i64 kind, .int .i64 size, .int .i64 piece], .slice A n c, .slice Am nm cm] w fun e w' => e = .returned (.bool true) ∧ Q w w' := by
  have HN : Hid (∀ W, Calls Tryz.prog 5 #[.int .i64 kind, .int .i64 size, .int .i64 piece] W fun e w' => ∃ g, e = .returned (.tuple #[.pointer (some ⟨g, 0, none⟩), .int .i64 0]) ∧ Q W w') := fun W => (own_new hs W).mono (by
    rintro e w' ⟨g, h, O⟩
    exact ⟨g, h, O.toQ⟩)
  have HM : Hid (∀ W, Calls Tryz.prog 6 #[.int .i64 kind, .int .i64 size, .int .i64 piece] W fun e w' => ∃ v' : RV, e = .returned (.tuple #[.agg v'.cells, .int .i64 0]) ∧ Q W w') := fun W => (rNew_any kind size piece W).mono (by
    rw [hs]
    rintro e w' (⟨h1, -⟩ | ⟨-, v', h1, -, -, -, -, h2⟩)
    · cases h1
    · exact ⟨v', h1, h2⟩)
  have HL : Hid (∀ W, Calls Tryz.prog 7 #[.slice A n c] W fun e w' => e = .returned (.bool false) ∧ Q W w') := fun W => by
    have := long_any A n c W hn
    rw [decide_eq_false hl] at this
    exact this
  have HL2 : Hid (∀ W, Calls Tryz.prog 7 #[.slice Am nm cm] W fun e w' => e = .returned (.bool true) ∧ Q W w') := fun W => by
    have := long_any Am nm cm W hm
    rw [decide_eq_true hl2] at this
    exact this
  clear hs hn hm hl hl2
  go_enter Tryz.func4, Tryz.ntmps4
  go_wp2_with fail
  refine (HN.out _).mono ?_
  rintro e w1 ⟨g, rfl, hq1⟩
  have hz1 := hq1.size
  have HQ1 := hide hq1
  obtain ⟨hc1, hf1, -⟩ := hq1.facts
  clear hq1
  go_wp2_with fail
  refine (HM.out _).mono ?_
  rintro e w2 ⟨⟨A', n', c', B', k', d', ⟨r0, r1, r2, rb, ry, r5, r6, r7, r8⟩⟩, rfl, hq2⟩
  have hz2 := hq2.size
  have hq1 := HQ1.out
  dsimp only [RV.cells]
  go_wp2_with fail
  refine (HL.out _).mono ?_
  rintro e w3 ⟨rfl, hqw3⟩
  obtain ⟨hcw3, hfw3, hzw3⟩ := hqw3.facts
  try simp at hzw3
  try have hs0w3 : w.heap.size < w3.heap.size := by omega
  try have hs1w3 : w.heap.size + 1 < w3.heap.size := by omega
  go_wp2_with fail
  refine (HL2.out _).mono ?_
  rintro e w5 ⟨rfl, hqw5⟩
  obtain ⟨hcw5, hfw5, hzw5⟩ := hqw5.facts
  try simp at hzw5
  try have hs0w5 : w.heap.size < w5.heap.size := by omega
  try have hs1w5 : w.heap.size + 1 < w5.heap.size := by omega
  go_wp2_with fail
  refine (known_any _).mono ?_
  rintro e w4 ⟨rfl, hqw4⟩
  obtain ⟨hcw4, hfw4, hzw4⟩ := hqw4.facts
  try simp at hzw4
  try have hs0w4 : w.heap.size < w4.heap.size := by omega
  try have hs1w4 : w.heap.size + 1 < w4.heap.size := by omega
  go_wp2_with fail
  go_ret
  exact ⟨rfl, (by repeat (first | exact Q.refl _ | assumption | refine Q.drew ?_ | refine Q.drewN ?_ _ | refine Q.alloc ?_ _ | refine Q.set ?_ (by first | (simp; done) | (simp; omega) | omega) _ | refine Q.trans ?_ (by assumption)))⟩
set_option maxRecDepth 100000 in
set_option maxHeartbeats 8000000 in
theorem copies_good (kind size piece : Int) (A Am : Option Addr) (n c nm cm : Nat) (l lm : List Ask3) (w : World) (hs : shapeB kind size piece = true) (hS : SlOk 3 encA okA w ⟨A, n, c, l⟩) (hS2 : SlOk 3 encA okA w ⟨Am, nm, cm, lm⟩) (hl : ¬ 320 < n) (hl2 : ¬ 320 < nm) : Calls Tryz.prog 4 #[.agg #[.int .i64 kind, .int .i64 size, .int .i64 piece], .slice A n c, .slice Am nm cm] w fun e w' => e = .returned (.bool true) ∧ Q w w' := by
  have HS := hide hS
  have HSm2 := hide hS2
  have hni : (n : Int) ≤ 320 := by omega
  have hnmi : (nm : Int) ≤ 320 := by omega
  have HL : Hid (∀ W, Calls Tryz.prog 7 #[.slice A n c] W fun e w' => e = .returned (.bool false) ∧ Q W w') := fun W => by
    have := long_any A n c W (by omega)
    rw [decide_eq_false hl] at this
    exact this
  have HL2 : Hid (∀ W, Calls Tryz.prog 7 #[.slice Am nm cm] W fun e w' => e = .returned (.bool false) ∧ Q W w') := fun W => by
    have := long_any Am nm cm W (by omega)
    rw [decide_eq_false hl2] at this
    exact this
  have HI0 := hide (newM_inv hs)
  have HS0 := hide (sim_new hs)
  obtain ⟨w1, hw1⟩ : ∃ w1, w.alloc (.cells #[.int .i64 kind, .int .i64 size, .int .i64 piece] 23) = w1 := ⟨_, rfl⟩
  have hq1 : Q w w1 := by rw [← hw1]; exact (Q.refl w).alloc _
  have hb10 : w1.cell? ⟨w.heap.size, 0, none⟩ = some (.int .i64 kind) := by rw [← hw1, cell_new]; rfl
  have hb11 : w1.cell? ⟨w.heap.size, 1, none⟩ = some (.int .i64 size) := by rw [← hw1, cell_new]; rfl
  have hb12 : w1.cell? ⟨w.heap.size, 2, none⟩ = some (.int .i64 piece) := by rw [← hw1, cell_new]; rfl
  have hbx1 : w.heap.size < w1.heap.size := by rw [← hw1]; simp
  have HN := hide (own_new hs w1)
  have HM : Hid (∀ W, Calls Tryz.prog 6 #[.int .i64 kind, .int .i64 size, .int .i64 piece] W fun e w' => ∃ v', e = .returned (.tuple #[.agg v'.cells, .int .i64 0]) ∧ v'.m = newR kind size piece ∧ RmR w' v' ∧ FrA W.heap.size none v'.A [] v'.m.bl ∧ FrA W.heap.size none v'.B [] v'.m.ys ∧ Q W w') := fun W => (rNew_any kind size piece W).mono (by
    rw [hs]
    rintro e w' (⟨h1, -⟩ | ⟨-, v', h1, h2, h3, h5, h6, h4⟩)
    · cases h1
    · exact ⟨v', h1, h2, h3, h5, h6, h4⟩)
  have HW1 := hide hw1
  clear hw1 hs hS hS2 hl hl2
  go_enter Tryz.func4, Tryz.ntmps4
  go_wp2_with fail
  rw [HW1.out]
  refine HN.out.mono ?_
  rintro e w2 ⟨g, rfl, o2⟩
  have O2 := hide o2
  have hqo := o2.toQ
  have c20 := (hqo.facts.1 _ 0 hbx1).trans hb10
  have c21 := (hqo.facts.1 _ 1 hbx1).trans hb11
  have c22 := (hqo.facts.1 _ 2 hbx1).trans hb12
  clear o2
  go_wp2_with fail
  refine (HM.out w2).mono ?_
  rintro e w3 ⟨⟨A', n', c', B', k', d', ⟨r0, r1, r2, rb, ry, r5, r6, r7, r8⟩⟩, rfl, hvm, hvR, hvF, hvG, hq3⟩
  obtain ⟨bM, hbM⟩ : ∃ bM, bM = w3.heap.size := ⟨_, rfl⟩
  obtain ⟨w4, hw4⟩ : ∃ w4, w3.alloc (.cells #[.int .i64 r0, .int .i64 r1, .int .i64 r2, .slice A' n' c', .slice B' k' d', .int .i64 r5, .int .i64 r6, .int .i64 r7, .int .i64 r8] MT) = w4 := ⟨_, rfl⟩
  have hq34 : Q w3 w4 := by rw [← hw4]; exact (Q.refl _).alloc _
  have HR4 := hide (show w4.heap[bM]? = some (.cells #[.int .i64 r0, .int .i64 r1, .int .i64 r2, .slice A' n' c', .slice B' k' d', .int .i64 r5, .int .i64 r6, .int .i64 r7, .int .i64 r8] MT (0, 0)) by rw [← hw4, hbM]; exact heap_alloc_new w3 _)
  have HO4 : Hid (OR w1 w4 g (newM kind size piece) ⟨A', n', c', B', k', d', ⟨r0, r1, r2, rb, ry, r5, r6, r7, r8⟩⟩ bM) := or_start O2.out hq3 hvR hq34 hbM hvF hvG
  have HW4 := hide hw4
  have HBM := hide hbM
  have HVM := hide hvm
  dsimp only [RV.cells]
  have hs3 := hq3.size
  have hs2w := hqo.size
  clear hvF hvG hw4 hbM hvm hvR hq34 O2 hqo c20 c21 c22 hq3
  go_wp2_with fail
  rw [HW4.out, ← HBM.out]
  refine (HL.out _).mono ?_
  rintro e w5 ⟨rfl, hq5⟩
  have HO5 := hide (HO4.out.q hq5)
  have HR5 := hide ((hq5.below.block _ (blk_lt HR4.out)).trans HR4.out)
  have hbMs : w1.heap.size ≤ bM := by have := HBM.out; omega
  clear hq5 HO4 HR4 HW4
  go_wp2_with fail
  refine (HL2.out _).mono ?_
  rintro e w6 ⟨rfl, hq6⟩
  have HO6 := hide (HO5.out.q hq6)
  have HR6 := hide ((hq6.below.block _ (blk_lt HR5.out)).trans HR5.out)
  clear hq6 HO5 HR5
  go_wp2_with fail
  go_loopw [11] (fun v9 wr => CopRel w1 g bM v9 wr n) (fun v9 _ => n - (intOf v9).toNat)
  case atStart => exact ⟨0, _, _, by go_num, Nat.zero_le _, hide ⟨HO6.out, HI0.out, by rw [show ((⟨A', n', c', B', k', d', ⟨r0, r1, r2, rb, ry, r5, r6, r7, r8⟩⟩ : RV).m) = _ from HVM.out]; exact HS0.out, Int.le_refl _, HR6.out⟩⟩
  case round =>
    obtain ⟨i, m, v, rfl, hi, HO⟩ := hrel
    have hq0 : Q w1 wr := HO.out.1.toQ
    have hz0 := hq0.size
    have q0 := HO.out.2.2.2.2
    have hbr := blk_lt q0
    by_cases hlt : i < n
    · have hd1 : decide ((i : Int) < (n : Int)) = true := by simp; omega
      have hd0 : decide (i < n) = true := by simp; omega
      have hlti : (i : Int) < (n : Int) := by omega
      obtain ⟨bA, oA, op, a1, b1, hA, hbl, hx, x0, x1, x2⟩ := HS.out.sl.ask i hlt
      dsimp only at hA
      subst hA
      have hok := HS.out.all _ (List.mem_of_getElem? hx)
      obtain ⟨a0l, a0h⟩ : -9223372036854775808 ≤ a1 ∧ a1 ≤ 9223372036854775807 := okI_b (w := w) hok.2.1
      have hqw := hq1.trans hq0
      have y0 := (hqw.facts.1 bA _ hbl).trans x0
      have y1 := (hqw.facts.1 bA _ hbl).trans x1
      have y2 := (hqw.facts.1 bA _ hbl).trans x2
      have hsim := act_sim HO.out.2.2.1 HO.out.2.1 op a1 b1
      obtain ⟨m2, hm2⟩ : ∃ m2, m2 = (actM m op a1 b1).1 := ⟨_, rfl⟩
      obtain ⟨rx, hrx⟩ : ∃ rx, rx = (actM m op a1 b1).2.1 := ⟨_, rfl⟩
      obtain ⟨ry, hry⟩ : ∃ ry, ry = (actM m op a1 b1).2.2 := ⟨_, rfl⟩
      have hmc : m.calls ≤ i := HO.out.2.2.2.1
      have HACT : Hid (Calls Tryz.prog 9 #[.pointer (some ⟨g, 0, none⟩), .agg #[.int .i64 op, .int .i64 a1, .int .i64 b1]] wr fun e w' => e = .returned (.tuple #[.int .i64 rx, .int .i64 ry]) ∧ OR w1 w' g m2 v bM ∧ KeepM wr w') := by
        rw [hrx, hry, hm2]
        exact or_act HO.out.1 HO.out.2.1 (by omega) op a1 b1 ⟨a0l, a0h⟩
      have HI2 : Hid (Inv m2) := by rw [hm2]; exact act_inv HO.out.2.1 _ _ _
      have HC2 : Hid (m2.calls ≤ ((i + 1 : Nat) : Int)) := by
        have h1 := act_calls m op a1 b1
        rw [hm2]
        refine hide ?_
        push_cast
        omega
      have HRF : Hid (∀ W, OR w1 W g m2 v bM → bM < W.heap.size → Calls Tryz.prog 10 #[v.val, .agg #[.int .i64 op, .int .i64 a1, .int .i64 b1]] W fun e w' => ∃ v', e = .returned (.tuple #[v'.val, .int .i64 rx, .int .i64 ry]) ∧ Sim m2 v'.m ∧ OR w1 w' g m2 v' bM ∧ RmR w' v' ∧ Fr W.heap.size v v' ∧ Q W w') := fun W O hb => by
        refine (or_ref O (HO.out.2.2.1.K HO.out.2.1 (by omega)) hb op a1 b1).mono ?_
        rintro e w' ⟨v', he, hm, O', hR, hF, hq⟩
        rw [← hsim.1, ← hrx, ← hry] at he
        refine ⟨v', he, ?_, O', hR, hF, hq⟩
        rw [hm, hm2]
        exact hsim.2
      have HX0 : Hid (∀ W, Q w W → W.cell? ⟨bA, oA + i * 3, none⟩ = some (.int .i64 op) ∧ W.cell? ⟨bA, oA + i * 3 + 1, none⟩ = some (.int .i64 a1) ∧ W.cell? ⟨bA, oA + i * 3 + 2, none⟩ = some (.int .i64 b1)) := fun W hq => ⟨(hq.facts.1 bA _ hbl).trans x0, (hq.facts.1 bA _ hbl).trans x1, (hq.facts.1 bA _ hbl).trans x2⟩
      clear hm2 hrx hry hx hok x0 x1 x2 hsim hmc
      go_wp2_with fail
      refine HACT.out.mono ?_
      rintro e w2 ⟨rfl, o2, km2⟩
      have O2 := hide o2
      have hq2 := o2.toQ
      obtain ⟨u0, u1, u2⟩ := HX0.out w2 (hq1.trans hq2)
      have q2 := km2 _ _ q0
      have hb2 := blk_lt q2
      have HQ2 := hide q2
      have hz2' := hq2.size
      have hbA2 : bA < w2.heap.size := by have := hq1.size; omega
      clear o2 y0 y1 y2 HACT q0 q2 km2
      go_wp2_with fail
      refine Ri.made_pre 10 (Ri.phi [Ri.isV (.agg v.cells), Ri.isV ((.slice (some ⟨bA, oA, none⟩) n c)), Ri.isV (.int .i64 (i : Int)), Ri.isV (.pointer (some ⟨bA, oA + i * 3, none⟩)), Ri.isV (.agg #[.int .i64 op, .int .i64 a1, .int .i64 b1]), GoodT w1 g m2 bM rx ry, GoodT w1 g m2 bM rx ry, GoodV w1 g m2 bM, Ri.isV (.int .i64 rx), Ri.isV (.int .i64 ry), (fun _ _ => True)]) (Q w2) (XM w1 g m2 bM) (StM bM) (by kernel_rfl) (by kernel_rfl) (by decide) (Ri.phi_mono ?_) ?_ ?_ (Ri.phi_monoS ?_) ?_ (fun _ _ => trivial) ?_ ?_
      · exact ⟨Ri.mono_isV _, Ri.mono_isV _, Ri.mono_isV _, Ri.mono_isV _, Ri.mono_isV _, goodT_q _ _ _ _ _ _, goodT_q _ _ _ _ _ _, goodV_q _ _ _ _, Ri.mono_isV _, Ri.mono_isV _, (fun _ _ _ _ _ => trivial), trivial⟩
      · exact fun _ _ h hq => h.trans hq
      · exact xm_q _ _ _ _
      · exact ⟨Ri.mono_isS _, Ri.mono_isS _, Ri.mono_isS _, Ri.mono_isS _, Ri.mono_isS _, (fun v w1' w2' h h2 hs => goodT_m h ⟨_, (h2.below.block _ hb2).trans HQ2.out⟩ hbMs hs), (fun v w1' w2' h h2 hs => goodT_m h ⟨_, (h2.below.block _ hb2).trans HQ2.out⟩ hbMs hs), (fun v w1' w2' h h2 hs => goodV_m h ⟨_, (h2.below.block _ hb2).trans HQ2.out⟩ hbMs hs), Ri.mono_isS _, Ri.mono_isS _, (fun _ _ _ _ _ _ => trivial), trivial⟩
      · exact (Q.refl w2).drew
      · refine Ri.All.cons ?_ (Ri.All.cons ?_ (Ri.All.cons ?_ (Ri.All.cons ?_ (Ri.All.cons ?_ (Ri.All.cons ?_ (Ri.All.cons ?_ (Ri.All.cons ?_ (Ri.All.cons ?_ (Ri.All.cons ?_ (Ri.All.cons ?_ (Ri.All.nil)))))))))))
        · refine ⟨fun e => absurd e (by decide), fun _ => ⟨rfl, fun f W hp hf A hA hB => ?_⟩⟩
          have hq := hp (by kernel_rfl)
          have e1 := (hB 9 (by kernel_rfl)).trans (show _ = .pointer (some ⟨bM, 0, none⟩) by simp [Act.eval])
          exact Ri.wp_value _ (Ri.run_ldrow rfl e1 ((hq.below.block _ hb2).trans HQ2.out) Tryz.underlying32 rfl (by kernel_rfl)) rfl
        · refine ⟨fun e => absurd e (by decide), fun _ => ⟨rfl, fun f W hp hf A hA hB => ?_⟩⟩
          have e1 := (hB 1 (by kernel_rfl)).trans (show _ = (.slice (some ⟨bA, oA, none⟩) n c) by simp [Act.eval])
          exact Ri.wp_value _ (Ri.run_mv rfl e1) rfl
        · refine ⟨fun e => absurd e (by decide), fun _ => ⟨rfl, fun f W hp hf A hA hB => ?_⟩⟩
          have e1 := (hB 11 (by kernel_rfl)).trans (show _ = .int .i64 (i : Int) by simp [Act.eval])
          exact Ri.wp_value _ (Ri.run_mv rfl e1) rfl
        · refine ⟨fun e => absurd e (by decide), fun _ => ⟨rfl, fun f W hp hf A hA hB => ?_⟩⟩
          have e1 := (hA 65 1 (by kernel_rfl) (by simp)).trans (show f 1 = _ from hf 1 (by kernel_rfl))
          have e2 := (hA 66 2 (by kernel_rfl) (by simp)).trans (show f 2 = _ from hf 2 (by kernel_rfl))
          exact Ri.wp_value _ (Ri.run_idx (k := i) rfl e1 e2 Tryz.underlying24 (by kernel_rfl) hlt) rfl
        · refine ⟨fun e => absurd e (by decide), fun _ => ⟨rfl, fun f W hp hf A hA hB => ?_⟩⟩
          have hq := hp (by kernel_rfl)
          have e1 := (hA 67 3 (by kernel_rfl) (by simp)).trans (show f 3 = _ from hf 3 (by kernel_rfl))
          exact Ri.wp_value _ (Ri.run_ldagg (cs := [.int .i64 op, .int .i64 a1, .int .i64 b1]) rfl e1 (cells3 ((hq.facts.1 bA _ hbA2).trans u0) ((hq.facts.1 bA _ hbA2).trans u1) ((hq.facts.1 bA _ hbA2).trans u2)) Tryz.underlying40 rfl (by kernel_rfl)) rfl
        · refine ⟨fun e => absurd e (by decide), fun _ => ⟨rfl, fun f W hp hf A hA hB => ?_⟩⟩
          have hq := hp (by kernel_rfl)
          have e1 := (hA 64 0 (by kernel_rfl) (by simp)).trans (show f 0 = _ from hf 0 (by kernel_rfl))
          have e2 := (hA 68 4 (by kernel_rfl) (by simp)).trans (show f 4 = _ from hf 4 (by kernel_rfl))
          refine Ri.wp_call #[.agg v.cells, .agg #[.int .i64 op, .int .i64 a1, .int .i64 b1]] rfl (by simp [e1, e2]) Tryz.func10 (by kernel_rfl) (by kernel_rfl) ((HRF.out W (O2.out.q hq) (Nat.lt_of_lt_of_le hb2 hq.size)).mono ?_)
          rintro e w3 ⟨v', rfl, hS, hO3, -, -, hq3⟩
          exact ⟨_, rfl, hq3, v', rfl, hS, hO3⟩
        · refine ⟨fun e => absurd e (by decide), fun _ => ⟨rfl, fun f W hp hf A hA hB => ?_⟩⟩
          obtain ⟨v', hv, hS, hO3⟩ : GoodT w1 g m2 bM rx ry (f 5) W := hf 5 (by kernel_rfl)
          exact Ri.wp_value _ (Ri.run_mv rfl ((hA 69 5 (by kernel_rfl) (by simp)).trans hv)) ⟨v', rfl, hS, hO3⟩
        · refine ⟨fun e => absurd e (by decide), fun _ => ⟨rfl, fun f W hp hf A hA hB => ?_⟩⟩
          obtain ⟨v', hv, hS, hO3⟩ : GoodT w1 g m2 bM rx ry (f 6) W := hf 6 (by kernel_rfl)
          exact Ri.wp_value _ (Ri.run_ext rfl ((hA 63 6 (by kernel_rfl) (by simp)).trans hv) rfl) ⟨v', rfl, hS, hO3⟩
        · refine ⟨fun e => absurd e (by decide), fun _ => ⟨rfl, fun f W hp hf A hA hB => ?_⟩⟩
          obtain ⟨v', hv, hS, hO3⟩ : GoodT w1 g m2 bM rx ry (f 6) W := hf 6 (by kernel_rfl)
          exact Ri.wp_value _ (Ri.run_ext rfl ((hA 63 6 (by kernel_rfl) (by simp)).trans hv) rfl) rfl
        · refine ⟨fun e => absurd e (by decide), fun _ => ⟨rfl, fun f W hp hf A hA hB => ?_⟩⟩
          obtain ⟨v', hv, hS, hO3⟩ : GoodT w1 g m2 bM rx ry (f 6) W := hf 6 (by kernel_rfl)
          exact Ri.wp_value _ (Ri.run_ext rfl ((hA 63 6 (by kernel_rfl) (by simp)).trans hv) rfl) rfl
        · refine ⟨fun _ => ⟨rfl, fun f W hq hf A hA hB => ?_⟩, fun h => absurd rfl h⟩
          obtain ⟨v', hv, hS, hO3⟩ : GoodV w1 g m2 bM (f 7) W := hf 7 (by kernel_rfl)
          have e1 := (hB 9 (by kernel_rfl)).trans (show _ = .pointer (some ⟨bM, 0, none⟩) by simp [Act.eval])
          have e2 := (hA 70 7 (by kernel_rfl) (by simp)).trans hv
          have hrow : W.heap[bM]? = some (.cells v.cells MT (0, 0)) := (hq.below.block _ hb2).trans HQ2.out
          have hrow2 := setRow_heap W bM v.cells v'.cells MT (0, 0) hrow
          have hSt : StM bM W (W.setRow bM v'.cells) := ⟨rfl, rfl, rfl, by simp, fun i _ hi => setRow_other _ _ _ _ hi⟩
          exact Ri.wp_rowG rfl e1 e2 rfl hrow (by kernel_rfl) rfl (by simp [RV.cells, Value.oneCell']) hSt ⟨v', hrow2, hS, hO3.box hrow hSt (Turn.q_of hO3.toQ hSt fun i e => by rw [e]; exact hbMs)⟩
      · intro f W hg hf
        obtain ⟨v', hrow, hS, hO3⟩ := hg
        have HR3 := hide hrow
        have HS3 := hide hS
        have HO3 := hide hO3
        simp only [Ri.acts, Act.put, List.setIfInBounds_toArray, List.set_cons_zero, List.set_cons_succ, Nat.zero_add, Nat.reduceAdd]
        clear hf hrow hS hO3 HRF
        go_wp2_with fail
        go_roundw
        case rel => exact ⟨i + 1, m2, v', by go_num, by omega, hide ⟨HO3.out, HI2.out, HS3.out, HC2.out, HR3.out⟩⟩
        case measure => simp [intOf] <;> omega
    · have hd1 : decide ((i : Int) < (n : Int)) = false := by simp; omega
      have hd0 : decide (i < n) = false := by simp; omega
      obtain rfl : i = n := by omega
      obtain ⟨⟨A2, n2, c2, B2, k2, d2, ⟨t0, t1, t2, tb, ty, t5, t6, t7, t8⟩⟩, hvE⟩ : ∃ v2, v2 = v := ⟨_, rfl⟩
      rw [← hvE] at HO
      clear hvE
      have HIm := hide HO.out.2.1
      have HSm := hide HO.out.2.2.1
      have hmc : m.calls ≤ i := HO.out.2.2.2.1
      have HCP : Hid (Calls Tryz.prog 12 #[.pointer (some ⟨g, 0, none⟩)] wr fun e w' => ∃ g2, e = .returned (.pointer (some ⟨g2, 0, none⟩)) ∧ KeepM wr w' ∧ Q w1 w' ∧ ∀ w2, Q w' w2 → OR2 w1 w2 g m g2 m ⟨A2, n2, c2, B2, k2, d2, ⟨t0, t1, t2, tb, ty, t5, t6, t7, t8⟩⟩ ⟨A2, n2, c2, B2, k2, d2, ⟨t0, t1, t2, tb, ty, t5, t6, t7, t8⟩⟩ bM w'.heap.size) := or_copy HO.out.1 HO.out.2.1
      have q0 := HO.out.2.2.2.2
      have HQ0 := hide q0
      clear q0
      go_wp2_with fail
      refine HCP.out.mono ?_
      rintro e w3 ⟨g2, rfl, km3, hq3, hOR⟩
      have q3 := km3 _ _ HQ0.out
      have HOR := hide hOR
      have HQ3 := hide q3
      have hb3 := blk_lt q3
      have hs13 := hq3.size
      dsimp only [RV.cells] at q3
      obtain ⟨k0, k1, k2', k3, k4, k5, k6, k7, k8⟩ := cells9 q3
      clear q3 HCP hOR km3 hq3
      go_wp2_with fail
      obtain ⟨bN, hbN⟩ : ∃ bN, bN = w3.heap.size := ⟨_, rfl⟩
      obtain ⟨w4, hw4⟩ : ∃ w4, w3.alloc (.cells #[.int .i64 t0, .int .i64 t1, .int .i64 t2, .slice A2 n2 c2, .slice B2 k2 d2, .int .i64 t5, .int .i64 t6, .int .i64 t7, .int .i64 t8] MT) = w4 := ⟨_, rfl⟩
      have hq34 : Q w3 w4 := by rw [← hw4]; exact (Q.refl _).alloc _
      have HRN4 := hide (show w4.heap[bN]? = some (.cells #[.int .i64 t0, .int .i64 t1, .int .i64 t2, .slice A2 n2 c2, .slice B2 k2 d2, .int .i64 t5, .int .i64 t6, .int .i64 t7, .int .i64 t8] MT (0, 0)) by rw [← hw4, hbN]; exact heap_alloc_new w3 _)
      have HRM4 := hide ((hq34.below.block _ hb3).trans HQ3.out)
      have HO4 : Hid (OR2 w1 w4 g m g2 m ⟨A2, n2, c2, B2, k2, d2, ⟨t0, t1, t2, tb, ty, t5, t6, t7, t8⟩⟩ ⟨A2, n2, c2, B2, k2, d2, ⟨t0, t1, t2, tb, ty, t5, t6, t7, t8⟩⟩ bM bN) := by rw [hbN]; exact HOR.out w4 hq34
      rw [hw4, ← hbN]
      have hbNs : w1.heap.size ≤ bN := by omega
      have hMN0 : bM < bN := by omega
      clear hw4 hbN hq34 HOR HQ3 k0 k1 k2' k3 k4 k5 k6 k7 k8
      have HSM : Hid (∀ W, OR2 w1 W g m g2 m ⟨A2, n2, c2, B2, k2, d2, ⟨t0, t1, t2, tb, ty, t5, t6, t7, t8⟩⟩ ⟨A2, n2, c2, B2, k2, d2, ⟨t0, t1, t2, tb, ty, t5, t6, t7, t8⟩⟩ bM bN → Calls Tryz.prog 13 #[.pointer (some ⟨g, 0, none⟩), .pointer (some ⟨g2, 0, none⟩)] W fun e w' => e = .returned (.bool true) ∧ OR2 w1 w' g m g2 m ⟨A2, n2, c2, B2, k2, d2, ⟨t0, t1, t2, tb, ty, t5, t6, t7, t8⟩⟩ ⟨A2, n2, c2, B2, k2, d2, ⟨t0, t1, t2, tb, ty, t5, t6, t7, t8⟩⟩ bM bN ∧ KeepM W w') := fun W O => by
        have := or2_same O HIm.out HIm.out rfl rfl rfl
        rw [sameM_self] at this
        exact this
      have HSC : Hid (∀ W, OR2 w1 W g m g2 m ⟨A2, n2, c2, B2, k2, d2, ⟨t0, t1, t2, tb, ty, t5, t6, t7, t8⟩⟩ ⟨A2, n2, c2, B2, k2, d2, ⟨t0, t1, t2, tb, ty, t5, t6, t7, t8⟩⟩ bM bN → Calls Tryz.prog 11 #[.pointer (some ⟨g2, 0, none⟩), .agg #[.int .i64 t0, .int .i64 t1, .int .i64 t2, .slice A2 n2 c2, .slice B2 k2 d2, .int .i64 t5, .int .i64 t6, .int .i64 t7, .int .i64 t8]] W fun e w' => e = .returned (.bool true) ∧ OR2 w1 w' g m g2 m ⟨A2, n2, c2, B2, k2, d2, ⟨t0, t1, t2, tb, ty, t5, t6, t7, t8⟩⟩ ⟨A2, n2, c2, B2, k2, d2, ⟨t0, t1, t2, tb, ty, t5, t6, t7, t8⟩⟩ bM bN ∧ KeepM W w') := fun W O => by
        refine (or2_shows1 O.swap HIm.out HSm.out (by omega)).mono ?_
        rintro e w' ⟨he, O', k⟩
        exact ⟨he, O'.swap, k⟩
      refine (HSM.out w4 HO4.out).mono ?_
      rintro e w5 ⟨rfl, o5, k5m⟩
      have HO5 := hide o5
      have HRN5 := hide (k5m _ _ HRN4.out)
      have HRM5 := hide (k5m _ _ HRM4.out)
      have qm5 := HRM5.out
      dsimp only [RV.cells] at qm5
      obtain ⟨k0, k1, k2', k3, k4, k5, k6, k7, k8⟩ := cells9 qm5
      clear o5 k5m HO4 HRN4 HRM4 qm5
      go_wp2_with fail
      refine (HSC.out w5 HO5.out).mono ?_
      rintro e w6 ⟨rfl, o6, k6m⟩
      have HO6 := hide o6
      have HRN6 := hide (k6m _ _ HRN5.out)
      have HRM6 := hide (k6m _ _ HRM5.out)
      clear o6 k6m HO5 HRN5 HRM5 HSM HSC k0 k1 k2' k3 k4 k5 k6 k7 k8
      go_wp2_with fail
      go_loopw [14] (fun v14 wr => CopiesRel w1 g bM m ⟨A2, n2, c2, B2, k2, d2, ⟨t0, t1, t2, tb, ty, t5, t6, t7, t8⟩⟩ g2 bN i v14 wr nm) (fun v14 _ => nm - (intOf v14).toNat)
      case atStart => exact ⟨0, m, ⟨A2, n2, c2, B2, k2, d2, ⟨t0, t1, t2, tb, ty, t5, t6, t7, t8⟩⟩, by go_num, Nat.zero_le _, hide ⟨HO6.out, HIm.out, HSm.out, by omega, HRM6.out, HRN6.out, rfl, rfl, rfl⟩⟩
      case round =>
        obtain ⟨j, mc, u, rfl, hj, HC⟩ := hrel
        have hqC : Q w1 wr := HC.out.1.toQ
        have hzC := hqC.size
        have qn := HC.out.2.2.2.2.2.1
        have qm := HC.out.2.2.2.2.1
        have hbn := blk_lt qn
        have HQM := hide qm
        have HQN := hide qn
        by_cases hlt2 : j < nm
        · have hd1 : decide ((j : Int) < (nm : Int)) = true := by simp; omega
          have hd0 : decide (j < nm) = true := by simp; omega
          have hlti : (j : Int) < (nm : Int) := by omega
          obtain ⟨bE, oE, op, a1, b1, hE, hbl, hx, x0, x1, x2⟩ := HSm2.out.sl.ask j hlt2
          dsimp only at hE
          subst hE
          have hok := HSm2.out.all _ (List.mem_of_getElem? hx)
          obtain ⟨a0l, a0h⟩ : -9223372036854775808 ≤ a1 ∧ a1 ≤ 9223372036854775807 := okI_b (w := w) hok.2.1
          have hqw := hq1.trans hqC
          have y0 := (hqw.facts.1 bE _ hbl).trans x0
          have y1 := (hqw.facts.1 bE _ hbl).trans x1
          have y2 := (hqw.facts.1 bE _ hbl).trans x2
          have hsim := act_sim HC.out.2.2.1 HC.out.2.1 op a1 b1
          have hsz := act_size mc op a1 b1
          obtain ⟨mc2, hm2⟩ : ∃ m2, m2 = (actM mc op a1 b1).1 := ⟨_, rfl⟩
          obtain ⟨rx, hrx⟩ : ∃ rx, rx = (actM mc op a1 b1).2.1 := ⟨_, rfl⟩
          obtain ⟨ry, hry⟩ : ∃ ry, ry = (actM mc op a1 b1).2.2 := ⟨_, rfl⟩
          have hcc : mc.calls ≤ i + j := HC.out.2.2.2.1
          have HACT : Hid (Calls Tryz.prog 9 #[.pointer (some ⟨g2, 0, none⟩), .agg #[.int .i64 op, .int .i64 a1, .int .i64 b1]] wr fun e w' => e = .returned (.tuple #[.int .i64 rx, .int .i64 ry]) ∧ OR2 w1 w' g m g2 mc2 ⟨A2, n2, c2, B2, k2, d2, ⟨t0, t1, t2, tb, ty, t5, t6, t7, t8⟩⟩ u bM bN ∧ KeepM wr w') := by
            rw [hrx, hry, hm2]
            refine (or2_act HC.out.1.swap HC.out.2.1 (by omega) op a1 b1 ⟨a0l, a0h⟩).mono ?_
            rintro e w' ⟨he, O', k⟩
            exact ⟨he, O'.swap, k⟩
          have HI2 : Hid (Inv mc2) := by rw [hm2]; exact act_inv HC.out.2.1 _ _ _
          have HC2 : Hid (mc2.calls ≤ i + ((j + 1 : Nat) : Int)) := by
            have h1 := act_calls mc op a1 b1
            rw [hm2]
            refine hide ?_
            push_cast
            omega
          have HEQ : Hid (m.kind = mc2.kind ∧ m.piece = mc2.piece ∧ m.size = mc2.size) := by
            rw [hm2, hsz.1, hsz.2.1, hsz.2.2]
            exact HC.out.2.2.2.2.2.2
          have HC3 : mc2.calls < 1000000 := by have := HC2.out; omega
          have hm3 : m.calls < 1000000 := by omega
          have HRF : Hid (∀ W, OR2 w1 W g m g2 mc2 ⟨A2, n2, c2, B2, k2, d2, ⟨t0, t1, t2, tb, ty, t5, t6, t7, t8⟩⟩ u bM bN → bM < W.heap.size → bN < W.heap.size → Calls Tryz.prog 10 #[u.val, .agg #[.int .i64 op, .int .i64 a1, .int .i64 b1]] W fun e w' => ∃ v', e = .returned (.tuple #[v'.val, .int .i64 rx, .int .i64 ry]) ∧ Sim mc2 v'.m ∧ OR2 w1 w' g m g2 mc2 ⟨A2, n2, c2, B2, k2, d2, ⟨t0, t1, t2, tb, ty, t5, t6, t7, t8⟩⟩ v' bM bN ∧ Q W w') := fun W O hb hb' => by
            refine (or2_ref O (HC.out.2.2.1.K HC.out.2.1 (by omega)) hb hb' op a1 b1).mono ?_
            rintro e w' ⟨v', he, hm, O', hq⟩
            rw [← hsim.1, ← hrx, ← hry] at he
            refine ⟨v', he, ?_, O', hq⟩
            rw [hm, hm2]
            exact hsim.2
          have HX0 : Hid (∀ W, Q w W → W.cell? ⟨bE, oE + j * 3, none⟩ = some (.int .i64 op) ∧ W.cell? ⟨bE, oE + j * 3 + 1, none⟩ = some (.int .i64 a1) ∧ W.cell? ⟨bE, oE + j * 3 + 2, none⟩ = some (.int .i64 b1)) := fun W hq => ⟨(hq.facts.1 bE _ hbl).trans x0, (hq.facts.1 bE _ hbl).trans x1, (hq.facts.1 bE _ hbl).trans x2⟩
          clear hm2 hrx hry hx hok x0 x1 x2 hsim hcc hsz qm qn
          go_wp2_with fail
          refine HACT.out.mono ?_
          rintro e w2 ⟨rfl, o2, km2⟩
          have O2 := hide o2
          have hq2 := o2.toQ
          obtain ⟨u0, u1, u2⟩ := HX0.out w2 (hq1.trans hq2)
          have q2 := km2 _ _ HQN.out
          have q2m := km2 _ _ HQM.out
          have hb2 := blk_lt q2
          have hb2m := blk_lt q2m
          have HQ2 := hide q2
          have HQ2M := hide q2m
          have hz2' := hq2.size
          have hz2m : w1.heap.size ≤ w2.heap.size := hz2'
          have hbA2 : bE < w2.heap.size := by have := hq1.size; omega
          clear o2 y0 y1 y2 HACT q2 q2m km2 HQM HQN
          go_wp2_with fail
          refine Ri.made_mid 11 10 (Ri.phi [Ri.isV (.agg u.cells), Ri.isV ((.slice (some ⟨bE, oE, none⟩) nm cm)), Ri.isV (.int .i64 (j : Int)), Ri.isV (.pointer (some ⟨bE, oE + j * 3, none⟩)), Ri.isV (.agg #[.int .i64 op, .int .i64 a1, .int .i64 b1]), Good2T w1 g m g2 mc2 ⟨A2, n2, c2, B2, k2, d2, ⟨t0, t1, t2, tb, ty, t5, t6, t7, t8⟩⟩ bM bN rx ry, Good2T w1 g m g2 mc2 ⟨A2, n2, c2, B2, k2, d2, ⟨t0, t1, t2, tb, ty, t5, t6, t7, t8⟩⟩ bM bN rx ry, Good2V w1 g m g2 mc2 ⟨A2, n2, c2, B2, k2, d2, ⟨t0, t1, t2, tb, ty, t5, t6, t7, t8⟩⟩ bM bN, Ri.isV (.int .i64 rx), Ri.isV (.int .i64 ry), NewB w2.heap.size, (fun _ _ => True), Ri.isV (.int .i64 rx), Ri.isV (.int .i64 ry)]) (Good2B w1 g m g2 mc2 ⟨A2, n2, c2, B2, k2, d2, ⟨t0, t1, t2, tb, ty, t5, t6, t7, t8⟩⟩ bM bN) (by kernel_rfl) (by kernel_rfl) (by decide) (by kernel_rfl) (Ri.phi_mono ?_) (Ri.phi_monoB ?_) ?_ ?_ (fun _ _ => trivial) ?_
          · exact ⟨Ri.mono_isV _, Ri.mono_isV _, Ri.mono_isV _, Ri.mono_isV _, Ri.mono_isV _, good2T_q, good2T_q, good2V_q, Ri.mono_isV _, Ri.mono_isV _, newB_q _, (fun _ _ _ _ _ => trivial), Ri.mono_isV _, Ri.mono_isV _, trivial⟩
          · exact ⟨Ri.mono_isB _, Ri.mono_isB _, Ri.mono_isB _, Ri.mono_isB _, Ri.mono_isB _, good2T_b hz2m, good2T_b hz2m, good2V_b hz2m, Ri.mono_isB _, Ri.mono_isB _, newB_b, (fun _ _ _ _ _ _ _ => trivial), Ri.mono_isB _, Ri.mono_isB _, trivial⟩
          · exact good2B_q
          · refine Ri.All.cons ?_ (Ri.All.cons ?_ (Ri.All.cons ?_ (Ri.All.cons ?_ (Ri.All.cons ?_ (Ri.All.cons ?_ (Ri.All.cons ?_ (Ri.All.cons ?_ (Ri.All.cons ?_ (Ri.All.cons ?_ (Ri.All.cons ?_ (Ri.All.cons ?_ (Ri.All.cons ?_ (Ri.All.cons ?_ (Ri.All.nil))))))))))))))
            · refine ⟨fun e => absurd e (by decide), fun _ => ⟨rfl, fun f W hq hf A hA hB hO => ?_⟩⟩
              have e1 := (hB 13 (by kernel_rfl)).trans (show _ = .pointer (some ⟨bN, 0, none⟩) by simp [Act.eval])
              exact Ri.wp_value _ (Ri.run_ldrow rfl e1 ((((Q.refl w2).drew.trans hq).below.block _ hb2).trans HQ2.out) Tryz.underlying32 rfl (by kernel_rfl)) rfl
            · refine ⟨fun e => absurd e (by decide), fun _ => ⟨rfl, fun f W hq hf A hA hB hO => ?_⟩⟩
              have e1 := (hB 2 (by kernel_rfl)).trans (show _ = (.slice (some ⟨bE, oE, none⟩) nm cm) by simp [Act.eval])
              exact Ri.wp_value _ (Ri.run_mv rfl e1) rfl
            · refine ⟨fun e => absurd e (by decide), fun _ => ⟨rfl, fun f W hq hf A hA hB hO => ?_⟩⟩
              have e1 := (hB 14 (by kernel_rfl)).trans (show _ = .int .i64 (j : Int) by simp [Act.eval])
              exact Ri.wp_value _ (Ri.run_mv rfl e1) rfl
            · refine ⟨fun e => absurd e (by decide), fun _ => ⟨rfl, fun f W hq hf A hA hB hO => ?_⟩⟩
              have e1 := (hA 103 1 (by kernel_rfl) (by simp)).trans (show f 1 = _ from hf 1 (by kernel_rfl))
              have e2 := (hA 104 2 (by kernel_rfl) (by simp)).trans (show f 2 = _ from hf 2 (by kernel_rfl))
              exact Ri.wp_value _ (Ri.run_idx (k := j) rfl e1 e2 Tryz.underlying24 (by kernel_rfl) hlt2) rfl
            · refine ⟨fun e => absurd e (by decide), fun _ => ⟨rfl, fun f W hq hf A hA hB hO => ?_⟩⟩
              have e1 := (hA 105 3 (by kernel_rfl) (by simp)).trans (show f 3 = _ from hf 3 (by kernel_rfl))
              exact Ri.wp_value _ (Ri.run_ldagg (cs := [.int .i64 op, .int .i64 a1, .int .i64 b1]) rfl e1 (cells3 ((((Q.refl w2).drew.trans hq).facts.1 bE _ hbA2).trans u0) ((((Q.refl w2).drew.trans hq).facts.1 bE _ hbA2).trans u1) ((((Q.refl w2).drew.trans hq).facts.1 bE _ hbA2).trans u2)) Tryz.underlying40 rfl (by kernel_rfl)) rfl
            · refine ⟨fun e => absurd e (by decide), fun _ => ⟨rfl, fun f W hq hf A hA hB hO => ?_⟩⟩
              have e1 := (hA 102 0 (by kernel_rfl) (by simp)).trans (show f 0 = _ from hf 0 (by kernel_rfl))
              have e2 := (hA 106 4 (by kernel_rfl) (by simp)).trans (show f 4 = _ from hf 4 (by kernel_rfl))
              refine Ri.wp_call #[.agg u.cells, .agg #[.int .i64 op, .int .i64 a1, .int .i64 b1]] rfl (by simp [e1, e2]) Tryz.func10 (by kernel_rfl) (by kernel_rfl) ((HRF.out W (O2.out.q ((Q.refl w2).drew.trans hq)) (Nat.lt_of_lt_of_le hb2m hq.size) (Nat.lt_of_lt_of_le hb2 hq.size)).mono ?_)
              rintro e w3 ⟨v', rfl, hS, hO3, hq3⟩
              exact ⟨_, rfl, hq3, v', rfl, hS, hO3⟩
            · refine ⟨fun e => absurd e (by decide), fun _ => ⟨rfl, fun f W hq hf A hA hB hO => ?_⟩⟩
              obtain ⟨v', hv, hS, hO3⟩ : Good2T w1 g m g2 mc2 ⟨A2, n2, c2, B2, k2, d2, ⟨t0, t1, t2, tb, ty, t5, t6, t7, t8⟩⟩ bM bN rx ry (f 5) W := hf 5 (by kernel_rfl)
              exact Ri.wp_value _ (Ri.run_mv rfl ((hA 107 5 (by kernel_rfl) (by simp)).trans hv)) ⟨v', rfl, hS, hO3⟩
            · refine ⟨fun e => absurd e (by decide), fun _ => ⟨rfl, fun f W hq hf A hA hB hO => ?_⟩⟩
              obtain ⟨v', hv, hS, hO3⟩ : Good2T w1 g m g2 mc2 ⟨A2, n2, c2, B2, k2, d2, ⟨t0, t1, t2, tb, ty, t5, t6, t7, t8⟩⟩ bM bN rx ry (f 6) W := hf 6 (by kernel_rfl)
              exact Ri.wp_value _ (Ri.run_ext rfl ((hA 101 6 (by kernel_rfl) (by simp)).trans hv) rfl) ⟨v', rfl, hS, hO3⟩
            · refine ⟨fun e => absurd e (by decide), fun _ => ⟨rfl, fun f W hq hf A hA hB hO => ?_⟩⟩
              obtain ⟨v', hv, hS, hO3⟩ : Good2T w1 g m g2 mc2 ⟨A2, n2, c2, B2, k2, d2, ⟨t0, t1, t2, tb, ty, t5, t6, t7, t8⟩⟩ bM bN rx ry (f 6) W := hf 6 (by kernel_rfl)
              exact Ri.wp_value _ (Ri.run_ext rfl ((hA 101 6 (by kernel_rfl) (by simp)).trans hv) rfl) rfl
            · refine ⟨fun e => absurd e (by decide), fun _ => ⟨rfl, fun f W hq hf A hA hB hO => ?_⟩⟩
              obtain ⟨v', hv, hS, hO3⟩ : Good2T w1 g m g2 mc2 ⟨A2, n2, c2, B2, k2, d2, ⟨t0, t1, t2, tb, ty, t5, t6, t7, t8⟩⟩ bM bN rx ry (f 6) W := hf 6 (by kernel_rfl)
              exact Ri.wp_value _ (Ri.run_ext rfl ((hA 101 6 (by kernel_rfl) (by simp)).trans hv) rfl) rfl
            · refine ⟨fun e => absurd e (by decide), fun _ => ⟨rfl, fun f W hq hf A hA hB hO => ?_⟩⟩
              exact Ri.wp_val _ (Ri.run_allocM rfl) ((Q.refl W).alloc _) ⟨_, rfl, hq.size, _, rfl, heap_alloc_new W _⟩
            · refine ⟨fun _ => ⟨rfl, fun f W hq hf A hA hB => ?_⟩, fun h => absurd rfl h⟩
              obtain ⟨v', hv, hS, hO3⟩ : Good2V w1 g m g2 mc2 ⟨A2, n2, c2, B2, k2, d2, ⟨t0, t1, t2, tb, ty, t5, t6, t7, t8⟩⟩ bM bN (f 7) W := hf 7 (by kernel_rfl)
              obtain ⟨b, hbv, hbl, cs, hcs, hrow⟩ : NewB w2.heap.size (f 10) W := hf 10 (by kernel_rfl)
              have e1 := (hA 17 10 (by kernel_rfl) (by simp)).trans hbv
              have e2 := (hA 108 7 (by kernel_rfl) (by simp)).trans hv
              have hrow2 := setRow_heap W b cs v'.cells MT (0, 0) hrow
              have hSB : StB b W (W.setRow b v'.cells) := ⟨⟨rfl, rfl, rfl, by simp, fun i _ hi => setRow_other _ _ _ _ hi⟩, ⟨cs, hrow⟩, ⟨v'.cells, rfl, hrow2⟩⟩
              refine Ri.wp_rowG rfl e1 e2 rfl hrow (by kernel_rfl) hcs (by simp [RV.cells, Value.oneCell']) ⟨b, hbl, hSB⟩ ⟨b, v', hbv, hrow2, hS, hO3.stB hSB (Nat.le_trans hz2m hbl)⟩
            · refine ⟨fun e => absurd e (by decide), fun _ => ⟨rfl, fun f W hq hf A hA hB hO => ?_⟩⟩
              have e1 := (hA 109 8 (by kernel_rfl) (by simp)).trans (show f 8 = _ from hf 8 (by kernel_rfl))
              exact Ri.wp_value _ (Ri.run_asg rfl e1) rfl
            · refine ⟨fun e => absurd e (by decide), fun _ => ⟨rfl, fun f W hq hf A hA hB hO => ?_⟩⟩
              have e1 := (hA 110 9 (by kernel_rfl) (by simp)).trans (show f 9 = _ from hf 9 (by kernel_rfl))
              exact Ri.wp_value _ (Ri.run_asg rfl e1) rfl
          · intro f W hq hf hg
            have e12 : f 12 = .int .i64 rx := hf 12 (by simp) (by decide)
            have e13 : f 13 = .int .i64 ry := hf 13 (by simp) (by decide)
            obtain ⟨b, ⟨A3, n3, c3, B3, k3n, d3n, ⟨s0, s1, s2, sb, sy, s5, s6, s7, s8⟩⟩, e10, hrow, S3, O3⟩ := hg
            have hqw : Q w2 W := hq
            have qN := (hqw.below.block _ hb2).trans HQ2.out
            have qM := (hqw.below.block _ hb2m).trans HQ2M.out
            simp only [Ri.acts, Act.put, List.setIfInBounds_toArray, List.set_cons_zero, List.set_cons_succ, Nat.zero_add, Nat.reduceAdd]
            rw [e10, e12, e13]
            dsimp only [RV.cells] at hrow
            obtain ⟨i0, i1, i2, i3, i4, i5, i6, i7, i8⟩ := cells9 hrow
            obtain ⟨z0, z1, z2, z3, z4, z5, z6, z7, z8⟩ := cells9 qN
            obtain ⟨f0, f1, f2, f3, f4, f5, f6, f7, f8⟩ := free9 qN
            have HO3 := hide O3
            have HS3 := hide S3
            have HQN := hide qN
            have HQM := hide qM
            have bnx : (rx != rx) = false := by simp
            have bny : (ry != ry) = false := by simp
            have hMN : Hid (bM < bN) := hide hMN0
            clear hq hf hqw O3 S3 qN qM e10 e12 e13 hrow
            go_wp2_with fail
            obtain ⟨W3, hW3⟩ : ∃ W3, W3 = (((((((((W.setCell ⟨bN, 0, none⟩ (.int .i64 s0)).setCell ⟨bN, 1, none⟩ (.int .i64 s1)).setCell ⟨bN, 2, none⟩ (.int .i64 s2)).setCell ⟨bN, 3, none⟩ (.slice A3 n3 c3)).setCell ⟨bN, 4, none⟩ (.slice B3 k3n d3n)).setCell ⟨bN, 5, none⟩ (.int .i64 s5)).setCell ⟨bN, 6, none⟩ (.int .i64 s6)).setCell ⟨bN, 7, none⟩ (.int .i64 s7)).setCell ⟨bN, 8, none⟩ (.int .i64 s8)) := ⟨_, rfl⟩
            rw [← hW3]
            have HT3 := turn9 W bN (.int .i64 s0) (.int .i64 s1) (.int .i64 s2) (.slice A3 n3 c3) (.slice B3 k3n d3n) (.int .i64 s5) (.int .i64 s6) (.int .i64 s7) (.int .i64 s8)
            rw [← hW3] at HT3
            have HO4 := hide (HO3.out.box HQN.out HT3 hbNs)
            have HRN : Hid (W3.heap[bN]? = some (.cells #[.int .i64 s0, .int .i64 s1, .int .i64 s2, .slice A3 n3 c3, .slice B3 k3n d3n, .int .i64 s5, .int .i64 s6, .int .i64 s7, .int .i64 s8] MT (0, 0))) := by
              rw [hW3]
              exact row9g (w := W) (b := bN) (.int .i64 s0) (.int .i64 s1) (.int .i64 s2) (.slice A3 n3 c3) (.slice B3 k3n d3n) (.int .i64 s5) (.int .i64 s6) (.int .i64 s7) (.int .i64 s8) HQN.out
            have HRM : Hid (W3.heap[bM]? = some (.cells #[.int .i64 t0, .int .i64 t1, .int .i64 t2, .slice A2 n2 c2, .slice B2 k2 d2, .int .i64 t5, .int .i64 t6, .int .i64 t7, .int .i64 t8] MT (0, 0))) := hide ((HT3.block bM (blk_lt HQM.out) (by have := hMN.out; omega)).trans HQM.out)
            obtain ⟨sb1, hsb1⟩ : ∃ s1, s1 = sameM m mc2 := ⟨_, rfl⟩
            have hss : sameM m mc2 = sameR _ _ := same_sim HSm.out HS3.out HIm.out HI2.out HEQ.out.1 HEQ.out.2.1 HEQ.out.2.2
            obtain ⟨JJ, hJJ⟩ : ∃ JJ, JJ = JC w1 g m g2 mc2 ⟨A2, n2, c2, B2, k2, d2, ⟨t0, t1, t2, tb, ty, t5, t6, t7, t8⟩⟩ ⟨A3, n3, c3, B3, k3n, d3n, ⟨s0, s1, s2, sb, sy, s5, s6, s7, s8⟩⟩ bM bN := ⟨_, rfl⟩
            have HJ3 : Hid (JJ W3) := hide (by rw [hJJ]; exact ⟨HO4.out, HRM.out, HRN.out⟩)
            have HC1 : Hid (∀ W, JJ W → Calls Tryz.prog 11 #[.pointer (some ⟨g, 0, none⟩), .agg #[.int .i64 t0, .int .i64 t1, .int .i64 t2, .slice A2 n2 c2, .slice B2 k2 d2, .int .i64 t5, .int .i64 t6, .int .i64 t7, .int .i64 t8]] W fun e w' => e = .returned (.bool true) ∧ JJ w') := fun W j => by
              rw [hJJ] at j ⊢
              exact (or2_shows1 j.1 HIm.out HSm.out hm3).mono fun e w' h => ⟨h.1, j.keep h.2.1 h.2.2⟩
            have HC4 : Hid (∀ W, JJ W → Calls Tryz.prog 11 #[.pointer (some ⟨g2, 0, none⟩), .agg #[.int .i64 s0, .int .i64 s1, .int .i64 s2, .slice A3 n3 c3, .slice B3 k3n d3n, .int .i64 s5, .int .i64 s6, .int .i64 s7, .int .i64 s8]] W fun e w' => e = .returned (.bool true) ∧ JJ w') := fun W j => by
              rw [hJJ] at j ⊢
              exact (or2_shows2 j.1.swap HI2.out HS3.out HC3).mono fun e w' h => ⟨h.1, j.keep h.2.1.swap h.2.2⟩
            have HC5 : Hid (∀ W, JJ W → Calls Tryz.prog 13 #[.pointer (some ⟨g, 0, none⟩), .pointer (some ⟨g2, 0, none⟩)] W fun e w' => e = .returned (.bool sb1) ∧ JJ w') := fun W j => by
              rw [hJJ] at j ⊢
              rw [hsb1]
              exact (or2_same j.1 HIm.out HI2.out HEQ.out.1 HEQ.out.2.1 HEQ.out.2.2).mono fun e w' h => ⟨h.1, j.keep h.2.1 h.2.2⟩
            have HC6 : Hid (∀ W, JJ W → Calls Tryz.prog 14 #[.agg #[.int .i64 t0, .int .i64 t1, .int .i64 t2, .slice A2 n2 c2, .slice B2 k2 d2, .int .i64 t5, .int .i64 t6, .int .i64 t7, .int .i64 t8], .agg #[.int .i64 s0, .int .i64 s1, .int .i64 s2, .slice A3 n3 c3, .slice B3 k3n d3n, .int .i64 s5, .int .i64 s6, .int .i64 s7, .int .i64 s8]] W fun e w' => e = .returned (.bool sb1) ∧ JJ w') := fun W j => by
              rw [hJJ] at j ⊢
              rw [hsb1, hss]
              obtain ⟨p1, p2, -, -, -, -, -, -, -, -, -, -, -, -, M⟩ := id j.1
              have hk1 := HSm.out.kind
              have hk2 := HS3.out.kind
              have hs1 := HSm.out.size
              have hs2 := HS3.out.size
              have hp1 := HSm.out.piece
              have hp2 := HS3.out.piece
              obtain ⟨q1, q2, q3⟩ := HEQ.out
              refine (rSame_any _ _ W M.r1 M.r2 (HSm.out.K HIm.out hm3).N (HS3.out.K HI2.out HC3).N (by rw [hk1, hk2]; exact q1) (by rw [hs1, hs2]; exact q3) (by rw [hp1, hp2]; exact q2)).mono fun e w' h => ⟨h.1, j.keep (j.1.q h.2) (KeepM.q h.2)⟩
            have HJD : Hid (JJ W3.drew) := by
              rw [hJJ]
              have := HJ3.out
              rw [hJJ] at this
              exact hide (this.keep (this.1.q (Q.refl W3).drew) (KeepM.q (Q.refl W3).drew))
            have HJM : Hid (∀ W, JJ W → W.heap[bM]? = some (.cells #[.int .i64 t0, .int .i64 t1, .int .i64 t2, .slice A2 n2 c2, .slice B2 k2 d2, .int .i64 t5, .int .i64 t6, .int .i64 t7, .int .i64 t8] MT (0, 0))) := fun W j => by rw [hJJ] at j; exact j.2.1
            have HJN : Hid (∀ W, JJ W → W.heap[bN]? = some (.cells #[.int .i64 s0, .int .i64 s1, .int .i64 s2, .slice A3 n3 c3, .slice B3 k3n d3n, .int .i64 s5, .int .i64 s6, .int .i64 s7, .int .i64 s8] MT (0, 0))) := fun W j => by rw [hJJ] at j; exact j.2.2
            have HFIN : Hid (∀ W, JJ W → JC w1 g m g2 mc2 ⟨A2, n2, c2, B2, k2, d2, ⟨t0, t1, t2, tb, ty, t5, t6, t7, t8⟩⟩ ⟨A3, n3, c3, B3, k3n, d3n, ⟨s0, s1, s2, sb, sy, s5, s6, s7, s8⟩⟩ bM bN W) := fun W j => by rw [hJJ] at j; exact j
            have bns : (sb1 != sb1) = false := by simp
            have hx0 : ∀ kk, (extJ JJ W3 kk).cell? ⟨bM, 0, none⟩ = some (.int .i64 t0) := fun kk => by rw [cell_of_row _ _ _ _ _ _ (HJM.out _ (j_extJ HJ3.out kk))]; rfl
            have hx1 : ∀ kk, (extJ JJ W3 kk).cell? ⟨bM, 1, none⟩ = some (.int .i64 t1) := fun kk => by rw [cell_of_row _ _ _ _ _ _ (HJM.out _ (j_extJ HJ3.out kk))]; rfl
            have hx2 : ∀ kk, (extJ JJ W3 kk).cell? ⟨bM, 2, none⟩ = some (.int .i64 t2) := fun kk => by rw [cell_of_row _ _ _ _ _ _ (HJM.out _ (j_extJ HJ3.out kk))]; rfl
            have hx3 : ∀ kk, (extJ JJ W3 kk).cell? ⟨bM, 3, none⟩ = some (.slice A2 n2 c2) := fun kk => by rw [cell_of_row _ _ _ _ _ _ (HJM.out _ (j_extJ HJ3.out kk))]; rfl
            have hx4 : ∀ kk, (extJ JJ W3 kk).cell? ⟨bM, 4, none⟩ = some (.slice B2 k2 d2) := fun kk => by rw [cell_of_row _ _ _ _ _ _ (HJM.out _ (j_extJ HJ3.out kk))]; rfl
            have hx5 : ∀ kk, (extJ JJ W3 kk).cell? ⟨bM, 5, none⟩ = some (.int .i64 t5) := fun kk => by rw [cell_of_row _ _ _ _ _ _ (HJM.out _ (j_extJ HJ3.out kk))]; rfl
            have hx6 : ∀ kk, (extJ JJ W3 kk).cell? ⟨bM, 6, none⟩ = some (.int .i64 t6) := fun kk => by rw [cell_of_row _ _ _ _ _ _ (HJM.out _ (j_extJ HJ3.out kk))]; rfl
            have hx7 : ∀ kk, (extJ JJ W3 kk).cell? ⟨bM, 7, none⟩ = some (.int .i64 t7) := fun kk => by rw [cell_of_row _ _ _ _ _ _ (HJM.out _ (j_extJ HJ3.out kk))]; rfl
            have hx8 : ∀ kk, (extJ JJ W3 kk).cell? ⟨bM, 8, none⟩ = some (.int .i64 t8) := fun kk => by rw [cell_of_row _ _ _ _ _ _ (HJM.out _ (j_extJ HJ3.out kk))]; rfl
            have hy0 : ∀ kk, (extJ JJ W3 kk).cell? ⟨bN, 0, none⟩ = some (.int .i64 s0) := fun kk => by rw [cell_of_row _ _ _ _ _ _ (HJN.out _ (j_extJ HJ3.out kk))]; rfl
            have hy1 : ∀ kk, (extJ JJ W3 kk).cell? ⟨bN, 1, none⟩ = some (.int .i64 s1) := fun kk => by rw [cell_of_row _ _ _ _ _ _ (HJN.out _ (j_extJ HJ3.out kk))]; rfl
            have hy2 : ∀ kk, (extJ JJ W3 kk).cell? ⟨bN, 2, none⟩ = some (.int .i64 s2) := fun kk => by rw [cell_of_row _ _ _ _ _ _ (HJN.out _ (j_extJ HJ3.out kk))]; rfl
            have hy3 : ∀ kk, (extJ JJ W3 kk).cell? ⟨bN, 3, none⟩ = some (.slice A3 n3 c3) := fun kk => by rw [cell_of_row _ _ _ _ _ _ (HJN.out _ (j_extJ HJ3.out kk))]; rfl
            have hy4 : ∀ kk, (extJ JJ W3 kk).cell? ⟨bN, 4, none⟩ = some (.slice B3 k3n d3n) := fun kk => by rw [cell_of_row _ _ _ _ _ _ (HJN.out _ (j_extJ HJ3.out kk))]; rfl
            have hy5 : ∀ kk, (extJ JJ W3 kk).cell? ⟨bN, 5, none⟩ = some (.int .i64 s5) := fun kk => by rw [cell_of_row _ _ _ _ _ _ (HJN.out _ (j_extJ HJ3.out kk))]; rfl
            have hy6 : ∀ kk, (extJ JJ W3 kk).cell? ⟨bN, 6, none⟩ = some (.int .i64 s6) := fun kk => by rw [cell_of_row _ _ _ _ _ _ (HJN.out _ (j_extJ HJ3.out kk))]; rfl
            have hy7 : ∀ kk, (extJ JJ W3 kk).cell? ⟨bN, 7, none⟩ = some (.int .i64 s7) := fun kk => by rw [cell_of_row _ _ _ _ _ _ (HJN.out _ (j_extJ HJ3.out kk))]; rfl
            have hy8 : ∀ kk, (extJ JJ W3 kk).cell? ⟨bN, 8, none⟩ = some (.int .i64 s8) := fun kk => by rw [cell_of_row _ _ _ _ _ _ (HJN.out _ (j_extJ HJ3.out kk))]; rfl
            clear hW3 HT3 HO3 hsb1 hss hJJ HRF i0 i1 i2 i3 i4 i5 i6 i7 i8 z0 z1 z2 z3 z4 z5 z6 z7 z8 f0 f1 f2 f3 f4 f5 f6 f7 f8
            refine wp_region_J HJD.out (by kernel_rfl) (by kernel_rfl) ?_
            iterate 17 (go_big_quiet_step ((go_at_call 11; exact extJ_call (HC1.out _ (j_extJ HJ3.out _)))))
            repeat (go_big_quiet_step (first | (go_at_call 11; exact extJ_call (HC4.out _ (j_extJ HJ3.out _))) | (go_at_call 13; exact extJ_call (HC5.out _ (j_extJ HJ3.out _))) | (go_at_call 14; exact extJ_call (HC6.out _ (j_extJ HJ3.out _)))))
            refine wpQuiet_nil ?_
            rintro w9 ⟨k9, hk9⟩
            have HJ9 : Hid (JJ w9) := hide (by rw [hk9]; exact j_extJ HJ3.out _)
            clear hk9 hx0 hy0 hx1 hy1 hx2 hy2 hx3 hy3 hx4 hy4 hx5 hy5 hx6 hy6 hx7 hy7 hx8 hy8 HC1 HC4 HC5 HC6
            go_wp2_with fail
            go_roundw
            case rel => exact ⟨j + 1, mc2, _, by go_num, by omega, hide ⟨(HFIN.out _ HJ9.out).1, HI2.out, HS3.out, HC2.out, (HFIN.out _ HJ9.out).2.1, (HFIN.out _ HJ9.out).2.2, HEQ.out⟩⟩
            case measure => simp [intOf] <;> omega
        · have hd1 : decide ((j : Int) < (nm : Int)) = false := by simp; omega
          have hd0 : decide (j < nm) = false := by simp; omega
          obtain rfl : j = nm := by omega
          go_wp2_with fail
          refine (known_any _).mono ?_
          rintro e w9 ⟨rfl, hqw9⟩
          obtain ⟨hcw9, hfw9, hzw9⟩ := hqw9.facts
          try simp at hzw9
          try have hs0w9 : w.heap.size < w9.heap.size := by omega
          try have hs1w9 : w.heap.size + 1 < w9.heap.size := by omega
          go_wp2_with fail
          go_ret
          exact ⟨rfl, hq1.trans (hqC.trans hqw9)⟩
theorem copies_any (kind size piece : Int) (v vm : SlV Ask3) (w : World) (hS : SlOk 3 encA okA w v) (hS2 : SlOk 3 encA okA w vm) : Calls Tryz.prog 4 #[.agg #[.int .i64 kind, .int .i64 size, .int .i64 piece], v.val, vm.val] w fun e w' => e = .returned (.bool true) ∧ Q w w' := by
  obtain ⟨A, n, c, l⟩ := v
  obtain ⟨Am, nm, cm, lm⟩ := vm
  unfold SlV.val
  have b1 : n ≤ 140737488351232 := by have := hS.sl.cap; have := hS.big; dsimp only at *; omega
  have b2 : nm ≤ 140737488351232 := by have := hS2.sl.cap; have := hS2.big; dsimp only at *; omega
  cases hs : shapeB kind size piece
  · exact copies_bad kind size piece A Am n c nm cm w hs
  · by_cases hl : 320 < n
    · exact copies_long1 kind size piece A Am n c nm cm w hs b1 b2 hl
    · by_cases hl2 : 320 < nm
      · exact copies_long2 kind size piece A Am n c nm cm w hs b1 b2 hl hl2
      · exact copies_good kind size piece A Am n c nm cm l lm w hs hS hS2 hl hl2
end Go.Proofs.YtegpkcbmgjoicaaGreat
