/- The law HeapFails, walked. Conditions: the slice reads as acts. -/
import Derived.Test.YtegpkcbmgjoicaaHrE
import Derived.Test.YtegpkcbmgjoicaaHqY
namespace Go.Proofs.Ytegpkcbmgjoicaa
open Go.RowKit HP
set_option linter.unusedVariables false
set_option maxHeartbeats 16000000 in
set_option maxRecDepth 100000 in
theorem fails_bad (kind size piece xop xa xb : Int) (A : Option Addr) (n c : Nat) (w : World) (hs : shapeB kind size piece = false) : Calls Try.prog 7 #[.agg #[.int .i64 kind, .int .i64 size, .int .i64 piece], .slice A n c, .agg #[.int .i64 xop, .int .i64 xa, .int .i64 xb]] w fun e w' => e = .returned (.bool true) ∧ Q w w' := by
  have HN : Hid (∀ W, Calls Try.prog 9 #[.int .i64 kind, .int .i64 size, .int .i64 piece] W fun e w' => e = .returned (.tuple #[.pointer none, .int .i64 1]) ∧ Q W w') := fun W => (new_any kind size piece W).mono (by
    rintro e w' (⟨-, h1, h2⟩ | ⟨h1, -⟩)
    · exact ⟨h1, h2⟩
    · rw [hs] at h1; cases h1)
  clear hs
  obtain ⟨wb, hwb⟩ : ∃ wb, (w.alloc (.cells #[.int .i64 kind, .int .i64 size, .int .i64 piece] 32)).alloc (.cells #[.int .i64 xop, .int .i64 xa, .int .i64 xb] 39) = wb := ⟨_, rfl⟩
  have hqb : Q w wb := by rw [← hwb]; exact ((Q.refl w).alloc _).alloc _
  have hs0 : w.heap.size < wb.heap.size := by rw [← hwb]; simp; omega
  have hs1 : w.heap.size + 1 < wb.heap.size := by rw [← hwb]; simp
  have e1 : w.heap.size + 1 = (w.alloc (.cells #[.int .i64 kind, .int .i64 size, .int .i64 piece] 32)).heap.size := by simp
  have k0 : wb.cell? ⟨w.heap.size + 1, 0, none⟩ = some (.int .i64 xop) := by rw [← hwb, e1, cell_new]; rfl
  have k1 : wb.cell? ⟨w.heap.size + 1, 1, none⟩ = some (.int .i64 xa) := by rw [← hwb, e1, cell_new]; rfl
  have k2 : wb.cell? ⟨w.heap.size + 1, 2, none⟩ = some (.int .i64 xb) := by rw [← hwb, e1, cell_new]; rfl
  have HK : Hid (∀ W, Q wb W → W.cell? ⟨w.heap.size + 1, 0, none⟩ = some (.int .i64 xop) ∧ W.cell? ⟨w.heap.size + 1, 1, none⟩ = some (.int .i64 xa) ∧ W.cell? ⟨w.heap.size + 1, 2, none⟩ = some (.int .i64 xb)) := fun W hq => ⟨(hq.facts.1 _ 0 hs1).trans k0, (hq.facts.1 _ 1 hs1).trans k1, (hq.facts.1 _ 2 hs1).trans k2⟩
  have HWB := hide hwb
  clear hwb e1 k0 k1 k2
  go_enter Try.func7, Try.ntmps7
  go_wp2_with fail
  rw [HWB.out]
  refine (HN.out _).mono ?_
  rintro e w2 ⟨rfl, hq2⟩
  go_wp2_with fail
  refine (known_any _).mono ?_
  rintro e w9 ⟨rfl, hqw9⟩
  obtain ⟨hcw9, hfw9, hzw9⟩ := hqw9.facts
  try simp at hzw9
  try have hs0w9 : w.heap.size < w9.heap.size := by omega
  try have hs1w9 : w.heap.size + 1 < w9.heap.size := by omega
  go_wp2_with fail
  go_ret
  exact ⟨rfl, hqb.trans (hq2.trans hqw9)⟩
set_option maxHeartbeats 16000000 in
set_option maxRecDepth 100000 in
theorem fails_long (kind size piece xop xa xb : Int) (A : Option Addr) (n c : Nat) (w : World) (hs : shapeB kind size piece = true) (hn : n ≤ 140737488351232) (hl : 320 < n) : Calls Try.prog 7 #[.agg #[.int .i64 kind, .int .i64 size, .int .i64 piece], .slice A n c, .agg #[.int .i64 xop, .int .i64 xa, .int .i64 xb]] w fun e w' => e = .returned (.bool true) ∧ Q w w' := by
  have HN : Hid (∀ W, Calls Try.prog 9 #[.int .i64 kind, .int .i64 size, .int .i64 piece] W fun e w' => ∃ g, e = .returned (.tuple #[.pointer (some ⟨g, 0, none⟩), .int .i64 0]) ∧ Q W w') := fun W => (own_new hs W).mono (by
    rintro e w' ⟨g, h, O⟩
    exact ⟨g, h, O.toQ⟩)
  have HL : Hid (∀ W, Calls Try.prog 12 #[.slice A n c] W fun e w' => e = .returned (.bool true) ∧ Q W w') := fun W => by
    have := long_any A n c W hn
    rw [decide_eq_true hl] at this
    exact this
  clear hs hn hl
  obtain ⟨wb, hwb⟩ : ∃ wb, (w.alloc (.cells #[.int .i64 kind, .int .i64 size, .int .i64 piece] 32)).alloc (.cells #[.int .i64 xop, .int .i64 xa, .int .i64 xb] 39) = wb := ⟨_, rfl⟩
  have hqb : Q w wb := by rw [← hwb]; exact ((Q.refl w).alloc _).alloc _
  have hs0 : w.heap.size < wb.heap.size := by rw [← hwb]; simp; omega
  have hs1 : w.heap.size + 1 < wb.heap.size := by rw [← hwb]; simp
  have e1 : w.heap.size + 1 = (w.alloc (.cells #[.int .i64 kind, .int .i64 size, .int .i64 piece] 32)).heap.size := by simp
  have k0 : wb.cell? ⟨w.heap.size + 1, 0, none⟩ = some (.int .i64 xop) := by rw [← hwb, e1, cell_new]; rfl
  have k1 : wb.cell? ⟨w.heap.size + 1, 1, none⟩ = some (.int .i64 xa) := by rw [← hwb, e1, cell_new]; rfl
  have k2 : wb.cell? ⟨w.heap.size + 1, 2, none⟩ = some (.int .i64 xb) := by rw [← hwb, e1, cell_new]; rfl
  have HK : Hid (∀ W, Q wb W → W.cell? ⟨w.heap.size + 1, 0, none⟩ = some (.int .i64 xop) ∧ W.cell? ⟨w.heap.size + 1, 1, none⟩ = some (.int .i64 xa) ∧ W.cell? ⟨w.heap.size + 1, 2, none⟩ = some (.int .i64 xb)) := fun W hq => ⟨(hq.facts.1 _ 0 hs1).trans k0, (hq.facts.1 _ 1 hs1).trans k1, (hq.facts.1 _ 2 hs1).trans k2⟩
  have HWB := hide hwb
  clear hwb e1 k0 k1 k2
  go_enter Try.func7, Try.ntmps7
  go_wp2_with fail
  rw [HWB.out]
  refine (HN.out _).mono ?_
  rintro e w2 ⟨g, rfl, hq2⟩
  go_wp2_with fail
  refine (HL.out _).mono ?_
  rintro e w3 ⟨rfl, hq3⟩
  go_wp2_with fail
  refine (known_any _).mono ?_
  rintro e w9 ⟨rfl, hqw9⟩
  obtain ⟨hcw9, hfw9, hzw9⟩ := hqw9.facts
  try simp at hzw9
  try have hs0w9 : w.heap.size < w9.heap.size := by omega
  try have hs1w9 : w.heap.size + 1 < w9.heap.size := by omega
  go_wp2_with fail
  go_ret
  exact ⟨rfl, hqb.trans (hq2.trans (hq3.trans hqw9))⟩
set_option maxHeartbeats 16000000 in
set_option maxRecDepth 100000 in
theorem fails_good (kind size piece xop xa xb : Int) (A : Option Addr) (n c : Nat) (w : World) (l : List Ask3) (hs : shapeB kind size piece = true) (hS : SlOk 3 encA okA w ⟨A, n, c, l⟩) (hl : ¬ 320 < n) (hxa : -9223372036854775808 ≤ xa ∧ xa ≤ 9223372036854775807) : Calls Try.prog 7 #[.agg #[.int .i64 kind, .int .i64 size, .int .i64 piece], .slice A n c, .agg #[.int .i64 xop, .int .i64 xa, .int .i64 xb]] w fun e w' => e = .returned (.bool true) ∧ Q w w' := by
  have HS := hide hS
  have hni : (n : Int) ≤ 320 := by omega
  have HL : Hid (∀ W, Calls Try.prog 12 #[.slice A n c] W fun e w' => e = .returned (.bool false) ∧ Q W w') := fun W => by
    have := long_any A n c W (by omega)
    rw [decide_eq_false hl] at this
    exact this
  have HI0 := hide (newM_inv hs)
  have HN : Hid (∀ W, Calls Try.prog 9 #[.int .i64 kind, .int .i64 size, .int .i64 piece] W fun e w' => ∃ g, e = .returned (.tuple #[.pointer (some ⟨g, 0, none⟩), .int .i64 0]) ∧ Own W w' g (newM kind size piece)) := fun W => own_new hs W
  clear hs hS hl
  obtain ⟨wb, hwb⟩ : ∃ wb, (w.alloc (.cells #[.int .i64 kind, .int .i64 size, .int .i64 piece] 32)).alloc (.cells #[.int .i64 xop, .int .i64 xa, .int .i64 xb] 39) = wb := ⟨_, rfl⟩
  have hqb : Q w wb := by rw [← hwb]; exact ((Q.refl w).alloc _).alloc _
  have hs0 : w.heap.size < wb.heap.size := by rw [← hwb]; simp; omega
  have hs1 : w.heap.size + 1 < wb.heap.size := by rw [← hwb]; simp
  have e1 : w.heap.size + 1 = (w.alloc (.cells #[.int .i64 kind, .int .i64 size, .int .i64 piece] 32)).heap.size := by simp
  have k0 : wb.cell? ⟨w.heap.size + 1, 0, none⟩ = some (.int .i64 xop) := by rw [← hwb, e1, cell_new]; rfl
  have k1 : wb.cell? ⟨w.heap.size + 1, 1, none⟩ = some (.int .i64 xa) := by rw [← hwb, e1, cell_new]; rfl
  have k2 : wb.cell? ⟨w.heap.size + 1, 2, none⟩ = some (.int .i64 xb) := by rw [← hwb, e1, cell_new]; rfl
  have HK : Hid (∀ W, Q wb W → W.cell? ⟨w.heap.size + 1, 0, none⟩ = some (.int .i64 xop) ∧ W.cell? ⟨w.heap.size + 1, 1, none⟩ = some (.int .i64 xa) ∧ W.cell? ⟨w.heap.size + 1, 2, none⟩ = some (.int .i64 xb)) := fun W hq => ⟨(hq.facts.1 _ 0 hs1).trans k0, (hq.facts.1 _ 1 hs1).trans k1, (hq.facts.1 _ 2 hs1).trans k2⟩
  have HWB := hide hwb
  clear hwb e1 k0 k1 k2
  go_enter Try.func7, Try.ntmps7
  go_wp2_with fail
  rw [HWB.out]
  refine (HN.out wb).mono ?_
  rintro e w1 ⟨g, rfl, o1⟩
  have O1 := hide o1
  clear o1
  go_wp2_with fail
  refine (HL.out _).mono ?_
  rintro e w2 ⟨rfl, hq2⟩
  have O2 := hide (O1.out.q hq2)
  clear hq2
  go_wp2_with fail
  go_loopw [9] (fun v9 wr => ∃ (i : Nat) (m : HM), v9 = .int .i64 (i : Int) ∧ i ≤ n ∧ Hid (After wb g (i : Int) m wr)) (fun v9 _ => n - (intOf v9).toNat)
  case atStart => exact ⟨0, _, by go_num, Nat.zero_le _, hide ⟨O2.out, HI0.out, Int.le_refl _⟩⟩
  case round =>
    obtain ⟨i, m, rfl, hi, HO⟩ := hrel
    have hq0 : Q wb wr := HO.out.1.toQ
    by_cases hlt : i < n
    · have hd1 : decide ((i : Int) < (n : Int)) = true := by simp; omega
      have hd0 : decide (i < n) = true := by simp; omega
      have hlti : (i : Int) < (n : Int) := by omega
      obtain ⟨bA, oA, op, a1, b1, hA, hbl, hx, x0, x1, x2⟩ := HS.out.sl.ask i hlt
      dsimp only at hA
      subst hA
      have hok := HS.out.all _ (List.mem_of_getElem? hx)
      have ha1 : -9223372036854775808 ≤ a1 ∧ a1 ≤ 9223372036854775807 := okI_b (w := w) hok.2.1
      have hqw := hqb.trans hq0
      have y0 := (hqw.facts.1 bA _ hbl).trans x0
      have y1 := (hqw.facts.1 bA _ hbl).trans x1
      have y2 := (hqw.facts.1 bA _ hbl).trans x2
      have HACT := hide (after_act HO.out (by omega) op a1 b1 ha1)
      obtain ⟨m2, hm2⟩ : ∃ m2, m2 = (actM m op a1 b1).1 := ⟨_, rfl⟩
      obtain ⟨rx, hrx⟩ : ∃ rx, rx = (actM m op a1 b1).2.1 := ⟨_, rfl⟩
      obtain ⟨ry, hry⟩ : ∃ ry, ry = (actM m op a1 b1).2.2 := ⟨_, rfl⟩
      rw [← hm2, ← hrx, ← hry] at HACT
      clear hm2 hrx hry hx hok x0 x1 x2 ha1
      go_wp2_with fail
      refine HACT.out.mono ?_
      rintro e w5 ⟨rfl, o5⟩
      have O5 := hide o5
      clear o5 HACT
      go_wp2_with fail
      go_roundw
      case rel => exact ⟨i + 1, m2, by go_num, by omega, hide (by have := O5.out; push_cast; exact this)⟩
      case measure => simp [intOf] <;> omega
    · have hd1 : decide ((i : Int) < (n : Int)) = false := by simp; omega
      have hd0 : decide (i < n) = false := by simp; omega
      obtain rfl : i = n := by omega
      have hmc := HO.out.2.2
      obtain ⟨mA, hmA⟩ : ∃ mA : HM, mA = { m with failIn := 0 } := ⟨_, rfl⟩
      obtain ⟨mB, hmB⟩ : ∃ mB : HM, mB = { m with failIn := 1 } := ⟨_, rfl⟩
      have hfA : failAtM m 0 = (mA, 0) := by rw [hmA]; rfl
      have hfB : failAtM mA 1 = (mB, 0) := by rw [hmB, hmA]; rfl
      have hIA : Inv mA := by have := failAt_inv HO.out.2.1 0; rw [hfA] at this; exact this
      have hIB : Inv mB := by have := failAt_inv hIA 1; rw [hfB] at this; exact this
      have hac : actM mB 0 1 1 = (countM mB, 0, 3) := by unfold actM; rw [if_pos rfl, hmB]; exact fail_alloc m
      have hIC : Inv (countM mB) := hIB.count
      obtain ⟨kk, hkk⟩ : ∃ kk, kk = m.calls := ⟨_, rfl⟩
      have hk0 : 0 ≤ kk := by rw [hkk]; exact HO.out.2.1.calls
      have hk1 : kk ≤ 320 := by rw [hkk]; omega
      have hcA : mA.calls = kk := by rw [hmA, hkk]
      have hcC : (countM mB).calls = kk + 1 := by rw [hkk, hmB]; rfl
      obtain ⟨mC, hmC⟩ : ∃ mC, mC = countM mB := ⟨_, rfl⟩
      rw [← hmC] at hac hIC hcC
      have hsC : stretches mC = stretches mA := by rw [hmC, hmB, hmA]; rfl
      have huC : used mC.live = used mA.live := by rw [hmC, hmB, hmA]; rfl
      have hpC : mC.peak = mA.peak := by rw [hmC, hmB, hmA]; rfl
      have HF1 : Hid (Calls Try.prog 22 #[.pointer (some ⟨g, 0, none⟩), .int .i64 0] wr fun e w' => e = .returned (.int .i64 0) ∧ Own wb w' g mA) := by
        have := own_failAt HO.out.1 HO.out.2.1 0
        rw [hfA] at this
        exact this
      have HCP : Hid (∀ W, Own wb W g mA → Calls Try.prog 20 #[.pointer (some ⟨g, 0, none⟩)] W fun e w' => ∃ g2, e = .returned (.pointer (some ⟨g2, 0, none⟩)) ∧ Own2 wb w' g mA g2 mA) := fun W O => own_copy O hIA
      have HF2 : Hid (∀ W g2, Own2 wb W g mA g2 mA → Calls Try.prog 22 #[.pointer (some ⟨g, 0, none⟩), .int .i64 1] W fun e w' => e = .returned (.int .i64 0) ∧ Own2 wb w' g mB g2 mA) := fun W g2 O => (own2_failAt O hIA 1).mono (by
        rintro e w' ⟨he, o, -⟩
        rw [hfB] at he o
        exact ⟨he, o⟩)
      have HAC : Hid (∀ W g2, Own2 wb W g mB g2 mA → Calls Try.prog 13 #[.pointer (some ⟨g, 0, none⟩), .agg #[.int .i64 0, .int .i64 1, .int .i64 1]] W fun e w' => e = .returned (.tuple #[.int .i64 0, .int .i64 3]) ∧ Own2 wb w' g mC g2 mA) := fun W g2 O => (own2_act O hIB (by rw [hmB]; show m.calls < _; omega) 0 1 1 (by decide)).mono (by
        rintro e w' ⟨he, o, -⟩
        rw [hac] at he o
        exact ⟨he, o⟩)
      have HCA : Hid (∀ W g2, Own2 wb W g mC g2 mA → Calls Try.prog 19 #[.pointer (some ⟨g, 0, none⟩)] W fun e w' => e = .returned (.int .i64 (kk + 1)) ∧ Own2 wb w' g mC g2 mA) := fun W g2 O => (own2_calls O hIC).mono (by
        rintro e w' ⟨he, o, -⟩
        rw [hcC] at he
        exact ⟨he, o⟩)
      have HCB : Hid (∀ W g2, Own2 wb W g mC g2 mA → Calls Try.prog 19 #[.pointer (some ⟨g2, 0, none⟩)] W fun e w' => e = .returned (.int .i64 kk) ∧ Own2 wb w' g mC g2 mA) := fun W g2 O => (own2_calls O.symm hIA).mono (by
        rintro e w' ⟨he, o, -⟩
        rw [hcA] at he
        exact ⟨he, o.symm⟩)
      obtain ⟨L, hL⟩ : ∃ L, L = stretches mA := ⟨_, rfl⟩
      rw [← hL] at hsC
      have HLA : Hid (∀ W g2, Own2 wb W g mC g2 mA → Calls Try.prog 15 #[.pointer (some ⟨g, 0, none⟩)] W fun e w' => ∃ v, e = .returned v ∧ w'.ownsRow W.heap.size 43 2 v L.length (L.flatMap encP) ∧ Own2 wb w' g mC g2 mA) := fun W g2 O => (own2_live O hIC).mono (by
        rintro e w' ⟨v, he, ho, o, -⟩
        rw [hsC] at ho
        exact ⟨v, he, ho, o⟩)
      have HLB : Hid (∀ W g2, Own2 wb W g mC g2 mA → Calls Try.prog 15 #[.pointer (some ⟨g2, 0, none⟩)] W fun e w' => ∃ v, e = .returned v ∧ w'.ownsRow W.heap.size 43 2 v L.length (L.flatMap encP) ∧ Own2 wb w' g mC g2 mA ∧ Keep W w') := fun W g2 O => (own2_live O.symm hIA).mono (by
        rintro e w' ⟨v, he, ho, o, k⟩
        rw [← hL] at ho
        exact ⟨v, he, ho, o.symm, k⟩)
      obtain ⟨us, hus⟩ : ∃ us, us = used mA.live := ⟨_, rfl⟩
      obtain ⟨pk, hpk⟩ : ∃ pk, pk = mA.peak := ⟨_, rfl⟩
      rw [← hus] at huC
      rw [← hpk] at hpC
      have HUA : Hid (∀ W g2, Own2 wb W g mC g2 mA → Calls Try.prog 17 #[.pointer (some ⟨g, 0, none⟩)] W fun e w' => e = .returned (.int .i64 us) ∧ Own2 wb w' g mC g2 mA ∧ Keep W w') := fun W g2 O => (own2_used O hIC).mono (by
        rintro e w' ⟨he, o, k⟩
        rw [huC] at he
        exact ⟨he, o, k⟩)
      have HUB : Hid (∀ W g2, Own2 wb W g mC g2 mA → Calls Try.prog 17 #[.pointer (some ⟨g2, 0, none⟩)] W fun e w' => e = .returned (.int .i64 us) ∧ Own2 wb w' g mC g2 mA ∧ Keep W w') := fun W g2 O => (own2_used O.symm hIA).mono (by
        rintro e w' ⟨he, o, k⟩
        rw [← hus] at he
        exact ⟨he, o.symm, k⟩)
      have HPA : Hid (∀ W g2, Own2 wb W g mC g2 mA → Calls Try.prog 18 #[.pointer (some ⟨g, 0, none⟩)] W fun e w' => e = .returned (.int .i64 pk) ∧ Own2 wb w' g mC g2 mA ∧ Keep W w') := fun W g2 O => (own2_peak O hIC).mono (by
        rintro e w' ⟨he, o, k⟩
        rw [hpC] at he
        exact ⟨he, o, k⟩)
      have HPB : Hid (∀ W g2, Own2 wb W g mC g2 mA → Calls Try.prog 18 #[.pointer (some ⟨g2, 0, none⟩)] W fun e w' => e = .returned (.int .i64 pk) ∧ Own2 wb w' g mC g2 mA ∧ Keep W w') := fun W g2 O => (own2_peak O.symm hIA).mono (by
        rintro e w' ⟨he, o, k⟩
        rw [← hpk] at he
        exact ⟨he, o.symm, k⟩)
      have HCQ : Hid (∀ W g2, Own2 wb W g mC g2 mA → Calls Try.prog 20 #[.pointer (some ⟨g2, 0, none⟩)] W fun e w' => ∃ g3, e = .returned (.pointer (some ⟨g3, 0, none⟩)) ∧ Own2 wb w' g2 mA g3 mA) := fun W g2 O => own_copy O.symm.one hIA
      obtain ⟨mD, hmD⟩ : ∃ mD, mD = (actM mA xop xa xb).1 := ⟨_, rfl⟩
      obtain ⟨rx, hrx⟩ : ∃ rx, rx = (actM mA xop xa xb).2.1 := ⟨_, rfl⟩
      obtain ⟨ry, hry⟩ : ∃ ry, ry = (actM mA xop xa xb).2.2 := ⟨_, rfl⟩
      have HAX : Hid (∀ W g2 g3, Own2 wb W g2 mA g3 mA → Calls Try.prog 13 #[.pointer (some ⟨g2, 0, none⟩), .agg #[.int .i64 xop, .int .i64 xa, .int .i64 xb]] W fun e w' => e = .returned (.tuple #[.int .i64 rx, .int .i64 ry]) ∧ Own2 wb w' g2 mD g3 mA) := fun W g2 g3 O => (own2_act O hIA (by rw [hcA]; omega) xop xa xb hxa).mono (by
        rintro e w' ⟨he, o, -⟩
        rw [← hrx, ← hry] at he
        rw [← hmD] at o
        exact ⟨he, o⟩)
      have HSM : Hid (∀ W g2 g3, Own2 wb W g2 mA g3 mA → Calls Try.prog 21 #[.pointer (some ⟨g2, 0, none⟩), .pointer (some ⟨g3, 0, none⟩)] W fun e w' => e = .returned (.bool true) ∧ Q wb w') := fun W g2 g3 O => (own2_same7 O hIA hIA rfl rfl rfl rfl rfl rfl rfl).mono (by
        rintro e w' ⟨he, o⟩
        rw [sameM_self] at he
        exact ⟨he, o.toQ⟩)
      have HER : Hid (¬ xop = 0 → ¬ xop = 2 → ¬ ry = 0 → mD = mA) := fun h0 h2 he => by rw [hmD]; exact act_error h0 h2 (by rw [← hry]; exact he)
      have hl64 : L.length ≤ 64 := by rw [hL, str_len]; exact hIA.len
      obtain ⟨N, hN⟩ : ∃ N, N = L.length := ⟨_, rfl⟩
      rw [← hN] at HLA HLB hl64
      have HNN := hide hN
      have hNi : (N : Int) ≤ 64 := by omega
      have k1e : ((kk + 1 : Int) != kk + 1) = false := by simp
      have use : ((us : Int) != us) = false := by simp
      have pke : ((pk : Int) != pk) = false := by simp
      have nne : ((N : Int) != (N : Int)) = false := by simp
      have hnp := neq_pair
      clear hmA hmB hfA hfB hIA hIB hac hIC hkk hcA hcC hmC hsC huC hpC hL hus hpk hmD hrx hry hN hmc hq0
      go_wp2_with fail
      refine HF1.out.mono ?_
      rintro e w1 ⟨rfl, o1⟩
      have O1 := hide o1
      clear o1 HF1
      go_wp2_with fail
      refine (HCP.out w1 O1.out).mono ?_
      rintro e w2 ⟨g2, rfl, o2⟩
      have O2 := hide o2
      clear o2 HCP
      go_wp2_with fail
      refine (HF2.out w2 g2 O2.out).mono ?_
      rintro e w3 ⟨rfl, o3⟩
      have O3 := hide o3
      clear o3 HF2
      go_wp2_with fail
      refine (HAC.out w3 g2 O3.out).mono ?_
      rintro e w4 ⟨rfl, o4⟩
      have O4 := hide o4
      clear o4 HAC
      go_wp2_with fail
      refine (HCA.out w4 g2 O4.out).mono ?_
      rintro e w5 ⟨rfl, o5⟩
      have O5 := hide o5
      clear o5 HCA
      go_wp2_with fail
      refine (HCB.out w5 g2 O5.out).mono ?_
      rintro e w6 ⟨rfl, o6⟩
      have O6 := hide o6
      clear o6 HCB
      go_wp2_with fail
      refine (HLA.out w6 g2 O6.out).mono ?_
      rintro e w7 ⟨v7, rfl, r7, o7⟩
      have O7 := hide o7
      have R7 := hide r7
      have r7' := r7
      rw [HNN.out] at r7'
      obtain ⟨A7, c7, e7, -⟩ := str_sl r7'
      rw [← HNN.out] at e7
      subst e7
      clear o7 HLA r7 r7'
      go_wp2_with fail
      refine (HLB.out w7 g2 O7.out).mono ?_
      rintro e w8 ⟨v8, rfl, r8, o8, k8⟩
      have O8 := hide o8
      have R8 := hide r8
      have K8 := hide k8
      have r8' := r8
      rw [HNN.out] at r8'
      obtain ⟨A8, c8, e8, -⟩ := str_sl r8'
      rw [← HNN.out] at e8
      subst e8
      clear o8 HLB r8 k8 r8'
      go_wp2_with fail
      refine (HUA.out w8 g2 O8.out).mono ?_
      rintro e w9 ⟨rfl, o9, k9⟩
      have O9 := hide o9
      have K9 := hide k9
      clear o9 k9
      go_wp2_with fail
      refine (HUB.out w9 g2 O9.out).mono ?_
      rintro e w10 ⟨rfl, o10, k10⟩
      have O10 := hide o10
      have K10 := hide k10
      clear o10 k10
      go_wp2_with fail
      refine (HPA.out w10 g2 O10.out).mono ?_
      rintro e w11 ⟨rfl, o11, k11⟩
      have O11 := hide o11
      have K11 := hide k11
      clear o11 k11
      go_wp2_with fail
      refine (HPB.out w11 g2 O11.out).mono ?_
      rintro e w12 ⟨rfl, o12, k12⟩
      have O12 := hide o12
      have KK : Hid (Keep w8 w12) := hide (((K9.out.trans K10.out).trans K11.out).trans k12)
      clear o12 k12
      have R7b := hide (KK.out.own (K8.out.own R7.out))
      have R8b := hide (KK.out.own R8.out)
      have S7 : Hid (Sl 2 encP w12 A7 N c7 L) := hide (Sl.own (own_low R7b.out (Nat.zero_le _)) (fun _ => rfl) (by decide))
      have S8 : Hid (Sl 2 encP w12 A8 N c8 L) := hide (Sl.own (own_low R8b.out (Nat.zero_le _)) (fun _ => rfl) (by decide))
      clear R7 R8 K8 K9 K10 K11 KK R7b R8b HUA HUB HPA HPB
      go_wp2_with fail
      go_loopw [15] (fun v15 wr => ∃ k : Nat, k ≤ N ∧ v15 = .int .i64 (k : Int) ∧ Q w12 wr) (fun v15 _ => N - (intOf v15).toNat)
      case atStart => exact ⟨0, by omega, by go_num, Q.refl _⟩
      case round =>
        obtain ⟨k, hk, rfl, hqr⟩ := hrel
        by_cases hlt : k < N
        · have hd1 : decide ((k : Int) < (N : Int)) = true := by simp; omega
          have hd0 : decide (k < N) = true := by simp; omega
          have hlti : (k : Int) < (N : Int) := by omega
          obtain ⟨b7, q7, p1, p2, hA7, hb7, hx7, z1, z2⟩ := (S7.out.up hqr).str k hlt
          obtain ⟨b8, q8, p3, p4, hA8, hb8, hx8, z3, z4⟩ := (S8.out.up hqr).str k hlt
          rw [hx7] at hx8
          injection hx8 with hx8
          injection hx8 with e3 e4
          subst e3
          subst e4
          subst hA7
          subst hA8
          clear hx7
          go_wp2_with fail
          have hxc := ext_cell
          refine wp_region_ext (by kernel_rfl) (by kernel_rfl) ?_
          repeat (go_big_quiet_step ((fail)))
          clear hxc
          refine wpQuiet_nil ?_
          intro w13 hww13
          have hqw13 := q_of_ext hww13
          clear hww13
          obtain ⟨hcw13, hfw13, hzw13⟩ := hqw13.facts
          try simp at hzw13
          try have hs0w13 : w.heap.size < w13.heap.size := by omega
          try have hs1w13 : w.heap.size + 1 < w13.heap.size := by omega
          go_wp2_with fail
          go_roundw
          case rel => exact ⟨k + 1, by omega, by go_num, hqr.trans hqw13⟩
          case measure => simp [intOf] <;> omega
        · have hd1 : decide ((k : Int) < (N : Int)) = false := by simp; omega
          have hd0 : decide (k < N) = false := by simp; omega
          obtain rfl : k = N := by omega
          have O13 := hide (O12.out.q hqr)
          clear hqr S7 S8
          go_wp2_with fail
          refine (HCQ.out wr g2 O13.out).mono ?_
          rintro e w14 ⟨g3, rfl, o14⟩
          have O14 := hide o14
          obtain ⟨t0, t1, t2⟩ := HK.out w14 o14.toQ
          clear o14 HCQ
          go_wp2_with fail
          refine (HAX.out w14 g2 g3 O14.out).mono ?_
          rintro e w15 ⟨rfl, o15⟩
          have O15 := hide o15
          obtain ⟨t3, t4, t5⟩ := HK.out w15 o15.toQ
          have hq15 := o15.toQ
          have hs15 : w.heap.size + 1 < w15.heap.size := by have := hq15.size; omega
          clear o15 HAX t0 t1 t2
          by_cases f1 : ry = 0
          · have f2 : (ry != 0) = false := by simpa using f1
            clear f1 HER
            go_wp2_with fail
            refine (known_any _).mono ?_
            rintro e w16 ⟨rfl, hqw16⟩
            obtain ⟨hcw16, hfw16, hzw16⟩ := hqw16.facts
            try simp at hzw16
            try have hs0w16 : w.heap.size < w16.heap.size := by omega
            try have hs1w16 : w.heap.size + 1 < w16.heap.size := by omega
            go_wp2_with fail
            go_ret
            exact ⟨rfl, hqb.trans (hq15.trans hqw16)⟩
          · have f2 : (ry != 0) = true := by simpa using f1
            by_cases f3 : xop = 0
            · have f4 : (xop != 0) = false := by simpa using f3
              clear f1 f3 HER
              go_wp2_with fail
              refine (known_any _).mono ?_
              rintro e w16 ⟨rfl, hqw16⟩
              obtain ⟨hcw16, hfw16, hzw16⟩ := hqw16.facts
              try simp at hzw16
              try have hs0w16 : w.heap.size < w16.heap.size := by omega
              try have hs1w16 : w.heap.size + 1 < w16.heap.size := by omega
              go_wp2_with fail
              go_ret
              exact ⟨rfl, hqb.trans (hq15.trans hqw16)⟩
            · have f4 : (xop != 0) = true := by simpa using f3
              by_cases f5 : xop = 2
              · have f6 : (xop != 2) = false := by simpa using f5
                clear f1 f3 f5 HER
                go_wp2_with fail
                refine (known_any _).mono ?_
                rintro e w16 ⟨rfl, hqw16⟩
                obtain ⟨hcw16, hfw16, hzw16⟩ := hqw16.facts
                try simp at hzw16
                try have hs0w16 : w.heap.size < w16.heap.size := by omega
                try have hs1w16 : w.heap.size + 1 < w16.heap.size := by omega
                go_wp2_with fail
                go_ret
                exact ⟨rfl, hqb.trans (hq15.trans hqw16)⟩
              · have f6 : (xop != 2) = true := by simpa using f5
                have hmd := HER.out f3 f5 f1
                have HS3 := hide (HSM.out w15 g2 g3 (by rw [← hmd]; rw [← hmd] at O15; exact O15.out))
                clear f1 f3 f5 HER hmd
                go_wp2_with fail
                refine HS3.out.mono ?_
                rintro e w16 ⟨rfl, hq16⟩
                go_wp2_with fail
                refine (known_any _).mono ?_
                rintro e w17 ⟨rfl, hqw17⟩
                obtain ⟨hcw17, hfw17, hzw17⟩ := hqw17.facts
                try simp at hzw17
                try have hs0w17 : w.heap.size < w17.heap.size := by omega
                try have hs1w17 : w.heap.size + 1 < w17.heap.size := by omega
                go_wp2_with fail
                go_ret
                exact ⟨rfl, hqb.trans (hq16.trans hqw17)⟩
theorem fails_any (kind size piece xop xa xb : Int) (v : SlV Ask3) (w : World) (hS : SlOk 3 encA okA w v) (hxa : -9223372036854775808 ≤ xa ∧ xa ≤ 9223372036854775807) : Calls Try.prog 7 #[.agg #[.int .i64 kind, .int .i64 size, .int .i64 piece], v.val, .agg #[.int .i64 xop, .int .i64 xa, .int .i64 xb]] w fun e w' => e = .returned (.bool true) ∧ Q w w' := by
  obtain ⟨A, n, c, l⟩ := v
  unfold SlV.val
  cases hs : shapeB kind size piece
  · exact fails_bad kind size piece xop xa xb A n c w hs
  · by_cases hl : 320 < n
    · exact fails_long kind size piece xop xa xb A n c w hs (by have := hS.sl.cap; have := hS.big; dsimp only at *; omega) hl
    · exact fails_good kind size piece xop xa xb A n c w l hs hS hl hxa
end Go.Proofs.Ytegpkcbmgjoicaa
