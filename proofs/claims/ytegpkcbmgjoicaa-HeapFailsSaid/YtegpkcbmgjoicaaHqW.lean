/- The law HeapParts, walked. Conditions: the slice reads as acts. -/
import Derived.Test.YtegpkcbmgjoicaaHqV
namespace Go.Proofs.Ytegpkcbmgjoicaa
open Go.RowKit HP
set_option linter.unusedVariables false
def PartsRel (w : World) (g : Nat) (size : Int) (v7 : Value) (wr : World) (n : Nat) : Prop :=
  ∃ (i : Nat) (m : HM), v7 = .int .i64 (i : Int) ∧ i ≤ n ∧ Hid (Own w wr g m ∧ Inv m ∧ m.calls ≤ i ∧ m.size = size)
set_option maxHeartbeats 2000000 in
set_option maxRecDepth 100000 in
theorem parts_bad (kind size piece : Int) (A : Option Addr) (n c : Nat) (w : World) (hs : shapeB kind size piece = false) : Calls Try.prog 5 #[.agg #[.int .i64 kind, .int .i64 size, .int .i64 piece], .slice A n c] w fun e w' => e = .returned (.bool true) ∧ Q w w' := by
  have HN : Hid (∀ W, Calls Try.prog 9 #[.int .i64 kind, .int .i64 size, .int .i64 piece] W fun e w' => e = .returned (.tuple #[.pointer none, .int .i64 1]) ∧ Q W w') := fun W => (new_any kind size piece W).mono (by
    rintro e w' (⟨-, h1, h2⟩ | ⟨h1, -⟩)
    · exact ⟨h1, h2⟩
    · rw [hs] at h1; cases h1)
  clear hs
  go_enter Try.func5, Try.ntmps5
  go_wp2_with fail
  refine (HN.out _).mono ?_
  rintro e w1 ⟨rfl, hqw1⟩
  obtain ⟨hcw1, hfw1, hzw1⟩ := hqw1.facts
  try simp at hzw1
  try have hs0w1 : w.heap.size < w1.heap.size := by omega
  try have hs1w1 : w.heap.size + 1 < w1.heap.size := by omega
  go_wp2_with fail
  refine (known_any _).mono ?_
  rintro e w2 ⟨rfl, hqw2⟩
  obtain ⟨hcw2, hfw2, hzw2⟩ := hqw2.facts
  try simp at hzw2
  try have hs0w2 : w.heap.size < w2.heap.size := by omega
  try have hs1w2 : w.heap.size + 1 < w2.heap.size := by omega
  go_wp2_with fail
  go_ret
  exact ⟨rfl, (by repeat (first | exact Q.refl _ | assumption | refine Q.drew ?_ | refine Q.drewN ?_ _ | refine Q.alloc ?_ _ | refine Q.set ?_ (by first | (simp; done) | (simp; omega) | omega) _ | refine Q.trans ?_ (by assumption)))⟩
set_option maxHeartbeats 2000000 in
set_option maxRecDepth 100000 in
theorem parts_long (kind size piece : Int) (A : Option Addr) (n c : Nat) (w : World) (hs : shapeB kind size piece = true) (hn : n ≤ 140737488351232) (hl : 320 < n) : Calls Try.prog 5 #[.agg #[.int .i64 kind, .int .i64 size, .int .i64 piece], .slice A n c] w fun e w' => e = .returned (.bool true) ∧ Q w w' := by
  have HN : Hid (∀ W, Calls Try.prog 9 #[.int .i64 kind, .int .i64 size, .int .i64 piece] W fun e w' => ∃ g, e = .returned (.tuple #[.pointer (some ⟨g, 0, none⟩), .int .i64 0]) ∧ Q W w') := fun W => (own_new hs W).mono (by
    rintro e w' ⟨g, h, O⟩
    exact ⟨g, h, O.toQ⟩)
  have HL : Hid (∀ W, Calls Try.prog 12 #[.slice A n c] W fun e w' => e = .returned (.bool true) ∧ Q W w') := fun W => by
    have := long_any A n c W hn
    rw [decide_eq_true hl] at this
    exact this
  clear hs hn hl
  go_enter Try.func5, Try.ntmps5
  go_wp2_with fail
  refine (HN.out _).mono ?_
  rintro e w1 ⟨g, rfl, hq1⟩
  have hz1 := hq1.size
  go_wp2_with fail
  refine (HL.out _).mono ?_
  rintro e w2 ⟨rfl, hqw2⟩
  obtain ⟨hcw2, hfw2, hzw2⟩ := hqw2.facts
  try simp at hzw2
  try have hs0w2 : w.heap.size < w2.heap.size := by omega
  try have hs1w2 : w.heap.size + 1 < w2.heap.size := by omega
  go_wp2_with fail
  refine (known_any _).mono ?_
  rintro e w3 ⟨rfl, hqw3⟩
  obtain ⟨hcw3, hfw3, hzw3⟩ := hqw3.facts
  try simp at hzw3
  try have hs0w3 : w.heap.size < w3.heap.size := by omega
  try have hs1w3 : w.heap.size + 1 < w3.heap.size := by omega
  go_wp2_with fail
  go_ret
  exact ⟨rfl, (by repeat (first | exact Q.refl _ | assumption | refine Q.drew ?_ | refine Q.drewN ?_ _ | refine Q.alloc ?_ _ | refine Q.set ?_ (by first | (simp; done) | (simp; omega) | omega) _ | refine Q.trans ?_ (by assumption)))⟩
set_option maxHeartbeats 16000000 in
set_option maxRecDepth 100000 in
theorem parts_good (kind size piece : Int) (A : Option Addr) (n c : Nat) (l : List Ask3) (w : World) (hs : shapeB kind size piece = true) (hS : SlOk 3 encA okA w ⟨A, n, c, l⟩) (hl : ¬ 320 < n) : Calls Try.prog 5 #[.agg #[.int .i64 kind, .int .i64 size, .int .i64 piece], .slice A n c] w fun e w' => e = .returned (.bool true) ∧ Q w w' := by
  have hnc := hS.sl.cap
  have hbig := hS.big
  dsimp only at hnc hbig
  have HS := hide hS
  have hni : (n : Int) ≤ 320 := by omega
  have HL : Hid (∀ W, Calls Try.prog 12 #[.slice A n c] W fun e w' => e = .returned (.bool false) ∧ Q W w') := fun W => by
    have := long_any A n c W (by omega)
    rw [decide_eq_false hl] at this
    exact this
  have HI0 := hide (newM_inv hs)
  obtain ⟨w1, hw1⟩ : ∃ w1, w.alloc (.cells #[.int .i64 kind, .int .i64 size, .int .i64 piece] 32) = w1 := ⟨_, rfl⟩
  have hq1 : Q w w1 := by rw [← hw1]; exact (Q.refl w).alloc _
  have hb11 : w1.cell? ⟨w.heap.size, 1, none⟩ = some (.int .i64 size) := by rw [← hw1, cell_new]; rfl
  have hbx1 : w.heap.size < w1.heap.size := by rw [← hw1]; simp
  have HN := hide (own_new hs w1)
  have HW1 := hide hw1
  have hsz : 1 ≤ size ∧ size ≤ 4096 := (newM_inv hs).fit.sz
  clear hw1 hs hS hl
  go_enter Try.func5, Try.ntmps5
  go_wp2_with fail
  rw [HW1.out]
  refine HN.out.mono ?_
  rintro e w2 ⟨g, rfl, o2⟩
  have O2 := hide o2
  clear o2
  go_wp2_with fail
  refine (HL.out _).mono ?_
  rintro e w3 ⟨rfl, hq3⟩
  have O3 := hide (O2.out.q hq3)
  clear hq3
  go_wp2_with fail
  go_loopw [7] (fun v7 wr => PartsRel w1 g size v7 wr n) (fun v7 _ => n - (intOf v7).toNat)
  case atStart => exact ⟨0, _, by go_num, Nat.zero_le _, hide ⟨O3.out, HI0.out, Int.le_refl _, rfl⟩⟩
  case round =>
    obtain ⟨i, m, rfl, hi, HO⟩ := hrel
    have hq0 : Q w1 wr := HO.out.1.toQ
    have hbr := (hq0.facts.1 _ 1 hbx1).trans hb11
    have hz0 := hq0.size
    have hbxr : w.heap.size < wr.heap.size := by omega
    by_cases hlt : i < n
    · have hd1 : decide ((i : Int) < (n : Int)) = true := by simp; omega
      have hd0 : decide (i < n) = true := by simp; omega
      have hlti : (i : Int) < (n : Int) := by omega
      obtain ⟨bA, oA, op, a1, b1, hA, hbl, hx, x0, x1, x2⟩ := HS.out.sl.ask i hlt
      dsimp only at hA
      subst hA
      have hok := HS.out.all _ (List.mem_of_getElem? hx)
      obtain ⟨a0l, a0h⟩ : -9223372036854775808 ≤ a1 ∧ a1 ≤ 9223372036854775807 := okI_b (w := w) hok.2.1
      have hqw := hq1.trans hq0
      have y0 := (hqw.facts.1 bA _ hbl).trans x0
      have y1 := (hqw.facts.1 bA _ hbl).trans x1
      have y2 := (hqw.facts.1 bA _ hbl).trans x2
      obtain ⟨m2, hm2⟩ : ∃ m2, m2 = (actM m op a1 b1).1 := ⟨_, rfl⟩
      obtain ⟨rx, hrx⟩ : ∃ rx, rx = (actM m op a1 b1).2.1 := ⟨_, rfl⟩
      obtain ⟨ry, hry⟩ : ∃ ry, ry = (actM m op a1 b1).2.2 := ⟨_, rfl⟩
      have HACT : Hid (Calls Try.prog 13 #[.pointer (some ⟨g, 0, none⟩), .agg #[.int .i64 op, .int .i64 a1, .int .i64 b1]] wr fun e w' => e = .returned (.tuple #[.int .i64 rx, .int .i64 ry]) ∧ Own w1 w' g m2) := by
        rw [hrx, hry, hm2]
        exact own_act HO.out.1 HO.out.2.1 (by have := HO.out.2.2.1; omega) op a1 b1 a0l a0h
      have HI2 : Hid (Inv m2) := by rw [hm2]; exact act_inv HO.out.2.1 _ _ _
      have HC2 : Hid (m2.calls ≤ ((i + 1 : Nat) : Int)) := by
        have h1 := act_calls m op a1 b1
        have h2 := HO.out.2.2.1
        rw [hm2]
        refine hide ?_
        push_cast
        omega
      have HSZ : Hid (m2.size = size) := by
        rw [hm2, (act_size m op a1 b1).1]
        exact HO.out.2.2.2
      have HLV : Hid (∀ W, Own w1 W g m2 → Calls Try.prog 15 #[.pointer (some ⟨g, 0, none⟩)] W fun e w' => ∃ v, e = .returned v ∧ isLive W m2 v w' ∧ Own w1 w' g m2 ∧ Q w1 w') := fun W O => own_live O HI2.out
      have HSUM : Hid (∀ k, 0 ≤ sumS ((stretches m2).take k) ∧ sumS ((stretches m2).take k) ≤ 300000) := fun k => by
        have h1 := sumS_le (stretches m2) (fun x hx => by
          obtain ⟨j, hj⟩ := List.getElem?_of_mem hx
          obtain ⟨p, q⟩ := x
          have := (str_facts HI2.out hj).2.1
          show 0 ≤ q
          omega) k
        have h2 : sumS (stretches m2) = used m2.live := sumS_used _
        have h3 := used_bound (m := m2) HI2.out.fit (by have := HI2.out.len; omega)
        omega
      have HAO : Hid (op = 0 → ry = 0 → rx % b1 = 0 ∧ 1 ≤ b1 ∧ b1 ≤ 16 ∧ 0 ≤ rx ∧ rx ≤ 4096) := fun e1 e2 => by
        subst e1
        have e3 : actM m 0 a1 b1 = allocM m a1 b1 := by unfold actM; rw [if_pos rfl]
        rw [e3] at hrx hry
        rw [hrx]
        exact alloc_ok2 HO.out.2.1 (hry.symm.trans e2)
      have HX0 : Hid (∀ W, Q w W → W.cell? ⟨bA, oA + i * 3, none⟩ = some (.int .i64 op) ∧ W.cell? ⟨bA, oA + i * 3 + 1, none⟩ = some (.int .i64 a1) ∧ W.cell? ⟨bA, oA + i * 3 + 2, none⟩ = some (.int .i64 b1)) := fun W hq => ⟨(hq.facts.1 bA _ hbl).trans x0, (hq.facts.1 bA _ hbl).trans x1, (hq.facts.1 bA _ hbl).trans x2⟩
      clear hm2 hrx hry hx hok x0 x1 x2
      go_wp2_with fail
      refine HACT.out.mono ?_
      rintro e w2 ⟨rfl, o2⟩
      have O2 := hide o2
      have hq2 := o2.toQ
      obtain ⟨u0, u1, u2⟩ := HX0.out w2 (hq1.trans hq2)
      have hb22 := (hq2.facts.1 _ 1 hbx1).trans hb11
      have hz2' := hq2.size
      have hbA2 : bA < w2.heap.size := by have := hq1.size; omega
      clear o2 y0 y1 y2 HACT
      by_cases c1 : op = 0
      · have e1 : (op == 0) = true := by simpa using c1
        by_cases c2 : ry = 0
        · have e2 : (ry == 0) = true := by simpa using c2
          obtain ⟨d1, d2, d3, d4, d5⟩ := HAO.out c1 c2
          have d6 : ¬ b1 = 0 := by omega
          have d7 : rx.tmod b1 = 0 := by rw [Int.tmod_eq_emod_of_nonneg d4]; exact d1
          clear c1 c2 d1
          go_wp2_with fail
          refine (HLV.out _ O2.out).mono ?_
          rintro e w3 ⟨v, rfl, ⟨A1, c1, rfl, hsl, -⟩, o3, hq3⟩
          have O3 := hide o3
          have HSL := hide hsl
          have HQ3 := hide hq3
          have hb13 := (hq3.facts.1 _ 1 hbx1).trans hb11
          have hbx3 : w.heap.size < w3.heap.size := by have := hq3.size; omega
          clear o3 hsl hq3
          obtain ⟨N, hN⟩ : ∃ N, N = (stretches m2).length := ⟨_, rfl⟩
          rw [← hN] at HSL ⊢
          have HNN := hide hN
          have hN64 : N ≤ 64 := by rw [hN, str_len]; exact HI2.out.len
          clear hN
          go_wp2_with fail
          go_loopw [11, 12] (fun v11 v12 wr => ∃ k : Nat, k ≤ N ∧ v12 = .int .i64 (k : Int) ∧ v11 = .int .i64 (sumS ((stretches m2).take k)) ∧ Q w3 wr) (fun _ v12 _ => N - (intOf v12).toNat)
          case atStart => exact ⟨0, by omega, by go_num, by simp [sumS], Q.refl _⟩
          case round =>
            obtain ⟨k, hk, rfl, rfl, hqr⟩ := hrel
            have hbxr := (hqr.facts.1 _ 1 hbx3).trans hb13
            have hbxs : w.heap.size < wr.heap.size := by have := hqr.size; omega
            by_cases hlt : k < N
            · have hd1 : decide ((k : Int) < (N : Int)) = true := by simp; omega
              have hd0 : decide (k < N) = true := by simp; omega
              have hlti : (k : Int) < (N : Int) := by omega
              obtain ⟨b2, o2, p1, p2, hA1, hbl, hx, y1, y2⟩ := (HSL.out.up hqr).str k hlt
              obtain ⟨f1, f2, f3, f4⟩ := str_facts HI2.out hx
              have hs1 := sumS_take _ k _ hx
              have hs2 := HSUM.out k
              have hs3 := HSUM.out (k + 1)
              dsimp only at hs1
              subst hA1
              rw [HSZ.out] at f3
              obtain ⟨S0, hS0⟩ : ∃ S0, S0 = sumS ((stretches m2).take k) := ⟨_, rfl⟩
              rw [← hS0] at hs1 hs2 ⊢
              rw [hs1] at hs3
              have HS1 := hide hs1
              have t1 : decide (p1 < 0) = false := by simp; omega
              have t2 : decide (p2 < 1) = false := by simp; omega
              have t3 : decide (size < p1 + p2) = false := by simp; omega
              by_cases hk0 : k = 0
              · have t4 : decide ((0 : Int) < (k : Int)) = false := by simp; omega
                have t5 : decide (0 < k) = false := by simp; omega
                clear f4 hs1 hS0 hx hk0
                go_wp2_with fail
                have hxc := ext_cell
                refine wp_region_ext (by kernel_rfl) (by kernel_rfl) ?_
                repeat (go_big_quiet_step ((fail)))
                clear hxc
                refine wpQuiet_nil ?_
                intro w4 hww4
                have hqw4 := q_of_ext hww4
                clear hww4
                obtain ⟨hcw4, hfw4, hzw4⟩ := hqw4.facts
                try simp at hzw4
                try have hs0w4 : w.heap.size < w4.heap.size := by omega
                try have hs1w4 : w.heap.size + 1 < w4.heap.size := by omega
                go_wp2_with fail
                go_roundw
                case rel => exact ⟨k + 1, by omega, by go_num, by rw [HS1.out], hqr.trans hqw4⟩
                case measure => simp [intOf] <;> omega
              · have t4 : decide ((0 : Int) < (k : Int)) = true := by simp; omega
                have t5 : decide (0 < k) = true := by simp; omega
                obtain ⟨j, hj⟩ : ∃ j, j = k - 1 := ⟨_, rfl⟩
                have hjk : (k : Int) - 1 = (j : Int) := by omega
                have hjN : j < N := by omega
                have hjNi : (j : Int) < (N : Int) := by omega
                obtain ⟨b4, o4, q1, q2, hA4, hbl4, hx4, z1, z2⟩ := (HSL.out.up hqr).str j hjN
                cases hA4
                have f5 := f4 q1 q2 (by omega) (by rw [← hj]; exact hx4)
                have hj4 := str_facts HI2.out hx4
                rw [HSZ.out] at hj4
                have t6 : decide (p1 < q1 + q2) = false := by simp; omega
                obtain ⟨g1, g2, g3, -⟩ := hj4
                clear hj hk0
                clear f4 hs1 hS0 hx hx4
                go_wp2_with fail
                have hxc := ext_cell
                refine wp_region_ext (by kernel_rfl) (by kernel_rfl) ?_
                repeat (go_big_quiet_step ((fail)))
                clear hxc
                refine wpQuiet_nil ?_
                intro w4 hww4
                have hqw4 := q_of_ext hww4
                clear hww4
                obtain ⟨hcw4, hfw4, hzw4⟩ := hqw4.facts
                try simp at hzw4
                try have hs0w4 : w.heap.size < w4.heap.size := by omega
                try have hs1w4 : w.heap.size + 1 < w4.heap.size := by omega
                go_wp2_with fail
                go_roundw
                case rel => exact ⟨k + 1, by omega, by go_num, by rw [HS1.out], hqr.trans hqw4⟩
                case measure => simp [intOf] <;> omega
            · have hd1 : decide ((k : Int) < (N : Int)) = false := by simp; omega
              have hd0 : decide (k < N) = false := by simp; omega
              obtain rfl : k = N := by omega
              have hall : sumS ((stretches m2).take k) = used m2.live := by
                rw [List.take_of_length_le (by rw [← HNN.out]; exact Nat.le_refl _)]
                exact sumS_used _
              obtain ⟨S0, hS0⟩ : ∃ S0, S0 = sumS ((stretches m2).take k) := ⟨_, rfl⟩
              rw [← hS0] at hall ⊢
              have HUS : Hid (∀ W, Own w1 W g m2 → Calls Try.prog 17 #[.pointer (some ⟨g, 0, none⟩)] W fun e w' => e = .returned (.int .i64 S0) ∧ Own w1 w' g m2) := fun W O => by
                have := own_used O HI2.out
                rw [← hall] at this
                exact this
              have HPK : Hid (∀ W, Own w1 W g m2 → Calls Try.prog 18 #[.pointer (some ⟨g, 0, none⟩)] W fun e w' => e = .returned (.int .i64 m2.peak) ∧ Own w1 w' g m2) := fun W O => own_peak O HI2.out
              have hpk := HI2.out.peak.1
              rw [← hall] at hpk
              have t7 : decide (m2.peak < S0) = false := by simp; omega
              have t8 : (S0 != S0) = false := by simp
              have O4 := hide (O3.out.q hqr)
              clear hS0 hall hpk
              go_wp2_with fail
              refine (HUS.out _ O4.out).mono ?_
              rintro e w5 ⟨rfl, o5⟩
              have O5 := hide o5
              clear o5
              go_wp2_with fail
              refine (HPK.out _ O5.out).mono ?_
              rintro e w6 ⟨rfl, o6⟩
              have O6 := hide o6
              clear o6
              go_wp2_with fail
              go_roundw
              case rel => exact ⟨i + 1, m2, by go_num, by omega, hide ⟨O6.out, HI2.out, HC2.out, HSZ.out⟩⟩
              case measure => simp [intOf] <;> omega
        · have e2 : (ry == 0) = false := by simpa using c2
          clear c1 c2
          go_wp2_with fail
          refine (HLV.out _ O2.out).mono ?_
          rintro e w3 ⟨v, rfl, ⟨A1, c1, rfl, hsl, -⟩, o3, hq3⟩
          have O3 := hide o3
          have HSL := hide hsl
          have HQ3 := hide hq3
          have hb13 := (hq3.facts.1 _ 1 hbx1).trans hb11
          have hbx3 : w.heap.size < w3.heap.size := by have := hq3.size; omega
          clear o3 hsl hq3
          obtain ⟨N, hN⟩ : ∃ N, N = (stretches m2).length := ⟨_, rfl⟩
          rw [← hN] at HSL ⊢
          have HNN := hide hN
          have hN64 : N ≤ 64 := by rw [hN, str_len]; exact HI2.out.len
          clear hN
          go_wp2_with fail
          go_loopw [11, 12] (fun v11 v12 wr => ∃ k : Nat, k ≤ N ∧ v12 = .int .i64 (k : Int) ∧ v11 = .int .i64 (sumS ((stretches m2).take k)) ∧ Q w3 wr) (fun _ v12 _ => N - (intOf v12).toNat)
          case atStart => exact ⟨0, by omega, by go_num, by simp [sumS], Q.refl _⟩
          case round =>
            obtain ⟨k, hk, rfl, rfl, hqr⟩ := hrel
            have hbxr := (hqr.facts.1 _ 1 hbx3).trans hb13
            have hbxs : w.heap.size < wr.heap.size := by have := hqr.size; omega
            by_cases hlt : k < N
            · have hd1 : decide ((k : Int) < (N : Int)) = true := by simp; omega
              have hd0 : decide (k < N) = true := by simp; omega
              have hlti : (k : Int) < (N : Int) := by omega
              obtain ⟨b2, o2, p1, p2, hA1, hbl, hx, y1, y2⟩ := (HSL.out.up hqr).str k hlt
              obtain ⟨f1, f2, f3, f4⟩ := str_facts HI2.out hx
              have hs1 := sumS_take _ k _ hx
              have hs2 := HSUM.out k
              have hs3 := HSUM.out (k + 1)
              dsimp only at hs1
              subst hA1
              rw [HSZ.out] at f3
              obtain ⟨S0, hS0⟩ : ∃ S0, S0 = sumS ((stretches m2).take k) := ⟨_, rfl⟩
              rw [← hS0] at hs1 hs2 ⊢
              rw [hs1] at hs3
              have HS1 := hide hs1
              have t1 : decide (p1 < 0) = false := by simp; omega
              have t2 : decide (p2 < 1) = false := by simp; omega
              have t3 : decide (size < p1 + p2) = false := by simp; omega
              by_cases hk0 : k = 0
              · have t4 : decide ((0 : Int) < (k : Int)) = false := by simp; omega
                have t5 : decide (0 < k) = false := by simp; omega
                clear f4 hs1 hS0 hx hk0
                go_wp2_with fail
                have hxc := ext_cell
                refine wp_region_ext (by kernel_rfl) (by kernel_rfl) ?_
                repeat (go_big_quiet_step ((fail)))
                clear hxc
                refine wpQuiet_nil ?_
                intro w4 hww4
                have hqw4 := q_of_ext hww4
                clear hww4
                obtain ⟨hcw4, hfw4, hzw4⟩ := hqw4.facts
                try simp at hzw4
                try have hs0w4 : w.heap.size < w4.heap.size := by omega
                try have hs1w4 : w.heap.size + 1 < w4.heap.size := by omega
                go_wp2_with fail
                go_roundw
                case rel => exact ⟨k + 1, by omega, by go_num, by rw [HS1.out], hqr.trans hqw4⟩
                case measure => simp [intOf] <;> omega
              · have t4 : decide ((0 : Int) < (k : Int)) = true := by simp; omega
                have t5 : decide (0 < k) = true := by simp; omega
                obtain ⟨j, hj⟩ : ∃ j, j = k - 1 := ⟨_, rfl⟩
                have hjk : (k : Int) - 1 = (j : Int) := by omega
                have hjN : j < N := by omega
                have hjNi : (j : Int) < (N : Int) := by omega
                obtain ⟨b4, o4, q1, q2, hA4, hbl4, hx4, z1, z2⟩ := (HSL.out.up hqr).str j hjN
                cases hA4
                have f5 := f4 q1 q2 (by omega) (by rw [← hj]; exact hx4)
                have hj4 := str_facts HI2.out hx4
                rw [HSZ.out] at hj4
                have t6 : decide (p1 < q1 + q2) = false := by simp; omega
                obtain ⟨g1, g2, g3, -⟩ := hj4
                clear hj hk0
                clear f4 hs1 hS0 hx hx4
                go_wp2_with fail
                have hxc := ext_cell
                refine wp_region_ext (by kernel_rfl) (by kernel_rfl) ?_
                repeat (go_big_quiet_step ((fail)))
                clear hxc
                refine wpQuiet_nil ?_
                intro w4 hww4
                have hqw4 := q_of_ext hww4
                clear hww4
                obtain ⟨hcw4, hfw4, hzw4⟩ := hqw4.facts
                try simp at hzw4
                try have hs0w4 : w.heap.size < w4.heap.size := by omega
                try have hs1w4 : w.heap.size + 1 < w4.heap.size := by omega
                go_wp2_with fail
                go_roundw
                case rel => exact ⟨k + 1, by omega, by go_num, by rw [HS1.out], hqr.trans hqw4⟩
                case measure => simp [intOf] <;> omega
            · have hd1 : decide ((k : Int) < (N : Int)) = false := by simp; omega
              have hd0 : decide (k < N) = false := by simp; omega
              obtain rfl : k = N := by omega
              have hall : sumS ((stretches m2).take k) = used m2.live := by
                rw [List.take_of_length_le (by rw [← HNN.out]; exact Nat.le_refl _)]
                exact sumS_used _
              obtain ⟨S0, hS0⟩ : ∃ S0, S0 = sumS ((stretches m2).take k) := ⟨_, rfl⟩
              rw [← hS0] at hall ⊢
              have HUS : Hid (∀ W, Own w1 W g m2 → Calls Try.prog 17 #[.pointer (some ⟨g, 0, none⟩)] W fun e w' => e = .returned (.int .i64 S0) ∧ Own w1 w' g m2) := fun W O => by
                have := own_used O HI2.out
                rw [← hall] at this
                exact this
              have HPK : Hid (∀ W, Own w1 W g m2 → Calls Try.prog 18 #[.pointer (some ⟨g, 0, none⟩)] W fun e w' => e = .returned (.int .i64 m2.peak) ∧ Own w1 w' g m2) := fun W O => own_peak O HI2.out
              have hpk := HI2.out.peak.1
              rw [← hall] at hpk
              have t7 : decide (m2.peak < S0) = false := by simp; omega
              have t8 : (S0 != S0) = false := by simp
              have O4 := hide (O3.out.q hqr)
              clear hS0 hall hpk
              go_wp2_with fail
              refine (HUS.out _ O4.out).mono ?_
              rintro e w5 ⟨rfl, o5⟩
              have O5 := hide o5
              clear o5
              go_wp2_with fail
              refine (HPK.out _ O5.out).mono ?_
              rintro e w6 ⟨rfl, o6⟩
              have O6 := hide o6
              clear o6
              go_wp2_with fail
              go_roundw
              case rel => exact ⟨i + 1, m2, by go_num, by omega, hide ⟨O6.out, HI2.out, HC2.out, HSZ.out⟩⟩
              case measure => simp [intOf] <;> omega
      · have e1 : (op == 0) = false := by simpa using c1
        clear c1
        go_wp2_with fail
        refine (HLV.out _ O2.out).mono ?_
        rintro e w3 ⟨v, rfl, ⟨A1, c1, rfl, hsl, -⟩, o3, hq3⟩
        have O3 := hide o3
        have HSL := hide hsl
        have HQ3 := hide hq3
        have hb13 := (hq3.facts.1 _ 1 hbx1).trans hb11
        have hbx3 : w.heap.size < w3.heap.size := by have := hq3.size; omega
        clear o3 hsl hq3
        obtain ⟨N, hN⟩ : ∃ N, N = (stretches m2).length := ⟨_, rfl⟩
        rw [← hN] at HSL ⊢
        have HNN := hide hN
        have hN64 : N ≤ 64 := by rw [hN, str_len]; exact HI2.out.len
        clear hN
        go_wp2_with fail
        go_loopw [11, 12] (fun v11 v12 wr => ∃ k : Nat, k ≤ N ∧ v12 = .int .i64 (k : Int) ∧ v11 = .int .i64 (sumS ((stretches m2).take k)) ∧ Q w3 wr) (fun _ v12 _ => N - (intOf v12).toNat)
        case atStart => exact ⟨0, by omega, by go_num, by simp [sumS], Q.refl _⟩
        case round =>
          obtain ⟨k, hk, rfl, rfl, hqr⟩ := hrel
          have hbxr := (hqr.facts.1 _ 1 hbx3).trans hb13
          have hbxs : w.heap.size < wr.heap.size := by have := hqr.size; omega
          by_cases hlt : k < N
          · have hd1 : decide ((k : Int) < (N : Int)) = true := by simp; omega
            have hd0 : decide (k < N) = true := by simp; omega
            have hlti : (k : Int) < (N : Int) := by omega
            obtain ⟨b2, o2, p1, p2, hA1, hbl, hx, y1, y2⟩ := (HSL.out.up hqr).str k hlt
            obtain ⟨f1, f2, f3, f4⟩ := str_facts HI2.out hx
            have hs1 := sumS_take _ k _ hx
            have hs2 := HSUM.out k
            have hs3 := HSUM.out (k + 1)
            dsimp only at hs1
            subst hA1
            rw [HSZ.out] at f3
            obtain ⟨S0, hS0⟩ : ∃ S0, S0 = sumS ((stretches m2).take k) := ⟨_, rfl⟩
            rw [← hS0] at hs1 hs2 ⊢
            rw [hs1] at hs3
            have HS1 := hide hs1
            have t1 : decide (p1 < 0) = false := by simp; omega
            have t2 : decide (p2 < 1) = false := by simp; omega
            have t3 : decide (size < p1 + p2) = false := by simp; omega
            by_cases hk0 : k = 0
            · have t4 : decide ((0 : Int) < (k : Int)) = false := by simp; omega
              have t5 : decide (0 < k) = false := by simp; omega
              clear f4 hs1 hS0 hx hk0
              go_wp2_with fail
              have hxc := ext_cell
              refine wp_region_ext (by kernel_rfl) (by kernel_rfl) ?_
              repeat (go_big_quiet_step ((fail)))
              clear hxc
              refine wpQuiet_nil ?_
              intro w4 hww4
              have hqw4 := q_of_ext hww4
              clear hww4
              obtain ⟨hcw4, hfw4, hzw4⟩ := hqw4.facts
              try simp at hzw4
              try have hs0w4 : w.heap.size < w4.heap.size := by omega
              try have hs1w4 : w.heap.size + 1 < w4.heap.size := by omega
              go_wp2_with fail
              go_roundw
              case rel => exact ⟨k + 1, by omega, by go_num, by rw [HS1.out], hqr.trans hqw4⟩
              case measure => simp [intOf] <;> omega
            · have t4 : decide ((0 : Int) < (k : Int)) = true := by simp; omega
              have t5 : decide (0 < k) = true := by simp; omega
              obtain ⟨j, hj⟩ : ∃ j, j = k - 1 := ⟨_, rfl⟩
              have hjk : (k : Int) - 1 = (j : Int) := by omega
              have hjN : j < N := by omega
              have hjNi : (j : Int) < (N : Int) := by omega
              obtain ⟨b4, o4, q1, q2, hA4, hbl4, hx4, z1, z2⟩ := (HSL.out.up hqr).str j hjN
              cases hA4
              have f5 := f4 q1 q2 (by omega) (by rw [← hj]; exact hx4)
              have hj4 := str_facts HI2.out hx4
              rw [HSZ.out] at hj4
              have t6 : decide (p1 < q1 + q2) = false := by simp; omega
              obtain ⟨g1, g2, g3, -⟩ := hj4
              clear hj hk0
              clear f4 hs1 hS0 hx hx4
              go_wp2_with fail
              have hxc := ext_cell
              refine wp_region_ext (by kernel_rfl) (by kernel_rfl) ?_
              repeat (go_big_quiet_step ((fail)))
              clear hxc
              refine wpQuiet_nil ?_
              intro w4 hww4
              have hqw4 := q_of_ext hww4
              clear hww4
              obtain ⟨hcw4, hfw4, hzw4⟩ := hqw4.facts
              try simp at hzw4
              try have hs0w4 : w.heap.size < w4.heap.size := by omega
              try have hs1w4 : w.heap.size + 1 < w4.heap.size := by omega
              go_wp2_with fail
              go_roundw
              case rel => exact ⟨k + 1, by omega, by go_num, by rw [HS1.out], hqr.trans hqw4⟩
              case measure => simp [intOf] <;> omega
          · have hd1 : decide ((k : Int) < (N : Int)) = false := by simp; omega
            have hd0 : decide (k < N) = false := by simp; omega
            obtain rfl : k = N := by omega
            have hall : sumS ((stretches m2).take k) = used m2.live := by
              rw [List.take_of_length_le (by rw [← HNN.out]; exact Nat.le_refl _)]
              exact sumS_used _
            obtain ⟨S0, hS0⟩ : ∃ S0, S0 = sumS ((stretches m2).take k) := ⟨_, rfl⟩
            rw [← hS0] at hall ⊢
            have HUS : Hid (∀ W, Own w1 W g m2 → Calls Try.prog 17 #[.pointer (some ⟨g, 0, none⟩)] W fun e w' => e = .returned (.int .i64 S0) ∧ Own w1 w' g m2) := fun W O => by
              have := own_used O HI2.out
              rw [← hall] at this
              exact this
            have HPK : Hid (∀ W, Own w1 W g m2 → Calls Try.prog 18 #[.pointer (some ⟨g, 0, none⟩)] W fun e w' => e = .returned (.int .i64 m2.peak) ∧ Own w1 w' g m2) := fun W O => own_peak O HI2.out
            have hpk := HI2.out.peak.1
            rw [← hall] at hpk
            have t7 : decide (m2.peak < S0) = false := by simp; omega
            have t8 : (S0 != S0) = false := by simp
            have O4 := hide (O3.out.q hqr)
            clear hS0 hall hpk
            go_wp2_with fail
            refine (HUS.out _ O4.out).mono ?_
            rintro e w5 ⟨rfl, o5⟩
            have O5 := hide o5
            clear o5
            go_wp2_with fail
            refine (HPK.out _ O5.out).mono ?_
            rintro e w6 ⟨rfl, o6⟩
            have O6 := hide o6
            clear o6
            go_wp2_with fail
            go_roundw
            case rel => exact ⟨i + 1, m2, by go_num, by omega, hide ⟨O6.out, HI2.out, HC2.out, HSZ.out⟩⟩
            case measure => simp [intOf] <;> omega
    · have hd1 : decide ((i : Int) < (n : Int)) = false := by simp; omega
      have hd0 : decide (i < n) = false := by simp; omega
      obtain rfl : i = n := by omega
      go_wp2_with fail
      refine (known_any _).mono ?_
      rintro e w9 ⟨rfl, hqw9⟩
      obtain ⟨hcw9, hfw9, hzw9⟩ := hqw9.facts
      try simp at hzw9
      try have hs0w9 : w.heap.size < w9.heap.size := by omega
      try have hs1w9 : w.heap.size + 1 < w9.heap.size := by omega
      go_wp2_with fail
      go_ret
      exact ⟨rfl, hq1.trans (hq0.trans hqw9)⟩
theorem parts_any (kind size piece : Int) (v : SlV Ask3) (w : World) (hS : SlOk 3 encA okA w v) : Calls Try.prog 5 #[.agg #[.int .i64 kind, .int .i64 size, .int .i64 piece], v.val] w fun e w' => e = .returned (.bool true) ∧ Q w w' := by
  obtain ⟨A, n, c, l⟩ := v
  unfold SlV.val
  cases hs : shapeB kind size piece
  · exact parts_bad kind size piece A n c w hs
  · by_cases hl : 320 < n
    · exact parts_long kind size piece A n c w hs (by have := hS.sl.cap; have := hS.big; dsimp only at *; omega) hl
    · exact parts_good kind size piece A n c l w hs hS hl
end Go.Proofs.Ytegpkcbmgjoicaa
