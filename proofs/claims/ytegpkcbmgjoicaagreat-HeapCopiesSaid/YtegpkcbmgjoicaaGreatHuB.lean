/- Same of two heaps whose references are in hand (HuB). Conditions: the heaps read so, are unlocked and apart. -/
import Derived.Test.YtegpkcbmgjoicaaGreatHuU1
namespace Go.Proofs.YtegpkcbmgjoicaaGreat
open Go.RowKit HP
set_option linter.unusedVariables false
set_option maxHeartbeats 16000000 in
set_option maxRecDepth 100000 in
theorem or2_same3 {w0 w : World} {g1 g2 : Nat} {m1 m2 : HM} {v1 v2 : RV} {bM bN : Nat} (O : OR2 w0 w g1 m1 g2 m2 v1 v2 bM bN) (I1 : Inv m1) (I2 : Inv m2) (d0 : m1.kind = m2.kind) (d1 : m1.piece = m2.piece) (d2 : m1.size = m2.size) (d3 : ¬ m1.peak = m2.peak) :
    Calls Tryz.prog 13 #[.pointer (some ⟨g1, 0, none⟩), .pointer (some ⟨g2, 0, none⟩)] w fun e w' => e = .returned (.bool (sameM m1 m2)) ∧ OR2 w0 w' g1 m1 g2 m2 v1 v2 bM bN ∧ KeepM w w' := by
  -- the copy of the first one; the second one is as it was
  have HC1 : Hid (Calls Tryz.prog 12 #[.pointer (some ⟨g1, 0, none⟩)] w fun e w1 => ∃ x : Hp, e = .returned (.pointer (some ⟨x.blk, 0, none⟩)) ∧ HpR w1 x ∧ x.m = m1 ∧ Hid (∃ h2 : Hp, h2.blk = g2 ∧ HpR w1 h2 ∧ h2.mu = 0 ∧ h2.m = m2 ∧
      Calls Tryz.prog 12 #[.pointer (some ⟨g2, 0, none⟩)] w1 fun e w2 => ∃ y : Hp, e = .returned (.pointer (some ⟨y.blk, 0, none⟩)) ∧ HpR w2 x ∧ HpR w2 y ∧ y.m = m2 ∧ ∀ W, Q w2 W → OR2 w0 W g1 m1 g2 m2 v1 v2 bM bN ∧ KeepM w W)) := by
    obtain ⟨h1, h2, rfl, rfl, r1, r2, u1, u2, rfl, rfl, hq, f1, f2, hd, M⟩ := O
    refine (copy_act h1 w r1 I1 u1).mono ?_
    rintro e w1 ⟨h1', x, rfl, D1, vv1, e1, rx, vx, ex, fx, fs1⟩
    have r2' : HpR w1 h2 := r2.turn D1.turn (fun b hb hb' => hd b hb' hb)
    refine ⟨x, rfl, rx, ex, hide ⟨h2, rfl, r2', u2, rfl, ?_⟩⟩
    refine (copy_act h2 w1 r2' I2 u2).mono ?_
    rintro e w2 ⟨h2', y, rfl, D2, vv2, e2, ry, vy, ey, fy, fs2⟩
    have hlt2 : ∀ b, h2.fp b → b < w.heap.size := r2.lt
    have M1 := Mod2.did (T := fun b => h2.fp b ∨ b = bM ∨ b = bN) M D1
    have M2 := Mod2.did (T := fun b => h1'.fp b ∨ b = bM ∨ b = bN) (M1.grow fun b hb => .inl (by rcases hb with hb | hb | hb <;> simp [hb])) D2
    have M3 : Mod2 (fun b => h1'.fp b ∨ h2'.fp b ∨ b = bM ∨ b = bN) w2 v1 v2 := M2.grow fun b hb => .inl (by rcases hb with hb | hb | hb <;> simp [hb])
    have k1 := D1.rep.turn D2.turn (fun b hb hb' => hd b (fs1 b hb) hb')
    have k2 := Turn.q_of (Turn.q_of hq D1.turn f1) D2.turn f2
    have km : KeepM w w2 := (D1.keepM r1).trans (D2.keepM r2')
    refine ⟨y, rfl, rx.turn D2.turn (fun b hb hb' => by have h7 := fx b hb; have h8 := hlt2 b hb'; omega), ry, ey, fun W hqW => ⟨?_, km.trans (KeepM.q hqW)⟩⟩
    exact OR2.q ⟨h1', h2', D1.blk, D2.blk, k1, D2.rep, vv1, vv2, e1, e2, k2, (fun b hb => f1 b (fs1 b hb)), (fun b hb => f2 b (fs2 b hb)), (fun b hb hb' => hd b (fs1 b hb) (fs2 b hb')), M3⟩ hqW
  obtain ⟨V, hV⟩ : ∃ V, V = sameM m1 m2 := ⟨_, rfl⟩
  rw [← hV]
  have HV := hide hV
  have HI1 := hide I1
  have HI2 := hide I2
  clear O I1 I2 hV
  go_enter Tryz.func13, Tryz.ntmps13
  go_wp2_with fail
  refine HC1.out.mono ?_
  rintro e w1 ⟨x, rfl, rx, ex, HC2⟩
  clear HC1
  go_wp2_with fail
  obtain ⟨h2, hb2, rr2, hu2, hm2, hc2⟩ := HC2.out
  refine hc2.mono ?_
  rintro e w2 ⟨y, rfl, rx2, ry, ey, o2⟩
  have HO := hide o2
  clear hc2 rr2 hb2 hu2 hm2 HC2 rx o2
  subst ex
  subst ey
  obtain ⟨fX, rcvX, ⟨tyX, uX, hwX, hmX, heX⟩, hMX⟩ := mark_any x HI1.out.kind
  obtain ⟨fY, rcvY, ⟨tyY, uY, hwY, hmY, heY⟩, hMY⟩ := mark_any y HI2.out.kind
  obtain ⟨AX, cX, hsX⟩ := rx2.seen hwX
  obtain ⟨AY, cY, hsY⟩ := ry.seen hwY
  have hNX : x.bks.length ≤ 64 := by have := HI1.out.len; simp only [Hp.m, List.length_map] at this; exact this
  have hNY : y.bks.length ≤ 64 := by have := HI2.out.len; simp only [Hp.m, List.length_map] at this; exact this
  have HMX : Hid (∀ W, Q w2 W → Calls Tryz.prog fX #[rcvX] W (MarkPost x W)) := fun W hq => hMX W (rx2.q hq)
  have HMY : Hid (∀ W, Q w2 W → Calls Tryz.prog fY #[rcvY] W (MarkPost y W)) := fun W hq => hMY W (ry.q hq)
  have HEF : Hid (∀ W, Q w2 W → Calls Tryz.prog 38 #[.slice AX x.bks.length cX, .slice AY y.bks.length cY, .func (.func 39) #[] #[]] W fun e w' => e = .returned (.bool (decide (x.m.live = y.m.live))) ∧ Q W w') := fun W hq =>
    equalFunc_any AX AY _ cX _ cY x.bks y.bks W (hsX.sl.up hq) (hsY.sl.up hq) (fun z hz => (hsX.rows z hz).up hq) (fun z hz => (hsY.rows z hz).up hq) hNX hNY
  obtain ⟨gx, hgx⟩ : ∃ gx, gx = x.blk := ⟨_, rfl⟩
  obtain ⟨gy, hgy⟩ : ∃ gy, gy = y.blk := ⟨_, rfl⟩
  rw [← hgx] at hsX ⊢
  rw [← hgy] at hsY ⊢
  obtain ⟨xl, x2, x3, x4, x5, x6, x7, x8, x9, -, -⟩ := hsX
  obtain ⟨yl, y2, y3, y4, y5, y6, y7, y8, y9, -, -⟩ := hsY
  unfold MarkPost at HMX HMY
  obtain ⟨p0, hp0⟩ : ∃ p, p = x.m.kind := ⟨_, rfl⟩
  obtain ⟨q0, hq0⟩ : ∃ q, q = y.m.kind := ⟨_, rfl⟩
  obtain ⟨p1, hp1⟩ : ∃ p, p = x.m.piece := ⟨_, rfl⟩
  obtain ⟨q1, hq1⟩ : ∃ q, q = y.m.piece := ⟨_, rfl⟩
  obtain ⟨p2, hp2⟩ : ∃ p, p = x.m.size := ⟨_, rfl⟩
  obtain ⟨q2, hq2⟩ : ∃ q, q = y.m.size := ⟨_, rfl⟩
  obtain ⟨p3, hp3⟩ : ∃ p, p = x.m.peak := ⟨_, rfl⟩
  obtain ⟨q3, hq3⟩ : ∃ q, q = y.m.peak := ⟨_, rfl⟩
  obtain ⟨p4, hp4⟩ : ∃ p, p = x.m.calls := ⟨_, rfl⟩
  obtain ⟨q4, hq4⟩ : ∃ q, q = y.m.calls := ⟨_, rfl⟩
  obtain ⟨p5, hp5⟩ : ∃ p, p = x.m.failIn := ⟨_, rfl⟩
  obtain ⟨q5, hq5⟩ : ∃ q, q = y.m.failIn := ⟨_, rfl⟩
  obtain ⟨p6, hp6⟩ : ∃ p, p = markM x.m := ⟨_, rfl⟩
  obtain ⟨q6, hq6⟩ : ∃ q, q = markM y.m := ⟨_, rfl⟩
  obtain ⟨ql, hql⟩ : ∃ q, q = decide (x.m.live = y.m.live) := ⟨_, rfl⟩
  have HVV : Hid (V = ((p0 == q0) && (p1 == q1) && (p2 == q2) && (p3 == q3) && (p4 == q4) && (p5 == q5) && (p6 == q6) && ql)) := by
    rw [HV.out, hp0, hp1, hp2, hp3, hp4, hp5, hp6, hq0, hq1, hq2, hq3, hq4, hq5, hq6, hql]
    exact hide rfl
  rw [← hp0] at x2
  rw [← hq0] at y2
  rw [← hp1] at x3
  rw [← hq1] at y3
  rw [← hp2] at x4
  rw [← hq2] at y4
  rw [← hp3] at x7
  rw [← hq3] at y7
  rw [← hp4] at x8
  rw [← hq4] at y8
  rw [← hp5] at x9
  rw [← hq5] at y9
  rw [← hp6] at HMX
  rw [← hq6] at HMY
  rw [← hql] at HEF
  obtain ⟨nX, hnX⟩ : ∃ n, n = x.bks.length := ⟨_, rfl⟩
  obtain ⟨nY, hnY⟩ : ∃ n, n = y.bks.length := ⟨_, rfl⟩
  rw [← hnX] at x5 HEF
  rw [← hnY] at y5 HEF
  have hHOx : Hid (∀ W, Q w2 W → OR2 w0 W g1 x.m g2 y.m v1 v2 bM bN ∧ KeepM w W) := HO
  have e0 : (p0 == q0) = true := by rw [hp0, hq0]; simpa using d0
  have e1 : (p1 == q1) = true := by rw [hp1, hq1]; simpa using d1
  have e2 : (p2 == q2) = true := by rw [hp2, hq2]; simpa using d2
  have e3 : (p3 == q3) = false := by rw [hp3, hq3]; simpa using d3
  clear d0 d1 d2 d3
  clear HO rx2 ry hwX hwY hMX hMY hNX hNY hgx hgy hnX hnY HV HI1 HI2 hql hp0 hp1 hp2 hp3 hp4 hp5 hp6 hq0 hq1 hq2 hq3 hq4 hq5 hq6
  have HR : Hid (V = false) := hide (by rw [HVV.out]; simp only [e0, e1, e2, e3, Bool.true_and, Bool.false_and])
  clear HVV
  go_wp2_with fail
  dsimp only [List.append]
  have hxc := ext_cell
  refine wp_region_ext (by kernel_rfl) (by kernel_rfl) ?_
  repeat (go_big_quiet_step ((first | exact ext_call (HMX.out _ (q_ext _ _)) | exact ext_call (HMY.out _ (q_ext _ _)) | exact ext_call (HEF.out _ (q_ext _ _)))))
  clear hxc
  refine wpQuiet_nil ?_
  intro w5 hww5
  have hqw5 := q_of_ext hww5
  clear hww5
  obtain ⟨hcw5, hfw5, hzw5⟩ := hqw5.facts
  try simp at hzw5
  try have hs0w5 : w.heap.size < w5.heap.size := by omega
  try have hs1w5 : w.heap.size + 1 < w5.heap.size := by omega
  go_wp2_with fail
  go_ret
  exact ⟨by rw [HR.out]; rfl, hHOx.out _ hqw5⟩
set_option maxHeartbeats 16000000 in
set_option maxRecDepth 100000 in
theorem or2_same4 {w0 w : World} {g1 g2 : Nat} {m1 m2 : HM} {v1 v2 : RV} {bM bN : Nat} (O : OR2 w0 w g1 m1 g2 m2 v1 v2 bM bN) (I1 : Inv m1) (I2 : Inv m2) (d0 : m1.kind = m2.kind) (d1 : m1.piece = m2.piece) (d2 : m1.size = m2.size) (d3 : m1.peak = m2.peak) (d4 : ¬ m1.calls = m2.calls) :
    Calls Tryz.prog 13 #[.pointer (some ⟨g1, 0, none⟩), .pointer (some ⟨g2, 0, none⟩)] w fun e w' => e = .returned (.bool (sameM m1 m2)) ∧ OR2 w0 w' g1 m1 g2 m2 v1 v2 bM bN ∧ KeepM w w' := by
  -- the copy of the first one; the second one is as it was
  have HC1 : Hid (Calls Tryz.prog 12 #[.pointer (some ⟨g1, 0, none⟩)] w fun e w1 => ∃ x : Hp, e = .returned (.pointer (some ⟨x.blk, 0, none⟩)) ∧ HpR w1 x ∧ x.m = m1 ∧ Hid (∃ h2 : Hp, h2.blk = g2 ∧ HpR w1 h2 ∧ h2.mu = 0 ∧ h2.m = m2 ∧
      Calls Tryz.prog 12 #[.pointer (some ⟨g2, 0, none⟩)] w1 fun e w2 => ∃ y : Hp, e = .returned (.pointer (some ⟨y.blk, 0, none⟩)) ∧ HpR w2 x ∧ HpR w2 y ∧ y.m = m2 ∧ ∀ W, Q w2 W → OR2 w0 W g1 m1 g2 m2 v1 v2 bM bN ∧ KeepM w W)) := by
    obtain ⟨h1, h2, rfl, rfl, r1, r2, u1, u2, rfl, rfl, hq, f1, f2, hd, M⟩ := O
    refine (copy_act h1 w r1 I1 u1).mono ?_
    rintro e w1 ⟨h1', x, rfl, D1, vv1, e1, rx, vx, ex, fx, fs1⟩
    have r2' : HpR w1 h2 := r2.turn D1.turn (fun b hb hb' => hd b hb' hb)
    refine ⟨x, rfl, rx, ex, hide ⟨h2, rfl, r2', u2, rfl, ?_⟩⟩
    refine (copy_act h2 w1 r2' I2 u2).mono ?_
    rintro e w2 ⟨h2', y, rfl, D2, vv2, e2, ry, vy, ey, fy, fs2⟩
    have hlt2 : ∀ b, h2.fp b → b < w.heap.size := r2.lt
    have M1 := Mod2.did (T := fun b => h2.fp b ∨ b = bM ∨ b = bN) M D1
    have M2 := Mod2.did (T := fun b => h1'.fp b ∨ b = bM ∨ b = bN) (M1.grow fun b hb => .inl (by rcases hb with hb | hb | hb <;> simp [hb])) D2
    have M3 : Mod2 (fun b => h1'.fp b ∨ h2'.fp b ∨ b = bM ∨ b = bN) w2 v1 v2 := M2.grow fun b hb => .inl (by rcases hb with hb | hb | hb <;> simp [hb])
    have k1 := D1.rep.turn D2.turn (fun b hb hb' => hd b (fs1 b hb) hb')
    have k2 := Turn.q_of (Turn.q_of hq D1.turn f1) D2.turn f2
    have km : KeepM w w2 := (D1.keepM r1).trans (D2.keepM r2')
    refine ⟨y, rfl, rx.turn D2.turn (fun b hb hb' => by have h7 := fx b hb; have h8 := hlt2 b hb'; omega), ry, ey, fun W hqW => ⟨?_, km.trans (KeepM.q hqW)⟩⟩
    exact OR2.q ⟨h1', h2', D1.blk, D2.blk, k1, D2.rep, vv1, vv2, e1, e2, k2, (fun b hb => f1 b (fs1 b hb)), (fun b hb => f2 b (fs2 b hb)), (fun b hb hb' => hd b (fs1 b hb) (fs2 b hb')), M3⟩ hqW
  obtain ⟨V, hV⟩ : ∃ V, V = sameM m1 m2 := ⟨_, rfl⟩
  rw [← hV]
  have HV := hide hV
  have HI1 := hide I1
  have HI2 := hide I2
  clear O I1 I2 hV
  go_enter Tryz.func13, Tryz.ntmps13
  go_wp2_with fail
  refine HC1.out.mono ?_
  rintro e w1 ⟨x, rfl, rx, ex, HC2⟩
  clear HC1
  go_wp2_with fail
  obtain ⟨h2, hb2, rr2, hu2, hm2, hc2⟩ := HC2.out
  refine hc2.mono ?_
  rintro e w2 ⟨y, rfl, rx2, ry, ey, o2⟩
  have HO := hide o2
  clear hc2 rr2 hb2 hu2 hm2 HC2 rx o2
  subst ex
  subst ey
  obtain ⟨fX, rcvX, ⟨tyX, uX, hwX, hmX, heX⟩, hMX⟩ := mark_any x HI1.out.kind
  obtain ⟨fY, rcvY, ⟨tyY, uY, hwY, hmY, heY⟩, hMY⟩ := mark_any y HI2.out.kind
  obtain ⟨AX, cX, hsX⟩ := rx2.seen hwX
  obtain ⟨AY, cY, hsY⟩ := ry.seen hwY
  have hNX : x.bks.length ≤ 64 := by have := HI1.out.len; simp only [Hp.m, List.length_map] at this; exact this
  have hNY : y.bks.length ≤ 64 := by have := HI2.out.len; simp only [Hp.m, List.length_map] at this; exact this
  have HMX : Hid (∀ W, Q w2 W → Calls Tryz.prog fX #[rcvX] W (MarkPost x W)) := fun W hq => hMX W (rx2.q hq)
  have HMY : Hid (∀ W, Q w2 W → Calls Tryz.prog fY #[rcvY] W (MarkPost y W)) := fun W hq => hMY W (ry.q hq)
  have HEF : Hid (∀ W, Q w2 W → Calls Tryz.prog 38 #[.slice AX x.bks.length cX, .slice AY y.bks.length cY, .func (.func 39) #[] #[]] W fun e w' => e = .returned (.bool (decide (x.m.live = y.m.live))) ∧ Q W w') := fun W hq =>
    equalFunc_any AX AY _ cX _ cY x.bks y.bks W (hsX.sl.up hq) (hsY.sl.up hq) (fun z hz => (hsX.rows z hz).up hq) (fun z hz => (hsY.rows z hz).up hq) hNX hNY
  obtain ⟨gx, hgx⟩ : ∃ gx, gx = x.blk := ⟨_, rfl⟩
  obtain ⟨gy, hgy⟩ : ∃ gy, gy = y.blk := ⟨_, rfl⟩
  rw [← hgx] at hsX ⊢
  rw [← hgy] at hsY ⊢
  obtain ⟨xl, x2, x3, x4, x5, x6, x7, x8, x9, -, -⟩ := hsX
  obtain ⟨yl, y2, y3, y4, y5, y6, y7, y8, y9, -, -⟩ := hsY
  unfold MarkPost at HMX HMY
  obtain ⟨p0, hp0⟩ : ∃ p, p = x.m.kind := ⟨_, rfl⟩
  obtain ⟨q0, hq0⟩ : ∃ q, q = y.m.kind := ⟨_, rfl⟩
  obtain ⟨p1, hp1⟩ : ∃ p, p = x.m.piece := ⟨_, rfl⟩
  obtain ⟨q1, hq1⟩ : ∃ q, q = y.m.piece := ⟨_, rfl⟩
  obtain ⟨p2, hp2⟩ : ∃ p, p = x.m.size := ⟨_, rfl⟩
  obtain ⟨q2, hq2⟩ : ∃ q, q = y.m.size := ⟨_, rfl⟩
  obtain ⟨p3, hp3⟩ : ∃ p, p = x.m.peak := ⟨_, rfl⟩
  obtain ⟨q3, hq3⟩ : ∃ q, q = y.m.peak := ⟨_, rfl⟩
  obtain ⟨p4, hp4⟩ : ∃ p, p = x.m.calls := ⟨_, rfl⟩
  obtain ⟨q4, hq4⟩ : ∃ q, q = y.m.calls := ⟨_, rfl⟩
  obtain ⟨p5, hp5⟩ : ∃ p, p = x.m.failIn := ⟨_, rfl⟩
  obtain ⟨q5, hq5⟩ : ∃ q, q = y.m.failIn := ⟨_, rfl⟩
  obtain ⟨p6, hp6⟩ : ∃ p, p = markM x.m := ⟨_, rfl⟩
  obtain ⟨q6, hq6⟩ : ∃ q, q = markM y.m := ⟨_, rfl⟩
  obtain ⟨ql, hql⟩ : ∃ q, q = decide (x.m.live = y.m.live) := ⟨_, rfl⟩
  have HVV : Hid (V = ((p0 == q0) && (p1 == q1) && (p2 == q2) && (p3 == q3) && (p4 == q4) && (p5 == q5) && (p6 == q6) && ql)) := by
    rw [HV.out, hp0, hp1, hp2, hp3, hp4, hp5, hp6, hq0, hq1, hq2, hq3, hq4, hq5, hq6, hql]
    exact hide rfl
  rw [← hp0] at x2
  rw [← hq0] at y2
  rw [← hp1] at x3
  rw [← hq1] at y3
  rw [← hp2] at x4
  rw [← hq2] at y4
  rw [← hp3] at x7
  rw [← hq3] at y7
  rw [← hp4] at x8
  rw [← hq4] at y8
  rw [← hp5] at x9
  rw [← hq5] at y9
  rw [← hp6] at HMX
  rw [← hq6] at HMY
  rw [← hql] at HEF
  obtain ⟨nX, hnX⟩ : ∃ n, n = x.bks.length := ⟨_, rfl⟩
  obtain ⟨nY, hnY⟩ : ∃ n, n = y.bks.length := ⟨_, rfl⟩
  rw [← hnX] at x5 HEF
  rw [← hnY] at y5 HEF
  have hHOx : Hid (∀ W, Q w2 W → OR2 w0 W g1 x.m g2 y.m v1 v2 bM bN ∧ KeepM w W) := HO
  have e0 : (p0 == q0) = true := by rw [hp0, hq0]; simpa using d0
  have e1 : (p1 == q1) = true := by rw [hp1, hq1]; simpa using d1
  have e2 : (p2 == q2) = true := by rw [hp2, hq2]; simpa using d2
  have e3 : (p3 == q3) = true := by rw [hp3, hq3]; simpa using d3
  have e4 : (p4 == q4) = false := by rw [hp4, hq4]; simpa using d4
  clear d0 d1 d2 d3 d4
  clear HO rx2 ry hwX hwY hMX hMY hNX hNY hgx hgy hnX hnY HV HI1 HI2 hql hp0 hp1 hp2 hp3 hp4 hp5 hp6 hq0 hq1 hq2 hq3 hq4 hq5 hq6
  have HR : Hid (V = false) := hide (by rw [HVV.out]; simp only [e0, e1, e2, e3, e4, Bool.true_and, Bool.false_and])
  clear HVV
  go_wp2_with fail
  dsimp only [List.append]
  have hxc := ext_cell
  refine wp_region_ext (by kernel_rfl) (by kernel_rfl) ?_
  repeat (go_big_quiet_step ((first | exact ext_call (HMX.out _ (q_ext _ _)) | exact ext_call (HMY.out _ (q_ext _ _)) | exact ext_call (HEF.out _ (q_ext _ _)))))
  clear hxc
  refine wpQuiet_nil ?_
  intro w5 hww5
  have hqw5 := q_of_ext hww5
  clear hww5
  obtain ⟨hcw5, hfw5, hzw5⟩ := hqw5.facts
  try simp at hzw5
  try have hs0w5 : w.heap.size < w5.heap.size := by omega
  try have hs1w5 : w.heap.size + 1 < w5.heap.size := by omega
  go_wp2_with fail
  go_ret
  exact ⟨by rw [HR.out]; rfl, hHOx.out _ hqw5⟩
end Go.Proofs.YtegpkcbmgjoicaaGreat
