/- Same: whether two heaps are equal. Conditions: the heaps read so, are unlocked and apart, their numbers are within bounds. -/
import Derived.Test.YtegpkcbmgjoicaaGreatHrC
namespace Go.Proofs.YtegpkcbmgjoicaaGreat
open Go.RowKit HP
set_option linter.unusedVariables false
def sameM (a b : HM) : Bool := (a.kind == b.kind) && (a.piece == b.piece) && (a.size == b.size) && (a.peak == b.peak) && (a.calls == b.calls) && (a.failIn == b.failIn) && (markM a == markM b) && decide (a.live = b.live)
theorem sameM_self (m : HM) : sameM m m = true := by simp [sameM]
/-- two heaps of the call's own, apart -/
def Own2 (w0 w : World) (g1 : Nat) (m1 : HM) (g2 : Nat) (m2 : HM) : Prop :=
  ∃ h1 h2 : Hp, h1.blk = g1 ∧ h2.blk = g2 ∧ HpR w h1 ∧ HpR w h2 ∧ h1.mu = 0 ∧ h2.mu = 0 ∧ h1.m = m1 ∧ h2.m = m2 ∧ Q w0 w ∧ (∀ b, h1.fp b → w0.heap.size ≤ b) ∧ (∀ b, h2.fp b → w0.heap.size ≤ b) ∧ ∀ b, h1.fp b → ¬ h2.fp b
theorem Own2.symm {w0 w : World} {g1 g2 : Nat} {m1 m2 : HM} (O : Own2 w0 w g1 m1 g2 m2) : Own2 w0 w g2 m2 g1 m1 := by
  obtain ⟨h1, h2, a, b, c, d, e, f, g, h, i, j, k, l⟩ := O
  exact ⟨h2, h1, b, a, d, c, f, e, h, g, i, k, j, fun b hb hb' => l b hb' hb⟩
theorem Own2.q {w0 w w' : World} {g1 g2 : Nat} {m1 m2 : HM} (O : Own2 w0 w g1 m1 g2 m2) (hq : Q w w') : Own2 w0 w' g1 m1 g2 m2 := by
  obtain ⟨h1, h2, a, b, c, d, e, f, g, h, i, j, k, l⟩ := O
  exact ⟨h1, h2, a, b, c.q hq, d.q hq, e, f, g, h, i.trans hq, j, k, l⟩
theorem Own2.one {w0 w : World} {g1 g2 : Nat} {m1 m2 : HM} (O : Own2 w0 w g1 m1 g2 m2) : Own w0 w g1 m1 := by
  obtain ⟨h1, h2, a, b, c, d, e, f, g, h, i, j, k, l⟩ := O
  exact ⟨h1, a, c, e, g, i, j⟩
theorem Own2.toQ {w0 w : World} {g1 g2 : Nat} {m1 m2 : HM} (O : Own2 w0 w g1 m1 g2 m2) : Q w0 w := O.one.toQ
/-- what is done of the first one -/
theorem Own2.did {w0 w w' : World} {h1 h2 h1' : Hp} (hr2 : HpR w h2) (hmu2 : h2.mu = 0) (hq : Q w0 w) (f1 : ∀ b, h1.fp b → w0.heap.size ≤ b) (f2 : ∀ b, h2.fp b → w0.heap.size ≤ b) (hd : ∀ b, h1.fp b → ¬ h2.fp b) (D : Did w h1 w' h1') (hmu : h1'.mu = 0) : Own2 w0 w' h1.blk h1'.m h2.blk h2.m :=
  ⟨h1', h2, D.blk, rfl, D.rep, hr2.turn D.turn (fun b hb hb' => hd b hb' hb), hmu, hmu2, rfl, rfl, Turn.q_of hq D.turn f1, (fun b hb => by
    rcases D.fp b hb with e | e
    · exact f1 b e
    · exact Nat.le_trans hq.size e), f2, fun b hb hb' => by
    rcases D.fp b hb with e | e
    · exact hd b e hb'
    · have := hr2.lt b hb'
      omega⟩
/-- a copy is made -/
theorem own_copy {w0 w : World} {g : Nat} {m : HM} (O : Own w0 w g m) (I : Inv m) :
    Calls Tryz.prog 12 #[.pointer (some ⟨g, 0, none⟩)] w fun e w' => ∃ g2, e = .returned (.pointer (some ⟨g2, 0, none⟩)) ∧ Own2 w0 w' g m g2 m := by
  obtain ⟨h, rfl, h2, h3, rfl, h5, h6⟩ := O
  refine (copy_act h w h2 I h3).mono ?_
  rintro e w' ⟨h', hc, rfl, D, hmu, hm, hR, hmuc, hmc, hfc, hfs⟩
  refine ⟨hc.blk, rfl, h', hc, D.blk, rfl, D.rep, hR, hmu, hmuc, hm, hmc, Turn.q_of h5 D.turn h6, (fun b hb => h6 b (hfs b hb)), (fun b hb => Nat.le_trans h5.size (hfc b hb)), fun b hb hb' => ?_⟩
  have h7 := h2.lt b (hfs b hb)
  have h8 := hfc b hb'
  omega
/-- what is read of a copy -/
structure Seen (W : World) (x : Hp) (gx N : Nat) (A : Option Addr) (c : Nat) (ty : TypeId) (u : Value) : Prop where
  lt : gx < W.heap.size
  k2 : W.cell? ⟨gx, 2, none⟩ = some (.int .i64 x.m.kind)
  k3 : W.cell? ⟨gx, 3, none⟩ = some (.int .i64 x.m.piece)
  k4 : W.cell? ⟨gx, 4, none⟩ = some (.int .i64 x.m.size)
  k5 : W.cell? ⟨gx, 5, none⟩ = some (.slice A N c)
  k6 : W.cell? ⟨gx, 6, none⟩ = some (.iface ty u)
  k7 : W.cell? ⟨gx, 7, none⟩ = some (.int .i64 x.m.peak)
  k8 : W.cell? ⟨gx, 8, none⟩ = some (.int .i64 x.m.calls)
  k9 : W.cell? ⟨gx, 9, none⟩ = some (.int .i64 x.m.failIn)
  sl : Sl 2 encBk W A N c x.bks
  rows : Rows W x.bks
theorem HpR.seen {W : World} {x : Hp} (H : HpR W x) {ty : TypeId} {u : Value} (hw : x.way = .iface ty u) : ∃ A c, Seen W x x.blk x.bks.length A c ty u := by
  obtain ⟨A, c, -, hS, k5, hb⟩ := H.open_
  exact ⟨A, c, hb, (H.cell 2).trans rfl, (H.cell 3).trans rfl, (H.cell 4).trans rfl, k5, (H.cell 6).trans (by rw [← hw]; rfl), (H.cell 7).trans rfl, (H.cell 8).trans rfl, (H.cell 9).trans rfl, hS, fun z hz => sl_bytes (H.rows z hz)⟩
set_option maxHeartbeats 16000000 in
set_option maxRecDepth 100000 in
theorem own2_same7 {w0 w : World} {g1 g2 : Nat} {m1 m2 : HM} (O : Own2 w0 w g1 m1 g2 m2) (I1 : Inv m1) (I2 : Inv m2) (d0 : m1.kind = m2.kind) (d1 : m1.piece = m2.piece) (d2 : m1.size = m2.size) (d3 : m1.peak = m2.peak) (d4 : m1.calls = m2.calls) (d5 : m1.failIn = m2.failIn) (d6 : markM m1 = markM m2) :
    Calls Tryz.prog 13 #[.pointer (some ⟨g1, 0, none⟩), .pointer (some ⟨g2, 0, none⟩)] w fun e w' => e = .returned (.bool (sameM m1 m2)) ∧ Own2 w0 w' g1 m1 g2 m2 := by
  -- the copy of the first one; the second one is as it was
  have HC1 : Hid (Calls Tryz.prog 12 #[.pointer (some ⟨g1, 0, none⟩)] w fun e w1 => ∃ x : Hp, e = .returned (.pointer (some ⟨x.blk, 0, none⟩)) ∧ HpR w1 x ∧ x.m = m1 ∧ Hid (∃ h2 : Hp, h2.blk = g2 ∧ HpR w1 h2 ∧ h2.mu = 0 ∧ h2.m = m2 ∧
      Calls Tryz.prog 12 #[.pointer (some ⟨g2, 0, none⟩)] w1 fun e w2 => ∃ y : Hp, e = .returned (.pointer (some ⟨y.blk, 0, none⟩)) ∧ HpR w2 x ∧ HpR w2 y ∧ y.m = m2 ∧ Own2 w0 w2 g1 m1 g2 m2)) := by
    obtain ⟨h1, h2, rfl, rfl, r1, r2, u1, u2, rfl, rfl, hq, f1, f2, hd⟩ := O
    refine (copy_act h1 w r1 I1 u1).mono ?_
    rintro e w1 ⟨h1', x, rfl, D1, v1, e1, rx, vx, ex, fx, fs1⟩
    have r2' : HpR w1 h2 := r2.turn D1.turn (fun b hb hb' => hd b hb' hb)
    refine ⟨x, rfl, rx, ex, hide ⟨h2, rfl, r2', u2, rfl, ?_⟩⟩
    refine (copy_act h2 w1 r2' I2 u2).mono ?_
    rintro e w2 ⟨h2', y, rfl, D2, v2, e2, ry, vy, ey, fy, fs2⟩
    have hlt2 : ∀ b, h2.fp b → b < w.heap.size := r2.lt
    refine ⟨y, rfl, rx.turn D2.turn (fun b hb hb' => by have h7 := fx b hb; have h8 := hlt2 b hb'; omega), ry, ey, h1', h2', D1.blk, D2.blk, ?_, D2.rep, v1, v2, e1, e2, ?_, (fun b hb => f1 b (fs1 b hb)), (fun b hb => f2 b (fs2 b hb)), fun b hb hb' => hd b (fs1 b hb) (fs2 b hb')⟩
    · exact D1.rep.turn D2.turn (fun b hb hb' => hd b (fs1 b hb) hb')
    · exact Turn.q_of (Turn.q_of hq D1.turn f1) D2.turn f2
  obtain ⟨V, hV⟩ : ∃ V, V = sameM m1 m2 := ⟨_, rfl⟩
  rw [← hV]
  have HV := hide hV
  have HI1 := hide I1
  have HI2 := hide I2
  clear O I1 I2 hV
  go_enter Tryz.func13, Tryz.ntmps13
  go_wp2_with fail
  refine HC1.out.mono ?_
  rintro e w1 ⟨x, rfl, rx, ex, HC2⟩
  clear HC1
  go_wp2_with fail
  obtain ⟨h2, hb2, rr2, hu2, hm2, hc2⟩ := HC2.out
  refine hc2.mono ?_
  rintro e w2 ⟨y, rfl, rx2, ry, ey, o2⟩
  have HO := hide o2
  clear hc2 rr2 hb2 hu2 hm2 HC2 rx o2
  subst ex
  subst ey
  obtain ⟨fX, rcvX, ⟨tyX, uX, hwX, hmX, heX⟩, hMX⟩ := mark_any x HI1.out.kind
  obtain ⟨fY, rcvY, ⟨tyY, uY, hwY, hmY, heY⟩, hMY⟩ := mark_any y HI2.out.kind
  obtain ⟨AX, cX, hsX⟩ := rx2.seen hwX
  obtain ⟨AY, cY, hsY⟩ := ry.seen hwY
  have hNX : x.bks.length ≤ 64 := by have := HI1.out.len; simp only [Hp.m, List.length_map] at this; exact this
  have hNY : y.bks.length ≤ 64 := by have := HI2.out.len; simp only [Hp.m, List.length_map] at this; exact this
  have HMX : Hid (∀ W, Q w2 W → Calls Tryz.prog fX #[rcvX] W (MarkPost x W)) := fun W hq => hMX W (rx2.q hq)
  have HMY : Hid (∀ W, Q w2 W → Calls Tryz.prog fY #[rcvY] W (MarkPost y W)) := fun W hq => hMY W (ry.q hq)
  have HEF : Hid (∀ W, Q w2 W → Calls Tryz.prog 38 #[.slice AX x.bks.length cX, .slice AY y.bks.length cY, .func (.func 39) #[] #[]] W fun e w' => e = .returned (.bool (decide (x.m.live = y.m.live))) ∧ Q W w') := fun W hq =>
    equalFunc_any AX AY _ cX _ cY x.bks y.bks W (hsX.sl.up hq) (hsY.sl.up hq) (fun z hz => (hsX.rows z hz).up hq) (fun z hz => (hsY.rows z hz).up hq) hNX hNY
  obtain ⟨gx, hgx⟩ : ∃ gx, gx = x.blk := ⟨_, rfl⟩
  obtain ⟨gy, hgy⟩ : ∃ gy, gy = y.blk := ⟨_, rfl⟩
  rw [← hgx] at hsX ⊢
  rw [← hgy] at hsY ⊢
  obtain ⟨xl, x2, x3, x4, x5, x6, x7, x8, x9, -, -⟩ := hsX
  obtain ⟨yl, y2, y3, y4, y5, y6, y7, y8, y9, -, -⟩ := hsY
  unfold MarkPost at HMX HMY
  obtain ⟨p0, hp0⟩ : ∃ p, p = x.m.kind := ⟨_, rfl⟩
  obtain ⟨q0, hq0⟩ : ∃ q, q = y.m.kind := ⟨_, rfl⟩
  obtain ⟨p1, hp1⟩ : ∃ p, p = x.m.piece := ⟨_, rfl⟩
  obtain ⟨q1, hq1⟩ : ∃ q, q = y.m.piece := ⟨_, rfl⟩
  obtain ⟨p2, hp2⟩ : ∃ p, p = x.m.size := ⟨_, rfl⟩
  obtain ⟨q2, hq2⟩ : ∃ q, q = y.m.size := ⟨_, rfl⟩
  obtain ⟨p3, hp3⟩ : ∃ p, p = x.m.peak := ⟨_, rfl⟩
  obtain ⟨q3, hq3⟩ : ∃ q, q = y.m.peak := ⟨_, rfl⟩
  obtain ⟨p4, hp4⟩ : ∃ p, p = x.m.calls := ⟨_, rfl⟩
  obtain ⟨q4, hq4⟩ : ∃ q, q = y.m.calls := ⟨_, rfl⟩
  obtain ⟨p5, hp5⟩ : ∃ p, p = x.m.failIn := ⟨_, rfl⟩
  obtain ⟨q5, hq5⟩ : ∃ q, q = y.m.failIn := ⟨_, rfl⟩
  obtain ⟨p6, hp6⟩ : ∃ p, p = markM x.m := ⟨_, rfl⟩
  obtain ⟨q6, hq6⟩ : ∃ q, q = markM y.m := ⟨_, rfl⟩
  obtain ⟨ql, hql⟩ : ∃ q, q = decide (x.m.live = y.m.live) := ⟨_, rfl⟩
  have HVV : Hid (V = ((p0 == q0) && (p1 == q1) && (p2 == q2) && (p3 == q3) && (p4 == q4) && (p5 == q5) && (p6 == q6) && ql)) := by
    rw [HV.out, hp0, hp1, hp2, hp3, hp4, hp5, hp6, hq0, hq1, hq2, hq3, hq4, hq5, hq6, hql]
    exact hide rfl
  rw [← hp0] at x2
  rw [← hq0] at y2
  rw [← hp1] at x3
  rw [← hq1] at y3
  rw [← hp2] at x4
  rw [← hq2] at y4
  rw [← hp3] at x7
  rw [← hq3] at y7
  rw [← hp4] at x8
  rw [← hq4] at y8
  rw [← hp5] at x9
  rw [← hq5] at y9
  rw [← hp6] at HMX
  rw [← hq6] at HMY
  rw [← hql] at HEF
  obtain ⟨nX, hnX⟩ : ∃ n, n = x.bks.length := ⟨_, rfl⟩
  obtain ⟨nY, hnY⟩ : ∃ n, n = y.bks.length := ⟨_, rfl⟩
  rw [← hnX] at x5 HEF
  rw [← hnY] at y5 HEF
  have hHOx : Hid (Own2 w0 w2 g1 x.m g2 y.m) := HO
  have e0 : (p0 == q0) = true := by rw [hp0, hq0]; simpa using d0
  have e1 : (p1 == q1) = true := by rw [hp1, hq1]; simpa using d1
  have e2 : (p2 == q2) = true := by rw [hp2, hq2]; simpa using d2
  have e3 : (p3 == q3) = true := by rw [hp3, hq3]; simpa using d3
  have e4 : (p4 == q4) = true := by rw [hp4, hq4]; simpa using d4
  have e5 : (p5 == q5) = true := by rw [hp5, hq5]; simpa using d5
  have e6 : (p6 == q6) = true := by rw [hp6, hq6]; simpa using d6
  clear d0 d1 d2 d3 d4 d5 d6
  clear HO rx2 ry hwX hwY hMX hMY hNX hNY hgx hgy hnX hnY HV HI1 HI2 hql hp0 hp1 hp2 hp3 hp4 hp5 hp6 hq0 hq1 hq2 hq3 hq4 hq5 hq6
  have HR : Hid (V = ql) := hide (by rw [HVV.out]; simp only [e0, e1, e2, e3, e4, e5, e6, Bool.true_and, Bool.false_and])
  clear HVV
  go_wp2_with fail
  dsimp only [List.append]
  have hxc := ext_cell
  refine wp_region_ext (by kernel_rfl) (by kernel_rfl) ?_
  repeat (go_big_quiet_step ((first | exact ext_call (HMX.out _ (q_ext _ _)) | exact ext_call (HMY.out _ (q_ext _ _)) | exact ext_call (HEF.out _ (q_ext _ _)))))
  clear hxc
  refine wpQuiet_nil ?_
  intro w5 hww5
  have hqw5 := q_of_ext hww5
  clear hww5
  obtain ⟨hcw5, hfw5, hzw5⟩ := hqw5.facts
  try simp at hzw5
  try have hs0w5 : w.heap.size < w5.heap.size := by omega
  try have hs1w5 : w.heap.size + 1 < w5.heap.size := by omega
  go_wp2_with fail
  go_ret
  exact ⟨by rw [HR.out]; rfl, hHOx.out.q hqw5⟩
end Go.Proofs.YtegpkcbmgjoicaaGreat
