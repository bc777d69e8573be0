/- The reference's room: where a new block is. A row of nine cells behind nine stores; the reference's gone. Conditions: as each theorem says. -/
import Derived.Test.YtegpkcbmgjoicaaGreatHsU1
namespace Go.Proofs.YtegpkcbmgjoicaaGreat
open Go.RowKit HP
set_option linter.unusedVariables false
theorem upTo_le (t m : Int) (hm : 1 ≤ m) : upTo t m ≤ t + m - 1 := by
  unfold upTo
  have h1 := Int.mul_ediv_add_emod (t + m - 1) m
  have h2 := Int.emod_nonneg (t + m - 1) (show m ≠ 0 by omega)
  rw [Int.mul_comm] at h1
  omega
theorem upTo_eq {t m a : Int} (hm : 1 ≤ m) (h0 : a % m = 0) (h1 : t ≤ a) (h2 : a ≤ upTo t m) : a = upTo t m := by
  obtain ⟨h3, h4⟩ := upTo_ge t m hm
  have h5 := upTo_le t m hm
  have h6 : (upTo t m - a) % m = 0 := by rw [Int.sub_emod, h4, h0]; simp
  have h7 : (upTo t m - a) % m = upTo t m - a := Int.emod_eq_of_lt (by omega) (by omega)
  omega
noncomputable def ffR (m : RM) (n : Int) (a : Int) : Bool := freeR m.bl m.size a (a + n) (-1)
def plR (m : RM) (n al : Int) (a : Int) : Bool := decide (idxI (fun p => p.1 == a) m.bl < 0) && decide (n ≤ m.piece) && decide (a % al = 0)
noncomputable def roomR (m : RM) (n al : Int) : Option Int :=
  if m.kind = 1 ∨ m.kind = 2 then (if upTo m.top al + n ≤ m.size then some (upTo m.top al) else none)
  else if m.kind = 3 then scanF (plR m n al) (m.size - m.piece) m.piece 5000 0
  else scanF (ffR m n) (m.size - n) al 5000 0
set_option maxRecDepth 100000 in
set_option maxHeartbeats 2000000 in
theorem rRoom1_any (v : RV) (z al : Int) (w : World) (H : RmR w v) (N : RmN v.m) (hkd : v.m.kind = 1) (hz0 : 1 ≤ z) (hz1 : z ≤ 4096) (ha0 : 1 ≤ al) (ha1 : al ≤ 16) :
    Calls Tryz.prog 54 #[v.val, .int .i64 z, .int .i64 al] w (RoomPost (if upTo v.m.top al + z ≤ v.m.size then some (upTo v.m.top al) else none) w) := by
  obtain ⟨A, n, c, B, k, d, ⟨m0, m1, m2, bl, ys, m5, m6, m7, m8⟩⟩ := v
  unfold RV.val RV.cells
  dsimp only at H N hkd ⊢
  subst hkd
  obtain ⟨hm10, hm11⟩ := N.sz
  obtain ⟨hm20, hm21⟩ := N.pc
  obtain ⟨hm50, hm51⟩ := N.tp
  dsimp only at hm10 hm11 hm20 hm21 hm50 hm51
  clear H N
  have hu1 := (upTo_ge m5 al ha0).1
  have hu2 := upTo_le m5 al ha0
  have HUE := hide fun (a : Int) (h0 : a % al = 0) (h1 : m5 ≤ a) (h2 : a ≤ upTo m5 al) => upTo_eq ha0 h0 h1 h2
  have HUN := hide (upTo_ge m5 al ha0).2
  obtain ⟨u, hu⟩ : ∃ u, u = upTo m5 al := ⟨_, rfl⟩
  rw [← hu] at hu1 hu2 HUE HUN ⊢
  clear hu
  obtain ⟨R, hR⟩ : ∃ R, R = if u + z ≤ m1 then some u else none := ⟨_, rfl⟩
  rw [← hR]
  have HR := hide hR
  clear hR
  obtain ⟨w1, hw1⟩ : ∃ w1, w.alloc (.cells #[.int .i64 1, .int .i64 m1, .int .i64 m2, .slice A n c, .slice B k d, .int .i64 m5, .int .i64 m6, .int .i64 m7, .int .i64 m8] 32) = w1 := ⟨_, rfl⟩
  have hq1 : Q w w1 := by rw [← hw1]; exact (Q.refl w).alloc _
  have hs1 : w.heap.size < w1.heap.size := by rw [← hw1]; simp
  have KB0 := hide (show w1.cell? ⟨w.heap.size, 0, none⟩ = some (.int .i64 1) by rw [← hw1]; simp)
  have KB1 := hide (show w1.cell? ⟨w.heap.size, 1, none⟩ = some (.int .i64 m1) by rw [← hw1]; simp)
  have KB2 := hide (show w1.cell? ⟨w.heap.size, 2, none⟩ = some (.int .i64 m2) by rw [← hw1]; simp)
  have KB3 := hide (show w1.cell? ⟨w.heap.size, 3, none⟩ = some (.slice A n c) by rw [← hw1]; simp)
  have KB4 := hide (show w1.cell? ⟨w.heap.size, 4, none⟩ = some (.slice B k d) by rw [← hw1]; simp)
  have KB5 := hide (show w1.cell? ⟨w.heap.size, 5, none⟩ = some (.int .i64 m5) by rw [← hw1]; simp)
  have KB6 := hide (show w1.cell? ⟨w.heap.size, 6, none⟩ = some (.int .i64 m6) by rw [← hw1]; simp)
  have KB7 := hide (show w1.cell? ⟨w.heap.size, 7, none⟩ = some (.int .i64 m7) by rw [← hw1]; simp)
  have KB8 := hide (show w1.cell? ⟨w.heap.size, 8, none⟩ = some (.int .i64 m8) by rw [← hw1]; simp)
  have HW1 := hide hw1
  clear hw1
  have hal : al ≠ 0 := by omega
  go_enter Tryz.func54, Tryz.ntmps54
  go_wp2_with fail
  rw [HW1.out]
  go_loopw [8] (fun va wr => ∃ a : Int, va = .int .i64 a ∧ m5 ≤ a ∧ a ≤ u ∧ Q w1 wr) (fun va _ => (6000 - intOf va).toNat)
  case atStart => exact ⟨m5, by go_num, by omega, by omega, Q.refl _⟩
  case round =>
    obtain ⟨a, rfl, hlo, hhi, hq⟩ := hrel
    have hsz := hq.size
    have k1 := (hq.facts.1 _ 1 hs1).trans KB1.out
    have hsg : w.heap.size < wr.heap.size := by omega
    have HQ := hide (hq1.trans hq)
    have HQ1 := hide hq
    clear hq
    have htm : a.tmod al = a % al := Int.tmod_eq_emod_of_nonneg (by omega)
    have hb0 : 0 ≤ a % al := Int.emod_nonneg _ hal
    have hb1 : a % al < al := Int.emod_lt_of_pos _ (by omega)
    by_cases e : a % al = 0
    · have bn : (a % al != 0) = false := by simpa using e
      have dn : decide (a % al = 0) = true := by simpa using e
      have HA := hide (HUE.out a e hlo hhi)
      clear e
      go_wp2_with fail
      have hxc := ext_cell
      refine wp_region_ext (by kernel_rfl) (by kernel_rfl) ?_
      repeat (go_big_quiet_step ((fail)))
      clear hxc
      refine wpQuiet_nil ?_
      intro w2 hww2
      have hqw2 := q_of_ext hww2
      clear hww2
      obtain ⟨hcw2, hfw2, hzw2⟩ := hqw2.facts
      try simp at hzw2
      try have hs0w2 : w.heap.size < w2.heap.size := by omega
      try have hs1w2 : w.heap.size + 1 < w2.heap.size := by omega
      go_wp2_with fail
      go_ret2
      refine ⟨a, decide (a + z ≤ m1), rfl, ?_, ?_, HQ.out.trans hqw2⟩
      · rw [HR.out, ← HA.out]
        by_cases h : a + z ≤ m1
        · rw [if_pos h]; simpa using h
        · rw [if_neg h]; simpa using h
      · intro x hx
        rw [HR.out, ← HA.out] at hx
        split at hx
        · exact Option.some.inj hx
        · cases hx
    · have bn : (a % al != 0) = true := by simpa using e
      have dn : decide (a % al = 0) = false := by simpa using e
      have HA := hide (show a + 1 ≤ u by
        rcases Int.lt_or_eq_of_le hhi with h | h
        · omega
        · exact absurd (by rw [h]; exact HUN.out) e)
      go_wp2_with fail
      go_roundw
      case rel => exact ⟨a + 1, rfl, by omega, HA.out, HQ1.out⟩
      case measure => simp [intOf] <;> omega
set_option maxRecDepth 100000 in
set_option maxHeartbeats 2000000 in
theorem rRoom2_any (v : RV) (z al : Int) (w : World) (H : RmR w v) (N : RmN v.m) (hkd : v.m.kind = 2) (hz0 : 1 ≤ z) (hz1 : z ≤ 4096) (ha0 : 1 ≤ al) (ha1 : al ≤ 16) :
    Calls Tryz.prog 54 #[v.val, .int .i64 z, .int .i64 al] w (RoomPost (if upTo v.m.top al + z ≤ v.m.size then some (upTo v.m.top al) else none) w) := by
  obtain ⟨A, n, c, B, k, d, ⟨m0, m1, m2, bl, ys, m5, m6, m7, m8⟩⟩ := v
  unfold RV.val RV.cells
  dsimp only at H N hkd ⊢
  subst hkd
  obtain ⟨hm10, hm11⟩ := N.sz
  obtain ⟨hm20, hm21⟩ := N.pc
  obtain ⟨hm50, hm51⟩ := N.tp
  dsimp only at hm10 hm11 hm20 hm21 hm50 hm51
  clear H N
  have hu1 := (upTo_ge m5 al ha0).1
  have hu2 := upTo_le m5 al ha0
  have HUE := hide fun (a : Int) (h0 : a % al = 0) (h1 : m5 ≤ a) (h2 : a ≤ upTo m5 al) => upTo_eq ha0 h0 h1 h2
  have HUN := hide (upTo_ge m5 al ha0).2
  obtain ⟨u, hu⟩ : ∃ u, u = upTo m5 al := ⟨_, rfl⟩
  rw [← hu] at hu1 hu2 HUE HUN ⊢
  clear hu
  obtain ⟨R, hR⟩ : ∃ R, R = if u + z ≤ m1 then some u else none := ⟨_, rfl⟩
  rw [← hR]
  have HR := hide hR
  clear hR
  obtain ⟨w1, hw1⟩ : ∃ w1, w.alloc (.cells #[.int .i64 2, .int .i64 m1, .int .i64 m2, .slice A n c, .slice B k d, .int .i64 m5, .int .i64 m6, .int .i64 m7, .int .i64 m8] 32) = w1 := ⟨_, rfl⟩
  have hq1 : Q w w1 := by rw [← hw1]; exact (Q.refl w).alloc _
  have hs1 : w.heap.size < w1.heap.size := by rw [← hw1]; simp
  have KB0 := hide (show w1.cell? ⟨w.heap.size, 0, none⟩ = some (.int .i64 2) by rw [← hw1]; simp)
  have KB1 := hide (show w1.cell? ⟨w.heap.size, 1, none⟩ = some (.int .i64 m1) by rw [← hw1]; simp)
  have KB2 := hide (show w1.cell? ⟨w.heap.size, 2, none⟩ = some (.int .i64 m2) by rw [← hw1]; simp)
  have KB3 := hide (show w1.cell? ⟨w.heap.size, 3, none⟩ = some (.slice A n c) by rw [← hw1]; simp)
  have KB4 := hide (show w1.cell? ⟨w.heap.size, 4, none⟩ = some (.slice B k d) by rw [← hw1]; simp)
  have KB5 := hide (show w1.cell? ⟨w.heap.size, 5, none⟩ = some (.int .i64 m5) by rw [← hw1]; simp)
  have KB6 := hide (show w1.cell? ⟨w.heap.size, 6, none⟩ = some (.int .i64 m6) by rw [← hw1]; simp)
  have KB7 := hide (show w1.cell? ⟨w.heap.size, 7, none⟩ = some (.int .i64 m7) by rw [← hw1]; simp)
  have KB8 := hide (show w1.cell? ⟨w.heap.size, 8, none⟩ = some (.int .i64 m8) by rw [← hw1]; simp)
  have HW1 := hide hw1
  clear hw1
  have hal : al ≠ 0 := by omega
  go_enter Tryz.func54, Tryz.ntmps54
  go_wp2_with fail
  rw [HW1.out]
  go_loopw [8] (fun va wr => ∃ a : Int, va = .int .i64 a ∧ m5 ≤ a ∧ a ≤ u ∧ Q w1 wr) (fun va _ => (6000 - intOf va).toNat)
  case atStart => exact ⟨m5, by go_num, by omega, by omega, Q.refl _⟩
  case round =>
    obtain ⟨a, rfl, hlo, hhi, hq⟩ := hrel
    have hsz := hq.size
    have k1 := (hq.facts.1 _ 1 hs1).trans KB1.out
    have hsg : w.heap.size < wr.heap.size := by omega
    have HQ := hide (hq1.trans hq)
    have HQ1 := hide hq
    clear hq
    have htm : a.tmod al = a % al := Int.tmod_eq_emod_of_nonneg (by omega)
    have hb0 : 0 ≤ a % al := Int.emod_nonneg _ hal
    have hb1 : a % al < al := Int.emod_lt_of_pos _ (by omega)
    by_cases e : a % al = 0
    · have bn : (a % al != 0) = false := by simpa using e
      have dn : decide (a % al = 0) = true := by simpa using e
      have HA := hide (HUE.out a e hlo hhi)
      clear e
      go_wp2_with fail
      have hxc := ext_cell
      refine wp_region_ext (by kernel_rfl) (by kernel_rfl) ?_
      repeat (go_big_quiet_step ((fail)))
      clear hxc
      refine wpQuiet_nil ?_
      intro w2 hww2
      have hqw2 := q_of_ext hww2
      clear hww2
      obtain ⟨hcw2, hfw2, hzw2⟩ := hqw2.facts
      try simp at hzw2
      try have hs0w2 : w.heap.size < w2.heap.size := by omega
      try have hs1w2 : w.heap.size + 1 < w2.heap.size := by omega
      go_wp2_with fail
      go_ret2
      refine ⟨a, decide (a + z ≤ m1), rfl, ?_, ?_, HQ.out.trans hqw2⟩
      · rw [HR.out, ← HA.out]
        by_cases h : a + z ≤ m1
        · rw [if_pos h]; simpa using h
        · rw [if_neg h]; simpa using h
      · intro x hx
        rw [HR.out, ← HA.out] at hx
        split at hx
        · exact Option.some.inj hx
        · cases hx
    · have bn : (a % al != 0) = true := by simpa using e
      have dn : decide (a % al = 0) = false := by simpa using e
      have HA := hide (show a + 1 ≤ u by
        rcases Int.lt_or_eq_of_le hhi with h | h
        · omega
        · exact absurd (by rw [h]; exact HUN.out) e)
      go_wp2_with fail
      go_roundw
      case rel => exact ⟨a + 1, rfl, by omega, HA.out, HQ1.out⟩
      case measure => simp [intOf] <;> omega
set_option maxRecDepth 100000 in
set_option maxHeartbeats 2000000 in
theorem rRoom0_any (v : RV) (z al : Int) (w : World) (H : RmR w v) (N : RmN v.m) (hkd : v.m.kind = 0) (hz0 : 1 ≤ z) (hz1 : z ≤ 4096) (ha0 : 1 ≤ al) (ha1 : al ≤ 16) :
    Calls Tryz.prog 54 #[v.val, .int .i64 z, .int .i64 al] w (RoomPost (scanF (ffR v.m z) (v.m.size - z) al 5000 0) w) := by
  have HFR := hide fun (W : World) (h : Q w W) (a : Int) => isFree_any v a (a + z) (-1) W (H.up h) N
  have HFF : ∀ a, ffR v.m z a = freeR v.m.bl v.m.size a (a + z) (-1) := fun a => rfl
  obtain ⟨R, hR⟩ : ∃ R, R = scanF (ffR v.m z) (v.m.size - z) al 5000 0 := ⟨_, rfl⟩
  obtain ⟨p, hp⟩ : ∃ p, p = ffR v.m z := ⟨_, rfl⟩
  rw [← hR]
  rw [← hp] at hR HFF
  simp only [← HFF] at HFR
  clear HFF hp
  unfold RV.val RV.cells at HFR
  obtain ⟨A, n, c, B, k, d, ⟨m0, m1, m2, bl, ys, m5, m6, m7, m8⟩⟩ := v
  unfold RV.val RV.cells
  dsimp only at H N hkd HFR hR ⊢
  subst hkd
  obtain ⟨hm10, hm11⟩ := N.sz
  obtain ⟨hm20, hm21⟩ := N.pc
  obtain ⟨hm50, hm51⟩ := N.tp
  dsimp only at hm10 hm11 hm20 hm21 hm50 hm51
  clear H N
  obtain ⟨w1, hw1⟩ : ∃ w1, w.alloc (.cells #[.int .i64 0, .int .i64 m1, .int .i64 m2, .slice A n c, .slice B k d, .int .i64 m5, .int .i64 m6, .int .i64 m7, .int .i64 m8] 32) = w1 := ⟨_, rfl⟩
  have hq1 : Q w w1 := by rw [← hw1]; exact (Q.refl w).alloc _
  have hs1 : w.heap.size < w1.heap.size := by rw [← hw1]; simp
  have KB0 := hide (show w1.cell? ⟨w.heap.size, 0, none⟩ = some (.int .i64 0) by rw [← hw1]; simp)
  have KB1 := hide (show w1.cell? ⟨w.heap.size, 1, none⟩ = some (.int .i64 m1) by rw [← hw1]; simp)
  have KB2 := hide (show w1.cell? ⟨w.heap.size, 2, none⟩ = some (.int .i64 m2) by rw [← hw1]; simp)
  have KB3 := hide (show w1.cell? ⟨w.heap.size, 3, none⟩ = some (.slice A n c) by rw [← hw1]; simp)
  have KB4 := hide (show w1.cell? ⟨w.heap.size, 4, none⟩ = some (.slice B k d) by rw [← hw1]; simp)
  have KB5 := hide (show w1.cell? ⟨w.heap.size, 5, none⟩ = some (.int .i64 m5) by rw [← hw1]; simp)
  have KB6 := hide (show w1.cell? ⟨w.heap.size, 6, none⟩ = some (.int .i64 m6) by rw [← hw1]; simp)
  have KB7 := hide (show w1.cell? ⟨w.heap.size, 7, none⟩ = some (.int .i64 m7) by rw [← hw1]; simp)
  have KB8 := hide (show w1.cell? ⟨w.heap.size, 8, none⟩ = some (.int .i64 m8) by rw [← hw1]; simp)
  have HW1 := hide hw1
  clear hw1
  have HR := hide hR
  clear hR
  go_enter Tryz.func54, Tryz.ntmps54
  go_wp2_with fail
  rw [HW1.out]
  go_loopw [10] (fun va wr => ∃ (f : Nat) (a : Int), va = .int .i64 a ∧ 0 ≤ a ∧ a ≤ 5000 ∧ m1 - z - a < f ∧ Hid (R = scanF p (m1 - z) al f a) ∧ Q w1 wr) (fun va _ => (6000 - intOf va).toNat)
  case atStart => exact ⟨5000, 0, by go_num, by omega, by omega, by omega, HR.out, Q.refl _⟩
  case round =>
    obtain ⟨f, a, rfl, hlo, hhi, hfu, HS, hq⟩ := hrel
    have hsz := hq.size
    have k0 := (hq.facts.1 _ 0 hs1).trans KB0.out
    have k1 := (hq.facts.1 _ 1 hs1).trans KB1.out
    have k2 := (hq.facts.1 _ 2 hs1).trans KB2.out
    have k3 := (hq.facts.1 _ 3 hs1).trans KB3.out
    have k4 := (hq.facts.1 _ 4 hs1).trans KB4.out
    have k5 := (hq.facts.1 _ 5 hs1).trans KB5.out
    have k6 := (hq.facts.1 _ 6 hs1).trans KB6.out
    have k7 := (hq.facts.1 _ 7 hs1).trans KB7.out
    have k8 := (hq.facts.1 _ 8 hs1).trans KB8.out
    have hsg : w.heap.size < wr.heap.size := by omega
    have HQ := hide (hq1.trans hq)
    have HQ1 := hide hq
    clear hq
    by_cases hlt : a + z ≤ m1
    · have dl : decide (a + z ≤ m1) = true := by simpa using hlt
      obtain ⟨f', rfl⟩ : ∃ f', f = f' + 1 := ⟨f - 1, by omega⟩
      have hs := HS.out
      rw [scanF, if_neg (by omega)] at hs
      have HC := hide (HFR.out wr HQ.out a)
      obtain ⟨b, hbb⟩ : ∃ b, b = p a := ⟨_, rfl⟩
      rw [← hbb] at hs HC
      clear hbb
      cases b
      · have HS2 : Hid (R = scanF p (m1 - z) al f' (a + al)) := hide (by simpa using hs)
        clear hs HS
        go_wp2_with (go_at_call 74; refine HC.out.mono ?_; rintro e w3 ⟨rfl, hq3⟩)
        go_roundw
        case rel => exact ⟨f', a + al, rfl, by omega, by omega, by omega, HS2, HQ1.out.trans hq3⟩
        case measure => simp [intOf] <;> omega
      · have HS2 : Hid (R = some a) := hide (by simpa using hs)
        clear hs HS
        go_wp2_with (go_at_call 74; refine HC.out.mono ?_; rintro e w3 ⟨rfl, hq3⟩)
        go_ret2
        exact ⟨a, true, rfl, by rw [HS2.out]; rfl, fun x hx => by rw [HS2.out] at hx; exact Option.some.inj hx, HQ.out.trans hq3⟩
    · have dl : decide (a + z ≤ m1) = false := by simpa using hlt
      have hs := HS.out
      have hR : R = none := by
        rw [hs]
        cases f with
        | zero => rfl
        | succ f => rw [scanF, if_pos (by omega)]
      have HR2 := hide hR
      clear hR hs
      go_wp2_with fail
      go_ret2
      exact ⟨0, false, rfl, by rw [HR2.out]; rfl, fun x hx => (by rw [HR2.out] at hx; cases hx), HQ.out⟩
set_option maxRecDepth 100000 in
set_option maxHeartbeats 2000000 in
theorem rRoom3_any (v : RV) (z al : Int) (w : World) (H : RmR w v) (N : RmN v.m) (hkd : v.m.kind = 3) (hz0 : 1 ≤ z) (hz1 : z ≤ 4096) (ha0 : 1 ≤ al) (ha1 : al ≤ 16) (hpc : 1 ≤ v.m.piece) :
    Calls Tryz.prog 54 #[v.val, .int .i64 z, .int .i64 al] w (RoomPost (scanF (plR v.m z al) (v.m.size - v.m.piece) v.m.piece 5000 0) w) := by
  have HFR := hide fun (W : World) (h : Q w W) (a : Int) => begins_any v a W (H.up h) N
  obtain ⟨ix, hix⟩ : ∃ ix : Int → Int, ix = fun a => idxI (fun p => p.1 == a) v.m.bl := ⟨_, rfl⟩
  have HFF : ∀ a, idxI (fun p => p.1 == a) v.m.bl = ix a := fun a => by rw [hix]
  have HPP : ∀ a, plR v.m z al a = (decide (ix a < 0) && decide (z ≤ v.m.piece) && decide (a % al = 0)) := fun a => by rw [hix]; rfl
  obtain ⟨R, hR⟩ : ∃ R, R = scanF (plR v.m z al) (v.m.size - v.m.piece) v.m.piece 5000 0 := ⟨_, rfl⟩
  obtain ⟨p, hp⟩ : ∃ p, p = plR v.m z al := ⟨_, rfl⟩
  rw [← hR]
  rw [← hp] at hR HPP
  simp only [HFF] at HFR
  clear HFF hp hix
  unfold RV.val RV.cells at HFR
  obtain ⟨A, n, c, B, k, d, ⟨m0, m1, m2, bl, ys, m5, m6, m7, m8⟩⟩ := v
  unfold RV.val RV.cells
  dsimp only at H N hkd HFR hR HPP hpc ⊢
  subst hkd
  obtain ⟨hm10, hm11⟩ := N.sz
  obtain ⟨hm20, hm21⟩ := N.pc
  obtain ⟨hm50, hm51⟩ := N.tp
  dsimp only at hm10 hm11 hm20 hm21 hm50 hm51
  clear H N
  obtain ⟨w1, hw1⟩ : ∃ w1, w.alloc (.cells #[.int .i64 3, .int .i64 m1, .int .i64 m2, .slice A n c, .slice B k d, .int .i64 m5, .int .i64 m6, .int .i64 m7, .int .i64 m8] 32) = w1 := ⟨_, rfl⟩
  have hq1 : Q w w1 := by rw [← hw1]; exact (Q.refl w).alloc _
  have hs1 : w.heap.size < w1.heap.size := by rw [← hw1]; simp
  have KB0 := hide (show w1.cell? ⟨w.heap.size, 0, none⟩ = some (.int .i64 3) by rw [← hw1]; simp)
  have KB1 := hide (show w1.cell? ⟨w.heap.size, 1, none⟩ = some (.int .i64 m1) by rw [← hw1]; simp)
  have KB2 := hide (show w1.cell? ⟨w.heap.size, 2, none⟩ = some (.int .i64 m2) by rw [← hw1]; simp)
  have KB3 := hide (show w1.cell? ⟨w.heap.size, 3, none⟩ = some (.slice A n c) by rw [← hw1]; simp)
  have KB4 := hide (show w1.cell? ⟨w.heap.size, 4, none⟩ = some (.slice B k d) by rw [← hw1]; simp)
  have KB5 := hide (show w1.cell? ⟨w.heap.size, 5, none⟩ = some (.int .i64 m5) by rw [← hw1]; simp)
  have KB6 := hide (show w1.cell? ⟨w.heap.size, 6, none⟩ = some (.int .i64 m6) by rw [← hw1]; simp)
  have KB7 := hide (show w1.cell? ⟨w.heap.size, 7, none⟩ = some (.int .i64 m7) by rw [← hw1]; simp)
  have KB8 := hide (show w1.cell? ⟨w.heap.size, 8, none⟩ = some (.int .i64 m8) by rw [← hw1]; simp)
  have HW1 := hide hw1
  clear hw1
  have HR := hide hR
  have HPH := hide HPP
  have hal : al ≠ 0 := by omega
  clear hR HPP
  go_enter Tryz.func54, Tryz.ntmps54
  go_wp2_with fail
  rw [HW1.out]
  go_loopw [9] (fun va wr => ∃ (f : Nat) (a : Int), va = .int .i64 a ∧ 0 ≤ a ∧ a ≤ 9000 ∧ m1 - m2 - a < f ∧ Hid (R = scanF p (m1 - m2) m2 f a) ∧ Q w1 wr) (fun va _ => (10000 - intOf va).toNat)
  case atStart => exact ⟨5000, 0, by go_num, by omega, by omega, by omega, HR.out, Q.refl _⟩
  case round =>
    obtain ⟨f, a, rfl, hlo, hhi, hfu, HS, hq⟩ := hrel
    have hsz := hq.size
    have k0 := (hq.facts.1 _ 0 hs1).trans KB0.out
    have k1 := (hq.facts.1 _ 1 hs1).trans KB1.out
    have k2 := (hq.facts.1 _ 2 hs1).trans KB2.out
    have k3 := (hq.facts.1 _ 3 hs1).trans KB3.out
    have k4 := (hq.facts.1 _ 4 hs1).trans KB4.out
    have k5 := (hq.facts.1 _ 5 hs1).trans KB5.out
    have k6 := (hq.facts.1 _ 6 hs1).trans KB6.out
    have k7 := (hq.facts.1 _ 7 hs1).trans KB7.out
    have k8 := (hq.facts.1 _ 8 hs1).trans KB8.out
    have hsg : w.heap.size < wr.heap.size := by omega
    have HQ := hide (hq1.trans hq)
    have HQ1 := hide hq
    clear hq
    by_cases hlt : a + m2 ≤ m1
    · have dl : decide (a + m2 ≤ m1) = true := by simpa using hlt
      obtain ⟨f', rfl⟩ : ∃ f', f = f' + 1 := ⟨f - 1, by omega⟩
      have hs := HS.out
      rw [scanF, if_neg (by omega), HPH.out] at hs
      have HC := hide (HFR.out wr HQ.out a)
      obtain ⟨x, hx⟩ : ∃ x, x = ix a := ⟨_, rfl⟩
      rw [← hx] at hs HC
      clear hx
      have htm : a.tmod al = a % al := Int.tmod_eq_emod_of_nonneg (by omega)
      have hb0 : 0 ≤ a % al := Int.emod_nonneg _ hal
      have hb1 : a % al < al := Int.emod_lt_of_pos _ (by omega)
      have NEXT : ∀ (hno : (decide (x < 0) && decide (z ≤ m2) && decide (a % al = 0)) = false), R = scanF p (m1 - m2) m2 f' (a + m2) := fun hno => by
        rw [hno] at hs
        simpa using hs
      by_cases e1 : x < 0
      · have d1 : decide (x < 0) = true := by simpa using e1
        by_cases e2 : z ≤ m2
        · have d2 : decide (z ≤ m2) = true := by simpa using e2
          by_cases e3 : a % al = 0
          · have d3 : decide (a % al = 0) = true := by simpa using e3
            have b3 : (a % al == 0) = true := by simpa using e3
            have HS2 : Hid (R = some a) := hide (by rw [d1, d2, d3] at hs; simpa using hs)
            clear hs HS NEXT e3
            go_wp2_with (go_at_call 58; refine HC.out.mono ?_; rintro e w3 ⟨rfl, hq3⟩; have k1 := (hq3.facts.1 _ 1 hsg).trans k1; have k2 := (hq3.facts.1 _ 2 hsg).trans k2)
            go_ret2
            exact ⟨a, true, rfl, by rw [HS2.out]; rfl, fun x hx => by rw [HS2.out] at hx; exact Option.some.inj hx, HQ.out.trans hq3⟩
          · have d3 : decide (a % al = 0) = false := by simpa using e3
            have b3 : (a % al == 0) = false := by simpa using e3
            have HS2 := hide (NEXT (by rw [d3]; simp))
            clear hs HS NEXT
            go_wp2_with (go_at_call 58; refine HC.out.mono ?_; rintro e w3 ⟨rfl, hq3⟩; have k1 := (hq3.facts.1 _ 1 hsg).trans k1; have k2 := (hq3.facts.1 _ 2 hsg).trans k2)
            go_roundw
            case rel => exact ⟨f', a + m2, rfl, by omega, by omega, by omega, HS2, HQ1.out.trans hq3⟩
            case measure => simp [intOf] <;> omega
        · have d2 : decide (z ≤ m2) = false := by simpa using e2
          have HS2 := hide (NEXT (by rw [d2]; simp))
          clear hs HS NEXT
          go_wp2_with (go_at_call 58; refine HC.out.mono ?_; rintro e w3 ⟨rfl, hq3⟩; have k1 := (hq3.facts.1 _ 1 hsg).trans k1; have k2 := (hq3.facts.1 _ 2 hsg).trans k2)
          go_roundw
          case rel => exact ⟨f', a + m2, rfl, by omega, by omega, by omega, HS2, HQ1.out.trans hq3⟩
          case measure => simp [intOf] <;> omega
      · have d1 : decide (x < 0) = false := by simpa using e1
        have HS2 := hide (NEXT (by rw [d1]; simp))
        clear hs HS NEXT
        go_wp2_with (go_at_call 58; refine HC.out.mono ?_; rintro e w3 ⟨rfl, hq3⟩; have k1 := (hq3.facts.1 _ 1 hsg).trans k1; have k2 := (hq3.facts.1 _ 2 hsg).trans k2)
        go_roundw
        case rel => exact ⟨f', a + m2, rfl, by omega, by omega, by omega, HS2, HQ1.out.trans hq3⟩
        case measure => simp [intOf] <;> omega
    · have dl : decide (a + m2 ≤ m1) = false := by simpa using hlt
      have hs := HS.out
      have hR : R = none := by
        rw [hs]
        cases f with
        | zero => rfl
        | succ f => rw [scanF, if_pos (by omega)]
      have HR2 := hide hR
      clear hR hs
      go_wp2_with fail
      go_ret2
      exact ⟨0, false, rfl, by rw [HR2.out]; rfl, fun x hx => (by rw [HR2.out] at hx; cases hx), HQ.out⟩
theorem rRoom_any (v : RV) (z al : Int) (w : World) (H : RmR w v) (N : RmN v.m) (hk : 0 ≤ v.m.kind ∧ v.m.kind ≤ 3) (hpc : v.m.kind = 3 → 1 ≤ v.m.piece) (hz0 : 1 ≤ z) (hz1 : z ≤ 4096) (ha0 : 1 ≤ al) (ha1 : al ≤ 16) :
    Calls Tryz.prog 54 #[v.val, .int .i64 z, .int .i64 al] w (RoomPost (roomR v.m z al) w) := by
  unfold roomR
  by_cases h1 : v.m.kind = 1
  · rw [if_pos (.inl h1)]
    exact rRoom1_any v z al w H N h1 hz0 hz1 ha0 ha1
  by_cases h2 : v.m.kind = 2
  · rw [if_pos (.inr h2)]
    exact rRoom2_any v z al w H N h2 hz0 hz1 ha0 ha1
  rw [if_neg (by omega)]
  by_cases h3 : v.m.kind = 3
  · rw [if_pos h3]
    exact rRoom3_any v z al w H N h3 hz0 hz1 ha0 ha1 (hpc h3)
  rw [if_neg h3]
  exact rRoom0_any v z al w H N (by omega) hz0 hz1 ha0 ha1
end Go.Proofs.YtegpkcbmgjoicaaGreat

namespace Go.Proofs.YtegpkcbmgjoicaaGreat
open Go.RowKit HP
set_option linter.unusedVariables false
section
variable {w0 w : World} {b : Nat} (v0 v1 v2 v3 v4 v5 v6 v7 v8 : Value)
theorem row9 (h : w.heap[b]? = some (.cells #[.int .i64 0, .int .i64 0, .int .i64 0, .slice none 0 0, .slice none 0 0, .int .i64 0, .int .i64 0, .int .i64 0, .int .i64 0] MT (0, 0))) : (((((((((w.setCell ⟨b, 0, none⟩ v0).setCell ⟨b, 1, none⟩ v1).setCell ⟨b, 2, none⟩ v2).setCell ⟨b, 3, none⟩ v3).setCell ⟨b, 4, none⟩ v4).setCell ⟨b, 5, none⟩ v5).setCell ⟨b, 6, none⟩ v6).setCell ⟨b, 7, none⟩ v7).setCell ⟨b, 8, none⟩ v8).heap[b]? = some (.cells #[v0, v1, v2, v3, v4, v5, v6, v7, v8] MT (0, 0)) := by
  have h0 : (w.setCell ⟨b, 0, none⟩ v0).heap[b]? = some (.cells #[v0, .int .i64 0, .int .i64 0, .slice none 0 0, .slice none 0 0, .int .i64 0, .int .i64 0, .int .i64 0, .int .i64 0] MT (0, 0)) := heap_setCell_same _ b 0 _ _ v0 h
  have h1 : ((w.setCell ⟨b, 0, none⟩ v0).setCell ⟨b, 1, none⟩ v1).heap[b]? = some (.cells #[v0, v1, .int .i64 0, .slice none 0 0, .slice none 0 0, .int .i64 0, .int .i64 0, .int .i64 0, .int .i64 0] MT (0, 0)) := heap_setCell_same _ b 1 _ _ v1 h0
  have h2 : (((w.setCell ⟨b, 0, none⟩ v0).setCell ⟨b, 1, none⟩ v1).setCell ⟨b, 2, none⟩ v2).heap[b]? = some (.cells #[v0, v1, v2, .slice none 0 0, .slice none 0 0, .int .i64 0, .int .i64 0, .int .i64 0, .int .i64 0] MT (0, 0)) := heap_setCell_same _ b 2 _ _ v2 h1
  have h3 : ((((w.setCell ⟨b, 0, none⟩ v0).setCell ⟨b, 1, none⟩ v1).setCell ⟨b, 2, none⟩ v2).setCell ⟨b, 3, none⟩ v3).heap[b]? = some (.cells #[v0, v1, v2, v3, .slice none 0 0, .int .i64 0, .int .i64 0, .int .i64 0, .int .i64 0] MT (0, 0)) := heap_setCell_same _ b 3 _ _ v3 h2
  have h4 : (((((w.setCell ⟨b, 0, none⟩ v0).setCell ⟨b, 1, none⟩ v1).setCell ⟨b, 2, none⟩ v2).setCell ⟨b, 3, none⟩ v3).setCell ⟨b, 4, none⟩ v4).heap[b]? = some (.cells #[v0, v1, v2, v3, v4, .int .i64 0, .int .i64 0, .int .i64 0, .int .i64 0] MT (0, 0)) := heap_setCell_same _ b 4 _ _ v4 h3
  have h5 : ((((((w.setCell ⟨b, 0, none⟩ v0).setCell ⟨b, 1, none⟩ v1).setCell ⟨b, 2, none⟩ v2).setCell ⟨b, 3, none⟩ v3).setCell ⟨b, 4, none⟩ v4).setCell ⟨b, 5, none⟩ v5).heap[b]? = some (.cells #[v0, v1, v2, v3, v4, v5, .int .i64 0, .int .i64 0, .int .i64 0] MT (0, 0)) := heap_setCell_same _ b 5 _ _ v5 h4
  have h6 : (((((((w.setCell ⟨b, 0, none⟩ v0).setCell ⟨b, 1, none⟩ v1).setCell ⟨b, 2, none⟩ v2).setCell ⟨b, 3, none⟩ v3).setCell ⟨b, 4, none⟩ v4).setCell ⟨b, 5, none⟩ v5).setCell ⟨b, 6, none⟩ v6).heap[b]? = some (.cells #[v0, v1, v2, v3, v4, v5, v6, .int .i64 0, .int .i64 0] MT (0, 0)) := heap_setCell_same _ b 6 _ _ v6 h5
  have h7 : ((((((((w.setCell ⟨b, 0, none⟩ v0).setCell ⟨b, 1, none⟩ v1).setCell ⟨b, 2, none⟩ v2).setCell ⟨b, 3, none⟩ v3).setCell ⟨b, 4, none⟩ v4).setCell ⟨b, 5, none⟩ v5).setCell ⟨b, 6, none⟩ v6).setCell ⟨b, 7, none⟩ v7).heap[b]? = some (.cells #[v0, v1, v2, v3, v4, v5, v6, v7, .int .i64 0] MT (0, 0)) := heap_setCell_same _ b 7 _ _ v7 h6
  have h8 : (((((((((w.setCell ⟨b, 0, none⟩ v0).setCell ⟨b, 1, none⟩ v1).setCell ⟨b, 2, none⟩ v2).setCell ⟨b, 3, none⟩ v3).setCell ⟨b, 4, none⟩ v4).setCell ⟨b, 5, none⟩ v5).setCell ⟨b, 6, none⟩ v6).setCell ⟨b, 7, none⟩ v7).setCell ⟨b, 8, none⟩ v8).heap[b]? = some (.cells #[v0, v1, v2, v3, v4, v5, v6, v7, v8] MT (0, 0)) := heap_setCell_same _ b 8 _ _ v8 h7
  exact h8
theorem q9 (h : Q w0 w) (hb : w0.heap.size ≤ b) : Q w0 (((((((((w.setCell ⟨b, 0, none⟩ v0).setCell ⟨b, 1, none⟩ v1).setCell ⟨b, 2, none⟩ v2).setCell ⟨b, 3, none⟩ v3).setCell ⟨b, 4, none⟩ v4).setCell ⟨b, 5, none⟩ v5).setCell ⟨b, 6, none⟩ v6).setCell ⟨b, 7, none⟩ v7).setCell ⟨b, 8, none⟩ v8) :=
  ((((((((h.set hb _).set hb _).set hb _).set hb _).set hb _).set hb _).set hb _).set hb _).set hb _
theorem own9 {B e s : Nat} {v : Value} {n : Nat} {xs : List Value} (h : w.ownsRow B e s v n xs) (hb : b < B) : (((((((((w.setCell ⟨b, 0, none⟩ v0).setCell ⟨b, 1, none⟩ v1).setCell ⟨b, 2, none⟩ v2).setCell ⟨b, 3, none⟩ v3).setCell ⟨b, 4, none⟩ v4).setCell ⟨b, 5, none⟩ v5).setCell ⟨b, 6, none⟩ v6).setCell ⟨b, 7, none⟩ v7).setCell ⟨b, 8, none⟩ v8).ownsRow B e s v n xs := by
  refine own_same h fun g hg => ?_
  have hne : g ≠ b := by
    rcases h.2 with ⟨rfl, _⟩ | ⟨g', cap, cur, rfl, hB, _⟩
    · cases hg
    · cases hg
      show g' ≠ b
      omega
  rw [heap_setCell_other _ _ _ _ hne, heap_setCell_other _ _ _ _ hne, heap_setCell_other _ _ _ _ hne, heap_setCell_other _ _ _ _ hne, heap_setCell_other _ _ _ _ hne, heap_setCell_other _ _ _ _ hne, heap_setCell_other _ _ _ _ hne, heap_setCell_other _ _ _ _ hne, heap_setCell_other _ _ _ _ hne]
theorem own1 {B e s j : Nat} {u : Value} {v : Value} {n : Nat} {xs : List Value} (h : w.ownsRow B e s v n xs) (hb : b < B) : (w.setCell ⟨b, j, none⟩ u).ownsRow B e s v n xs := by
  refine own_same h fun g hg => ?_
  have hne : g ≠ b := by
    rcases h.2 with ⟨rfl, _⟩ | ⟨g', cap, cur, rfl, hB, _⟩
    · cases hg
    · cases hg
      show g' ≠ b
      omega
  rw [heap_setCell_other _ _ _ _ hne]
end
theorem own_none {w : World} {B e s n c n' : Nat} {xs : List Value} (h : w.ownsRow B e s (.slice none n c) n' xs) : n = 0 ∧ c = 0 := by
  rcases h.2 with ⟨h1, _⟩ | ⟨g', cap, cur, h1, _⟩
  · cases h1
    exact ⟨rfl, rfl⟩
  · cases h1
def goneR (m : RM) (k : Nat) (x : Int) : RM := { m with bl := m.bl.eraseIdx k, top := if m.kind = 2 ∧ k + 1 = m.bl.length then x else m.top }
theorem gone_same {bl : List (Int × Int)} {k : Nat} : (bl.take (k + 1)).eraseIdx k = (bl.take k).eraseIdx k := by
  rw [List.eraseIdx_of_length_le (l := bl.take k) (by rw [List.length_take]; omega)]
  rcases Nat.lt_or_ge k bl.length with h | h
  · rw [List.take_succ_eq_append_getElem h, List.eraseIdx_append_of_length_le (by rw [List.length_take]; omega)]
    rw [List.length_take, Nat.min_eq_left (by omega)]
    simp
  · rw [List.take_of_length_le (by omega), List.take_of_length_le h, List.eraseIdx_of_length_le h]
theorem gone_step {bl : List (Int × Int)} {k i : Nat} {p : Int × Int} (h : bl[i]? = some p) (hne : i ≠ k) : (bl.take (i + 1)).eraseIdx k = (bl.take i).eraseIdx k ++ [p] := by
  obtain ⟨hi, e⟩ := List.getElem?_eq_some_iff.1 h
  rw [List.take_succ_eq_append_getElem hi, e]
  rcases Nat.lt_or_ge k i with h1 | h1
  · rw [List.eraseIdx_append_of_lt_length (by rw [List.length_take]; omega)]
  · rw [List.eraseIdx_of_length_le (by rw [List.length_append, List.length_take]; simp; omega), List.eraseIdx_of_length_le (by rw [List.length_take]; omega)]
set_option maxRecDepth 100000 in
set_option maxHeartbeats 4000000 in
theorem rGone_any (v : RV) (j : Nat) (x y : Int) (w : World) (H : RmR w v) (N : RmN v.m) (hj : v.m.bl[j]? = some (x, y)) : Calls Tryz.prog 59 #[v.val, .int .i64 (j : Int)] w fun e w' => ∃ v', e = .returned v'.val ∧ v'.m = goneR v.m j x ∧ RmR w' v' ∧ v'.B = v.B ∧ v'.k = v.k ∧ v'.d = v.d ∧ w'.ownsRow w.heap.size 88 2 (.slice v'.A v'.n v'.c) v'.n (v'.m.bl.flatMap encP) ∧ Q w w' := by
  have hxy := N.all _ (List.mem_of_getElem? hj)
  dsimp only at hxy
  obtain ⟨hx0, hy0, hxy⟩ := hxy
  obtain ⟨A, n, c, B, k, d, ⟨m0, m1, m2, bl, ys, m5, m6, m7, m8⟩⟩ := v
  unfold RV.val RV.cells
  dsimp only at H N hj hxy ⊢
  have hl := H.b.len
  dsimp only at hl
  have hn := N.n
  dsimp only at hn
  have hsz := N.sz.2
  dsimp only at hsz
  have HS := hide (show Sl 2 encP w A n c bl from H.b)
  have HRM := hide H
  have HL := hide hl
  have HP := hide (show ∀ p ∈ bl, 0 ≤ p.1 ∧ 0 ≤ p.2 ∧ p.1 + p.2 ≤ m1 from N.all)
  have hni : (n : Int) ≤ 100 := by omega
  have hjn : j < n := by
    have := (List.getElem?_eq_some_iff.1 hj).1
    omega
  have hji : (j : Int) < (n : Int) := by omega
  have hjj : (j : Int) ≤ 100 := by omega
  have hd0 : decide (j < n) = true := by simpa using hjn
  obtain ⟨b1, o1, x', y', rfl, hb1, g1, x1, x2⟩ := HS.out.pr j hjn
  rw [hj] at g1
  cases g1
  obtain ⟨w1, hw1⟩ : ∃ w1, ((w.alloc (.cells #[.int .i64 m0, .int .i64 m1, .int .i64 m2, .slice (some ⟨b1, o1, none⟩) n c, .slice B k d, .int .i64 m5, .int .i64 m6, .int .i64 m7, .int .i64 m8] MT)).alloc (.cells #[.int .i64 0, .int .i64 0, .int .i64 0, .slice none 0 0, .slice none 0 0, .int .i64 0, .int .i64 0, .int .i64 0, .int .i64 0] MT)).alloc (.cells #[.int .i64 x, .int .i64 y] 88) = w1 := ⟨_, rfl⟩
  have hq1 : Q w w1 := by rw [← hw1]; exact (((Q.refl w).alloc _).alloc _).alloc _
  have hs2 : w.heap.size + 2 < w1.heap.size := by rw [← hw1]; simp
  have hs1 : w.heap.size + 1 < w1.heap.size := by omega
  have hs0 : w.heap.size < w1.heap.size := by omega
  have hr0 : w1.heap[w.heap.size]? = some (.cells #[.int .i64 m0, .int .i64 m1, .int .i64 m2, .slice (some ⟨b1, o1, none⟩) n c, .slice B k d, .int .i64 m5, .int .i64 m6, .int .i64 m7, .int .i64 m8] MT (0, 0)) := by
    rw [← hw1, (((Q.refl (w.alloc _)).alloc _).alloc _).below.block _ (by simp)]
    exact heap_alloc_new w _
  have hr1 : w1.heap[w.heap.size + 1]? = some (.cells #[.int .i64 0, .int .i64 0, .int .i64 0, .slice none 0 0, .slice none 0 0, .int .i64 0, .int .i64 0, .int .i64 0, .int .i64 0] MT (0, 0)) := by
    rw [← hw1, ((Q.refl ((w.alloc _).alloc _)).alloc _).below.block _ (by simp)]
    have h := heap_alloc_new (w.alloc (.cells #[.int .i64 m0, .int .i64 m1, .int .i64 m2, .slice (some ⟨b1, o1, none⟩) n c, .slice B k d, .int .i64 m5, .int .i64 m6, .int .i64 m7, .int .i64 m8] MT)) (.cells #[.int .i64 0, .int .i64 0, .int .i64 0, .slice none 0 0, .slice none 0 0, .int .i64 0, .int .i64 0, .int .i64 0, .int .i64 0] MT)
    rwa [show (w.alloc (.cells #[.int .i64 m0, .int .i64 m1, .int .i64 m2, .slice (some ⟨b1, o1, none⟩) n c, .slice B k d, .int .i64 m5, .int .i64 m6, .int .i64 m7, .int .i64 m8] MT)).heap.size = w.heap.size + 1 by simp] at h
  have hr2 : w1.cell? ⟨w.heap.size + 2, 0, none⟩ = some (.int .i64 x) := by
    have h := cell_new ((w.alloc (.cells #[.int .i64 m0, .int .i64 m1, .int .i64 m2, .slice (some ⟨b1, o1, none⟩) n c, .slice B k d, .int .i64 m5, .int .i64 m6, .int .i64 m7, .int .i64 m8] MT)).alloc (.cells #[.int .i64 0, .int .i64 0, .int .i64 0, .slice none 0 0, .slice none 0 0, .int .i64 0, .int .i64 0, .int .i64 0, .int .i64 0] MT)) #[.int .i64 x, .int .i64 y] 88 0
    rw [hw1, show ((w.alloc (.cells #[.int .i64 m0, .int .i64 m1, .int .i64 m2, .slice (some ⟨b1, o1, none⟩) n c, .slice B k d, .int .i64 m5, .int .i64 m6, .int .i64 m7, .int .i64 m8] MT)).alloc (.cells #[.int .i64 0, .int .i64 0, .int .i64 0, .slice none 0 0, .slice none 0 0, .int .i64 0, .int .i64 0, .int .i64 0, .int .i64 0] MT)).heap.size = w.heap.size + 2 by simp] at h
    exact h
  have HW1 := hide hw1
  have HJ := hide hj
  clear H N hl hn hj hw1
  go_enter Tryz.func59, Tryz.ntmps59
  go_wp2_with fail
  rw [HW1.out]
  obtain ⟨T2, hT2⟩ : ∃ T2, T2 = fun (i : Nat) => (bl.take i).eraseIdx j := ⟨_, rfl⟩
  have HT2 := hide hT2
  have hT20 : T2 0 = [] := by rw [hT2]; simp
  have HTS := hide (show T2 (j + 1) = T2 j by rw [hT2]; exact gone_same)
  have HTN := hide (show ∀ (i : Nat) (p : Int × Int), bl[i]? = some p → i ≠ j → T2 (i + 1) = T2 i ++ [p] from fun i p h hne => by rw [hT2]; exact gone_step h hne)
  have HTL := hide (show ∀ i, i ≤ n → (T2 i).length ≤ 100 from fun i hi => by
    rw [hT2]
    have h1 := List.length_eraseIdx_le (bl.take i) j
    have h2 : (bl.take i).length ≤ i := by rw [List.length_take]; omega
    dsimp only
    omega)
  have HTE := hide (show T2 n = bl.eraseIdx j by rw [hT2]; dsimp only; rw [List.take_of_length_le (by have := HL.out; omega)])
  have HR0 := hide hr0
  have HR1 := hide hr1
  have HR2 := hide hr2
  clear hT2 hr0 hr1 hr2
  go_loopw [6, 7] (fun vs vi wr => ∃ i : Nat, i ≤ n ∧ vi = .int .i64 (i : Int) ∧ wr.ownsRow w1.heap.size 88 2 vs (T2 i).length ((T2 i).flatMap encP) ∧ Q w1 wr) (fun _ vi _ => n - (intOf vi).toNat)
  case atStart => exact ⟨0, by omega, by go_num, by rw [hT20]; exact World.ownsRow_nil _ _ _ _, Q.refl _⟩
  case round =>
    obtain ⟨i, hi, rfl, hown, hq⟩ := hrel
    clear hT20
    have hsz := hq.size
    have q0 := (hq.below.block _ hs0).trans HR0.out
    have q1 := (hq.below.block _ hs1).trans HR1.out
    obtain ⟨Ao, co, eo, ho1, ho2, ho3, -⟩ := own_form hown
    subst eo
    by_cases hlt : i < n
    · have hd1 : decide ((i : Int) < (n : Int)) = true := by simp; omega
      have hd0 : decide (i < n) = true := by simp; omega
      have hlti : (i : Int) < (n : Int) := by omega
      obtain ⟨_, _, x3, y3, e3, hb3, g3, z1, z2⟩ := (HS.out.up (hq1.trans hq)).pr i hlt
      cases e3
      have k3 : wr.cell? ⟨w.heap.size, 3, none⟩ = some (.slice (some ⟨b1, o1, none⟩) n c) := by rw [cell_of_row _ _ _ _ _ _ q0]; rfl
      have HQ := hide hq
      clear q0 q1 ho3
      by_cases e1 : i = j
      · subst e1
        have bn1 : ((i : Int) != (i : Int)) = false := by simp
        have HOW := hide hown
        clear hown hq g3
        go_wp2_with fail
        go_roundw
        case rel => exact ⟨i + 1, by omega, by go_num, by rw [HTS.out]; exact HOW.out, HQ.out⟩
        case measure => simp [intOf] <;> omega
      · have bn1 : ((i : Int) != (j : Int)) = true := by simp; omega
        have dn1 : decide ((i : Int) = (j : Int)) = false := by simp; omega
        have HT := hide (HTN.out i _ g3 e1)
        have hln := HTL.out i hi
        clear g3 hq
        go_wp2_with (at_builtin; (refine wpList_app1 rfl El_pair _ _ rfl rfl hown (by simp) rfl rfl ?_ ?_ ?_ ?_; (focus (simp [Value.oneCell'])); (focus omega); (focus omega); intro v1 w5 hown5 hb5))
        go_roundw
        case rel => exact ⟨i + 1, by omega, by go_num, by rw [HT.out, List.length_append, List.flatMap_append]; exact hown5, q_below HQ.out hb5 (Nat.le_refl _)⟩
        case measure => simp [intOf] <;> omega
    · have hd1 : decide ((i : Int) < (n : Int)) = false := by simp; omega
      have hd0 : decide (i < n) = false := by simp; omega
      obtain rfl : i = n := by omega
      have hrs : wr.cell? ⟨w.heap.size + 2, 0, none⟩ = some (.int .i64 x) := (hq.facts.1 _ 0 hs2).trans HR2.out
      have k0 : wr.cell? ⟨w.heap.size, 0, none⟩ = some (.int .i64 m0) := by rw [cell_of_row _ _ _ _ _ _ q0]; rfl
      have k1 : wr.cell? ⟨w.heap.size, 1, none⟩ = some (.int .i64 m1) := by rw [cell_of_row _ _ _ _ _ _ q0]; rfl
      have k2 : wr.cell? ⟨w.heap.size, 2, none⟩ = some (.int .i64 m2) := by rw [cell_of_row _ _ _ _ _ _ q0]; rfl
      have k3 : wr.cell? ⟨w.heap.size, 3, none⟩ = some (.slice (some ⟨b1, o1, none⟩) i c) := by rw [cell_of_row _ _ _ _ _ _ q0]; rfl
      have k4 : wr.cell? ⟨w.heap.size, 4, none⟩ = some (.slice B k d) := by rw [cell_of_row _ _ _ _ _ _ q0]; rfl
      have k5 : wr.cell? ⟨w.heap.size, 5, none⟩ = some (.int .i64 m5) := by rw [cell_of_row _ _ _ _ _ _ q0]; rfl
      have k6 : wr.cell? ⟨w.heap.size, 6, none⟩ = some (.int .i64 m6) := by rw [cell_of_row _ _ _ _ _ _ q0]; rfl
      have k7 : wr.cell? ⟨w.heap.size, 7, none⟩ = some (.int .i64 m7) := by rw [cell_of_row _ _ _ _ _ _ q0]; rfl
      have k8 : wr.cell? ⟨w.heap.size, 8, none⟩ = some (.int .i64 m8) := by rw [cell_of_row _ _ _ _ _ _ q0]; rfl
      have f3 : wr.frozen? ⟨w.heap.size, 3, none⟩ = false := frozen_of_row _ _ _ _ _ q0
      have f5 : wr.frozen? ⟨w.heap.size, 5, none⟩ = false := frozen_of_row _ _ _ _ _ q0
      have z0 : wr.cell? ⟨w.heap.size + 1, 0, none⟩ = some (.int .i64 0) := by rw [cell_of_row _ _ _ _ _ _ q1]; rfl
      have y0 : wr.frozen? ⟨w.heap.size + 1, 0, none⟩ = false := frozen_of_row _ _ _ _ _ q1
      have z1 : wr.cell? ⟨w.heap.size + 1, 1, none⟩ = some (.int .i64 0) := by rw [cell_of_row _ _ _ _ _ _ q1]; rfl
      have y1 : wr.frozen? ⟨w.heap.size + 1, 1, none⟩ = false := frozen_of_row _ _ _ _ _ q1
      have z2 : wr.cell? ⟨w.heap.size + 1, 2, none⟩ = some (.int .i64 0) := by rw [cell_of_row _ _ _ _ _ _ q1]; rfl
      have y2 : wr.frozen? ⟨w.heap.size + 1, 2, none⟩ = false := frozen_of_row _ _ _ _ _ q1
      have z3 : wr.cell? ⟨w.heap.size + 1, 3, none⟩ = some (.slice none 0 0) := by rw [cell_of_row _ _ _ _ _ _ q1]; rfl
      have y3 : wr.frozen? ⟨w.heap.size + 1, 3, none⟩ = false := frozen_of_row _ _ _ _ _ q1
      have z4 : wr.cell? ⟨w.heap.size + 1, 4, none⟩ = some (.slice none 0 0) := by rw [cell_of_row _ _ _ _ _ _ q1]; rfl
      have y4 : wr.frozen? ⟨w.heap.size + 1, 4, none⟩ = false := frozen_of_row _ _ _ _ _ q1
      have z5 : wr.cell? ⟨w.heap.size + 1, 5, none⟩ = some (.int .i64 0) := by rw [cell_of_row _ _ _ _ _ _ q1]; rfl
      have y5 : wr.frozen? ⟨w.heap.size + 1, 5, none⟩ = false := frozen_of_row _ _ _ _ _ q1
      have z6 : wr.cell? ⟨w.heap.size + 1, 6, none⟩ = some (.int .i64 0) := by rw [cell_of_row _ _ _ _ _ _ q1]; rfl
      have y6 : wr.frozen? ⟨w.heap.size + 1, 6, none⟩ = false := frozen_of_row _ _ _ _ _ q1
      have z7 : wr.cell? ⟨w.heap.size + 1, 7, none⟩ = some (.int .i64 0) := by rw [cell_of_row _ _ _ _ _ _ q1]; rfl
      have y7 : wr.frozen? ⟨w.heap.size + 1, 7, none⟩ = false := frozen_of_row _ _ _ _ _ q1
      have z8 : wr.cell? ⟨w.heap.size + 1, 8, none⟩ = some (.int .i64 0) := by rw [cell_of_row _ _ _ _ _ _ q1]; rfl
      have y8 : wr.frozen? ⟨w.heap.size + 1, 8, none⟩ = false := frozen_of_row _ _ _ _ _ q1
      have HOW := hide hown
      have HQ := hide (hq1.trans hq)
      have HQ1 := hide q1
      have hg0 : w.heap.size < wr.heap.size := by omega
      have hg1 : w.heap.size + 1 < wr.heap.size := by omega
      have hg2 : w.heap.size + 2 < wr.heap.size := by omega
      rw [HTE.out] at HOW
      clear hown hq q0 q1 ho3 hsz
      have hln := HTL.out i (Nat.le_refl _)
      rw [HTE.out] at hln ho1
      rw [HTE.out]
      obtain ⟨L, hL⟩ : ∃ L, L = bl.eraseIdx j := ⟨_, rfl⟩
      rw [← hL] at HOW hln ho1 ⊢
      have HLL := hide hL
      clear hL
      by_cases e2 : m0 = 2
      · subst e2
        by_cases e4 : j + 1 = i
        · have b4 : ((j : Int) == (i : Int) - 1) = true := by simp; omega
          have d4 : decide ((j : Int) = (i : Int) - 1) = true := by simp; omega
          have hgm : goneR ⟨2, m1, m2, bl, ys, m5, m6, m7, m8⟩ j x = ⟨2, m1, m2, L, ys, x, m6, m7, m8⟩ := by
            unfold goneR
            dsimp only
            rw [if_pos ⟨rfl, by rw [HL.out]; exact e4⟩, ← HLL.out]
          have HGM := hide hgm
          clear e4 hgm
          go_wp2_with fail
          have hrz : ((wr.setCell ⟨w.heap.size, 5, none⟩ (.int .i64 x)).setCell ⟨w.heap.size, 3, none⟩ (.slice Ao L.length co)).heap[w.heap.size + 1]? = some (.cells #[.int .i64 0, .int .i64 0, .int .i64 0, .slice none 0 0, .slice none 0 0, .int .i64 0, .int .i64 0, .int .i64 0, .int .i64 0] MT (0, 0)) := by
            rw [heap_setCell_other _ _ _ _ (by simp), heap_setCell_other _ _ _ _ (by simp)]
            exact HQ1.out
          have hg := row9 (w := ((wr.setCell ⟨w.heap.size, 5, none⟩ (.int .i64 x)).setCell ⟨w.heap.size, 3, none⟩ (.slice Ao L.length co))) (b := w.heap.size + 1) (.int .i64 2) (.int .i64 m1) (.int .i64 m2) (.slice Ao L.length co) (.slice B k d) (.int .i64 x) (.int .i64 m6) (.int .i64 m7) (.int .i64 m8) hrz
          have hO := own9 (w := ((wr.setCell ⟨w.heap.size, 5, none⟩ (.int .i64 x)).setCell ⟨w.heap.size, 3, none⟩ (.slice Ao L.length co))) (b := w.heap.size + 1) (.int .i64 2) (.int .i64 m1) (.int .i64 m2) (.slice Ao L.length co) (.slice B k d) (.int .i64 x) (.int .i64 m6) (.int .i64 m7) (.int .i64 m8) (own1 (own1 HOW.out hs0) hs0) hs1
          have hF := q9 (w0 := w) (w := ((wr.setCell ⟨w.heap.size, 5, none⟩ (.int .i64 x)).setCell ⟨w.heap.size, 3, none⟩ (.slice Ao L.length co))) (b := w.heap.size + 1) (.int .i64 2) (.int .i64 m1) (.int .i64 m2) (.slice Ao L.length co) (.slice B k d) (.int .i64 x) (.int .i64 m6) (.int .i64 m7) (.int .i64 m8) ((HQ.out.set (Nat.le_refl _) _).set (Nat.le_refl _) _) (by omega)
          refine bodyPost_ret (v := .agg #[(.int .i64 2), (.int .i64 m1), (.int .i64 m2), (.slice Ao L.length co), (.slice B k d), (.int .i64 x), (.int .i64 m6), (.int .i64 m7), (.int .i64 m8)]) (ret_m1 (p := 4) rfl rfl (by simp) hg) rfl ?_
          refine ⟨⟨Ao, L.length, co, B, k, d, ⟨2, m1, m2, L, ys, x, m6, m7, m8⟩⟩, rfl, HGM.out.symm, ⟨Sl.own hO (fun _ => rfl) (by decide), HRM.out.y.up hF, fun h => ?_, HRM.out.yn, TyA.own hO, HRM.out.tb.up hF⟩, rfl, rfl, rfl, own_low hO (by omega), hF⟩
          dsimp only at h
          subst h
          exact own_none hO
        · have b4 : ((j : Int) == (i : Int) - 1) = false := by simp; omega
          have d4 : decide ((j : Int) = (i : Int) - 1) = false := by simp; omega
          have hgm : goneR ⟨2, m1, m2, bl, ys, m5, m6, m7, m8⟩ j x = ⟨2, m1, m2, L, ys, m5, m6, m7, m8⟩ := by
            unfold goneR
            dsimp only
            rw [if_neg (fun h => e4 (by rw [h.2, HL.out])), ← HLL.out]
          have HGM := hide hgm
          clear hgm
          go_wp2_with fail
          have hrz : (wr.setCell ⟨w.heap.size, 3, none⟩ (.slice Ao L.length co)).heap[w.heap.size + 1]? = some (.cells #[.int .i64 0, .int .i64 0, .int .i64 0, .slice none 0 0, .slice none 0 0, .int .i64 0, .int .i64 0, .int .i64 0, .int .i64 0] MT (0, 0)) := by
            rw [heap_setCell_other _ _ _ _ (by simp)]
            exact HQ1.out
          have hg := row9 (w := (wr.setCell ⟨w.heap.size, 3, none⟩ (.slice Ao L.length co))) (b := w.heap.size + 1) (.int .i64 2) (.int .i64 m1) (.int .i64 m2) (.slice Ao L.length co) (.slice B k d) (.int .i64 m5) (.int .i64 m6) (.int .i64 m7) (.int .i64 m8) hrz
          have hO := own9 (w := (wr.setCell ⟨w.heap.size, 3, none⟩ (.slice Ao L.length co))) (b := w.heap.size + 1) (.int .i64 2) (.int .i64 m1) (.int .i64 m2) (.slice Ao L.length co) (.slice B k d) (.int .i64 m5) (.int .i64 m6) (.int .i64 m7) (.int .i64 m8) (own1 HOW.out hs0) hs1
          have hF := q9 (w0 := w) (w := (wr.setCell ⟨w.heap.size, 3, none⟩ (.slice Ao L.length co))) (b := w.heap.size + 1) (.int .i64 2) (.int .i64 m1) (.int .i64 m2) (.slice Ao L.length co) (.slice B k d) (.int .i64 m5) (.int .i64 m6) (.int .i64 m7) (.int .i64 m8) (HQ.out.set (Nat.le_refl _) _) (by omega)
          refine bodyPost_ret (v := .agg #[(.int .i64 2), (.int .i64 m1), (.int .i64 m2), (.slice Ao L.length co), (.slice B k d), (.int .i64 m5), (.int .i64 m6), (.int .i64 m7), (.int .i64 m8)]) (ret_m1 (p := 4) rfl rfl (by simp) hg) rfl ?_
          refine ⟨⟨Ao, L.length, co, B, k, d, ⟨2, m1, m2, L, ys, m5, m6, m7, m8⟩⟩, rfl, HGM.out.symm, ⟨Sl.own hO (fun _ => rfl) (by decide), HRM.out.y.up hF, fun h => ?_, HRM.out.yn, TyA.own hO, HRM.out.tb.up hF⟩, rfl, rfl, rfl, own_low hO (by omega), hF⟩
          dsimp only at h
          subst h
          exact own_none hO
      · have b2 : (m0 == 2) = false := by simpa using e2
        have d2 : decide (m0 = 2) = false := by simpa using e2
        have hgm : goneR ⟨m0, m1, m2, bl, ys, m5, m6, m7, m8⟩ j x = ⟨m0, m1, m2, L, ys, m5, m6, m7, m8⟩ := by
          unfold goneR
          dsimp only
          rw [if_neg (fun h => e2 h.1), ← HLL.out]
        have HGM := hide hgm
        clear hgm
        go_wp2_with fail
        have hrz : (wr.setCell ⟨w.heap.size, 3, none⟩ (.slice Ao L.length co)).heap[w.heap.size + 1]? = some (.cells #[.int .i64 0, .int .i64 0, .int .i64 0, .slice none 0 0, .slice none 0 0, .int .i64 0, .int .i64 0, .int .i64 0, .int .i64 0] MT (0, 0)) := by
          rw [heap_setCell_other _ _ _ _ (by simp)]
          exact HQ1.out
        have hg := row9 (w := (wr.setCell ⟨w.heap.size, 3, none⟩ (.slice Ao L.length co))) (b := w.heap.size + 1) (.int .i64 m0) (.int .i64 m1) (.int .i64 m2) (.slice Ao L.length co) (.slice B k d) (.int .i64 m5) (.int .i64 m6) (.int .i64 m7) (.int .i64 m8) hrz
        have hO := own9 (w := (wr.setCell ⟨w.heap.size, 3, none⟩ (.slice Ao L.length co))) (b := w.heap.size + 1) (.int .i64 m0) (.int .i64 m1) (.int .i64 m2) (.slice Ao L.length co) (.slice B k d) (.int .i64 m5) (.int .i64 m6) (.int .i64 m7) (.int .i64 m8) (own1 HOW.out hs0) hs1
        have hF := q9 (w0 := w) (w := (wr.setCell ⟨w.heap.size, 3, none⟩ (.slice Ao L.length co))) (b := w.heap.size + 1) (.int .i64 m0) (.int .i64 m1) (.int .i64 m2) (.slice Ao L.length co) (.slice B k d) (.int .i64 m5) (.int .i64 m6) (.int .i64 m7) (.int .i64 m8) (HQ.out.set (Nat.le_refl _) _) (by omega)
        refine bodyPost_ret (v := .agg #[(.int .i64 m0), (.int .i64 m1), (.int .i64 m2), (.slice Ao L.length co), (.slice B k d), (.int .i64 m5), (.int .i64 m6), (.int .i64 m7), (.int .i64 m8)]) (ret_m1 (p := 4) rfl rfl (by simp) hg) rfl ?_
        refine ⟨⟨Ao, L.length, co, B, k, d, ⟨m0, m1, m2, L, ys, m5, m6, m7, m8⟩⟩, rfl, HGM.out.symm, ⟨Sl.own hO (fun _ => rfl) (by decide), HRM.out.y.up hF, fun h => ?_, HRM.out.yn, TyA.own hO, HRM.out.tb.up hF⟩, rfl, rfl, rfl, own_low hO (by omega), hF⟩
        dsimp only at h
        subst h
        exact own_none hO
end Go.Proofs.YtegpkcbmgjoicaaGreat
