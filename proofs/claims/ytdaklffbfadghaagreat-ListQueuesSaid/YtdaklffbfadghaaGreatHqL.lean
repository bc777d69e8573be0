/- FailAt, Reset, Used, Peak, Calls. Conditions: the heap reads so, it is unlocked, and its numbers are within bounds. -/
import Derived.Test.YtdaklffbfadghaaGreatHqG
namespace Go.Proofs.YtdaklffbfadghaaGreat
open Go.RowKit HP
set_option linter.unusedVariables false
/-- an act that leaves a heap as r, and returns v -/
def ActR (r : HM) (v : Value) (w : World) (h : Hp) (e : Ending) (w' : World) : Prop := ∃ h', e = .returned v ∧ Did w h w' h' ∧ h'.mu = 0 ∧ h'.m = r
theorem Did.outR {w W : World} {h h2 : Hp} {r : HM} {v : Value} (D : Did w h W h2) (g : Nat) (hg : g = h2.blk) (hm : h2.m = r) : ActR r v w h (.returned v) (W.setCell ⟨g, 0, none⟩ (.int .i32 0)) := by
  subst hg
  exact ⟨_, rfl, D.lock 0, rfl, hm⟩
def failAtM (m : HM) (k : Int) : HM × Int := if 0 ≤ k ∧ k ≤ 1000 then ({ m with failIn := k }, 0) else (m, 1)
def resetM (m : HM) : HM × Int := if m.kind = 1 ∨ m.kind = 2 then ({ m with live := [], top := 0 }, 0) else (m, 7)
/-- the list of live blocks, emptied -/
theorem HpR.clear {w : World} {h : Hp} (H : HpR w h) : HpR (w.setCell ⟨h.blk, 5, none⟩ (.slice none 0 0)) { h with lv := .slice none 0 0, bks := [] } where
  cells := heap_setCell_same w h.blk 5 h.cells _ _ H.cells
  live := ⟨by simp, .inl ⟨rfl, rfl⟩⟩
  rows := fun x hx => by cases hx
  w1 := fun e => (heap_setCell_other _ _ _ _ (H.ne_wb (.inl e))).trans (H.w1 e)
  w2 := fun e => (heap_setCell_other _ _ _ _ (H.ne_wb (.inr e))).trans (H.w2 e)
  apart := List.nodup_nil
theorem Did.clear {w w1 : World} {h h1 : Hp} (a : Did w h w1 h1) : Did w h (w1.setCell ⟨h1.blk, 5, none⟩ (.slice none 0 0)) { h1 with lv := .slice none 0 0, bks := [] } :=
  a.trans ⟨a.rep.clear, (Turn.refl _ _).set (.inl rfl) _, rfl, fun b e => by
    rcases e with e | e | ⟨x, hx, _⟩ | e
    · exact .inl (.inl e)
    · cases e
    · cases hx
    · exact .inl (.inr (.inr (.inr e)))⟩
theorem Did.failsAt {w w1 : World} {h h1 : Hp} (a : Did w h w1 h1) (g : Nat) (hg : h1.blk = g) (x : Int) : Did w h (w1.setCell ⟨g, 9, none⟩ (.int .i64 x)) { h1 with failIn := x } := by subst hg; exact a.fails x
theorem Did.clearAt {w w1 : World} {h h1 : Hp} (a : Did w h w1 h1) (g : Nat) (hg : h1.blk = g) : Did w h (w1.setCell ⟨g, 5, none⟩ (.slice none 0 0)) { h1 with lv := .slice none 0 0, bks := [] } := by subst hg; exact a.clear
theorem HpR.cellAt {w : World} {h : Hp} (H : HpR w h) (g : Nat) (hg : h.blk = g) (j : Nat) : w.cell? ⟨g, j, none⟩ = h.cells[j]? := by subst hg; exact H.cell j
theorem HpR.freeAt {w : World} {h : Hp} (H : HpR w h) (g : Nat) (hg : h.blk = g) (j : Nat) : w.frozen? ⟨g, j, none⟩ = false := by subst hg; exact H.free j
theorem failAt_inv {m : HM} (I : Inv m) (k : Int) : Inv (failAtM m k).1 := by
  unfold failAtM
  split
  · rename_i h
    exact ⟨I.kind, I.fit, I.len, I.top, I.bump, I.piece, I.pool, I.peak, h, I.calls⟩
  · exact I
theorem reset_inv {m : HM} (I : Inv m) : Inv (resetM m).1 := by
  unfold resetM
  split
  · have := I.fit.sz
    have := I.peak
    have := used_nonneg m.live
    exact ⟨I.kind, Fit.nil I.fit.sz, Nat.zero_le _, ⟨Int.le_refl _, by show (0 : Int) ≤ m.size; omega⟩, (fun _ x hx => by cases hx), I.piece, (fun _ x hx => by cases hx), ⟨by show (0 : Int) ≤ m.peak; omega, I.peak.2⟩, I.failIn, I.calls⟩
  · exact I
set_option maxHeartbeats 4000000 in
set_option maxRecDepth 100000 in
theorem failAt_act (h : Hp) (k : Int) (w : World) (H : HpR w h) (I : Inv h.m) (hmu : h.mu = 0) :
    Calls Tryz.prog 29 #[h.ptr, .int .i64 k] w (Act1 (failAtM h.m k) w h) := by
  have c0 := H.mu0
  rw [hmu] at c0
  have f0 := H.free 0
  obtain ⟨w1, hw1⟩ : ∃ w1, w1 = w.setCell ⟨h.blk, 0, none⟩ (.int .i32 1) := ⟨_, rfl⟩
  have D1 : Did w h w1 (locked h) := by rw [hw1]; exact (Did.refl H).lock 1
  obtain ⟨r, hr⟩ : ∃ r, r = failAtM h.m k := ⟨_, rfl⟩
  rw [← hr]
  unfold Hp.ptr
  obtain ⟨g, hg⟩ : ∃ g, g = h.blk := ⟨_, rfl⟩
  rw [← hg] at c0 f0 hw1 ⊢
  have KM : Hid (∀ W h3, Did w h W h3 → h3.blk = g → h3.mu = 1 → W.cell? ⟨g, 0, none⟩ = some (.int .i32 1) ∧ W.frozen? ⟨g, 0, none⟩ = false) := fun W h3 D e1 e2 => D.mine0 g e1.symm e2
  have HI := hide I
  have HW1 := hide hw1
  have HR := hide hr
  have HG := hide hg
  have HD1 := hide D1
  clear I H hw1 hr hg D1
  have KMU := hide (KM.out _ _ HD1.out HG.out.symm rfl).1
  have KFR := hide (KM.out _ _ HD1.out HG.out.symm rfl).2
  have hcase : ¬ (0 ≤ k ∧ k ≤ 1000) → r = (h.m, 1) := fun hn => by rw [HR.out]; exact if_neg hn
  cases h1 : decide (k < 0)
  · cases h2 : decide (1000 < k)
    · have hr : r = ({ h.m with failIn := k }, 0) := by rw [HR.out]; exact if_pos (by simp at h1 h2; omega)
      have f9 : w1.frozen? ⟨g, 9, none⟩ = false := HD1.out.rep.freeAt g HG.out.symm 9
      have c9 : w1.cell? ⟨g, 9, none⟩ = some (.int .i64 h.failIn) := HD1.out.rep.cellAt g HG.out.symm 9
      have D9 : Did w h (w1.setCell ⟨g, 9, none⟩ (.int .i64 k)) { locked h with failIn := k } := HD1.out.failsAt g HG.out.symm k
      have FIN := hide (D9.out1 (r := r) g HG.out (by rw [hr]; rfl))
      rw [hr] at FIN ⊢
      have KMU := hide (KM.out _ _ D9 HG.out.symm rfl).1
      have KFR := hide (KM.out _ _ D9 HG.out.symm rfl).2
      clear hcase hr D9 HR
      go_enter_defers Tryz.func29, Tryz.ntmps29
      go_wp2_with (go_at_call 57; refine (Go.MuLone.lock_free muLib ⟨g, 0, none⟩ _ c0 f0).mono ?_; rintro e w' ⟨rfl, rfl⟩; rw [← HW1.out])
      refine leaves_cons (f := 58) (args := #[.pointer (some ⟨g, 0, none⟩)]) (by simp) (by simp [go_sem]) ?_
      refine (Go.MuLone.unlock_deferred muLib ⟨g, 0, none⟩ .returning _ KMU.out KFR.out).mono ?_
      rintro e u' w9 ⟨rfl, rfl, rfl⟩
      refine ⟨_, results_tmp rfl _ _ _, ?_⟩
      exact FIN.out
    · have hr := hcase (by simp at h2; omega)
      have FIN := hide (HD1.out.out1 (r := r) g HG.out (by rw [hr]; rfl))
      rw [hr] at FIN ⊢
      clear hcase hr HR
      go_enter_defers Tryz.func29, Tryz.ntmps29
      go_wp2_with (go_at_call 57; refine (Go.MuLone.lock_free muLib ⟨g, 0, none⟩ _ c0 f0).mono ?_; rintro e w' ⟨rfl, rfl⟩; rw [← HW1.out])
      refine leaves_cons (f := 58) (args := #[.pointer (some ⟨g, 0, none⟩)]) (by simp) (by simp [go_sem]) ?_
      refine (Go.MuLone.unlock_deferred muLib ⟨g, 0, none⟩ .returning _ KMU.out KFR.out).mono ?_
      rintro e u' w9 ⟨rfl, rfl, rfl⟩
      refine ⟨_, results_tmp rfl _ _ _, ?_⟩
      exact FIN.out
  · have hr := hcase (by simp at h1; omega)
    have FIN := hide (HD1.out.out1 (r := r) g HG.out (by rw [hr]; rfl))
    rw [hr] at FIN ⊢
    clear hcase hr HR
    go_enter_defers Tryz.func29, Tryz.ntmps29
    go_wp2_with (go_at_call 57; refine (Go.MuLone.lock_free muLib ⟨g, 0, none⟩ _ c0 f0).mono ?_; rintro e w' ⟨rfl, rfl⟩; rw [← HW1.out])
    refine leaves_cons (f := 58) (args := #[.pointer (some ⟨g, 0, none⟩)]) (by simp) (by simp [go_sem]) ?_
    refine (Go.MuLone.unlock_deferred muLib ⟨g, 0, none⟩ .returning _ KMU.out KFR.out).mono ?_
    rintro e u' w9 ⟨rfl, rfl, rfl⟩
    refine ⟨_, results_tmp rfl _ _ _, ?_⟩
    exact FIN.out
set_option maxHeartbeats 4000000 in
set_option maxRecDepth 100000 in
theorem used_act (h : Hp) (w : World) (H : HpR w h) (I : Inv h.m) (hmu : h.mu = 0) :
    Calls Tryz.prog 10 #[h.ptr] w (ActR h.m (.int .i64 (used h.m.live)) w h) := by
  have c0 := H.mu0
  rw [hmu] at c0
  have f0 := H.free 0
  obtain ⟨w1, hw1⟩ : ∃ w1, w1 = w.setCell ⟨h.blk, 0, none⟩ (.int .i32 1) := ⟨_, rfl⟩
  have D1 : Did w h w1 (locked h) := by rw [hw1]; exact (Did.refl H).lock 1
  obtain ⟨r, hr⟩ : ∃ r, r = h.m := ⟨_, rfl⟩
  rw [← hr]
  unfold Hp.ptr
  obtain ⟨g, hg⟩ : ∃ g, g = h.blk := ⟨_, rfl⟩
  rw [← hg] at c0 f0 hw1 ⊢
  have KM : Hid (∀ W h3, Did w h W h3 → h3.blk = g → h3.mu = 1 → W.cell? ⟨g, 0, none⟩ = some (.int .i32 1) ∧ W.frozen? ⟨g, 0, none⟩ = false) := fun W h3 D e1 e2 => D.mine0 g e1.symm e2
  have HI := hide I
  have HW1 := hide hw1
  have HR := hide hr
  have HG := hide hg
  have HD1 := hide D1
  clear I H hw1 hr hg D1
  have HU : Hid (Calls Tryz.prog 65 #[.pointer (some ⟨g, 4, none⟩)] w1 fun e w' => e = .returned (.int .i64 (used h.m.live)) ∧ Q w1 w') := by
    have := used_any (locked h) w1 HD1.out.rep HI.out.near
    unfold Hp.bptr at this
    rw [show (locked h).blk = g from HG.out.symm] at this
    exact this
  have FIN0 : Hid (∀ W, Q w1 W → ActR h.m (.int .i64 (used h.m.live)) w h (.returned (.int .i64 (used h.m.live))) (W.setCell ⟨g, 0, none⟩ (.int .i32 0))) := fun W hq => (HD1.out.q hq).outR g HG.out rfl
  obtain ⟨us, hus⟩ : ∃ us, us = used h.m.live := ⟨_, rfl⟩
  have hrm : r = h.m := HR.out
  rw [hrm]
  rw [← hus] at HU FIN0 ⊢
  clear hus hrm HR
  go_enter_defers Tryz.func10, Tryz.ntmps10
  go_wp2_with (go_at_call 57; refine (Go.MuLone.lock_free muLib ⟨g, 0, none⟩ _ c0 f0).mono ?_; rintro e w' ⟨rfl, rfl⟩; rw [← HW1.out])
  refine HU.out.mono ?_
  rintro e w2 ⟨rfl, hq2⟩
  have FIN := hide (FIN0.out _ hq2)
  have KMU := hide (KM.out _ _ (HD1.out.q hq2) HG.out.symm rfl).1
  have KFR := hide (KM.out _ _ (HD1.out.q hq2) HG.out.symm rfl).2
  go_wp2_with fail
  refine leaves_cons (f := 58) (args := #[.pointer (some ⟨g, 0, none⟩)]) (by simp) (by simp [go_sem]) ?_
  refine (Go.MuLone.unlock_deferred muLib ⟨g, 0, none⟩ .returning _ KMU.out KFR.out).mono ?_
  rintro e u' w9 ⟨rfl, rfl, rfl⟩
  refine ⟨_, results_tmp rfl _ _ _, ?_⟩
  exact FIN.out
set_option maxHeartbeats 4000000 in
set_option maxRecDepth 100000 in
theorem calls_act (h : Hp) (w : World) (H : HpR w h) (I : Inv h.m) (hmu : h.mu = 0) :
    Calls Tryz.prog 88 #[h.ptr] w (ActR h.m (.int .i64 h.m.calls) w h) := by
  have c0 := H.mu0
  rw [hmu] at c0
  have f0 := H.free 0
  obtain ⟨w1, hw1⟩ : ∃ w1, w1 = w.setCell ⟨h.blk, 0, none⟩ (.int .i32 1) := ⟨_, rfl⟩
  have D1 : Did w h w1 (locked h) := by rw [hw1]; exact (Did.refl H).lock 1
  obtain ⟨r, hr⟩ : ∃ r, r = h.m := ⟨_, rfl⟩
  rw [← hr]
  unfold Hp.ptr
  obtain ⟨g, hg⟩ : ∃ g, g = h.blk := ⟨_, rfl⟩
  rw [← hg] at c0 f0 hw1 ⊢
  have KM : Hid (∀ W h3, Did w h W h3 → h3.blk = g → h3.mu = 1 → W.cell? ⟨g, 0, none⟩ = some (.int .i32 1) ∧ W.frozen? ⟨g, 0, none⟩ = false) := fun W h3 D e1 e2 => D.mine0 g e1.symm e2
  have HI := hide I
  have HW1 := hide hw1
  have HR := hide hr
  have HG := hide hg
  have HD1 := hide D1
  clear I H hw1 hr hg D1
  have cx : w1.cell? ⟨g, 8, none⟩ = some (.int .i64 h.m.calls) := HD1.out.rep.cellAt g HG.out.symm 8
  have FIN := hide (HD1.out.outR (v := .int .i64 h.m.calls) g HG.out rfl)
  have KMU := hide (KM.out _ _ HD1.out HG.out.symm rfl).1
  have KFR := hide (KM.out _ _ HD1.out HG.out.symm rfl).2
  have hrm : r = h.m := HR.out
  rw [hrm]
  clear HR
  obtain ⟨us, hus⟩ : ∃ us, us = h.m.calls := ⟨_, rfl⟩
  rw [← hus] at cx FIN ⊢
  clear hus hrm
  go_enter_defers Tryz.func88, Tryz.ntmps88
  go_wp2_with (go_at_call 57; refine (Go.MuLone.lock_free muLib ⟨g, 0, none⟩ _ c0 f0).mono ?_; rintro e w' ⟨rfl, rfl⟩; rw [← HW1.out])
  refine leaves_cons (f := 58) (args := #[.pointer (some ⟨g, 0, none⟩)]) (by simp) (by simp [go_sem]) ?_
  refine (Go.MuLone.unlock_deferred muLib ⟨g, 0, none⟩ .returning _ KMU.out KFR.out).mono ?_
  rintro e u' w9 ⟨rfl, rfl, rfl⟩
  refine ⟨_, results_tmp rfl _ _ _, ?_⟩
  exact FIN.out
end Go.Proofs.YtdaklffbfadghaaGreat
