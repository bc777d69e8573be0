/- Resize where it fails at once: a wrong size, no block there, a call that is to fail. Conditions: the heap reads so, it is unlocked, and its numbers are within bounds. -/
import Derived.Test.YtegpkcbmgjoicaaGreatHqQ
namespace Go.Proofs.YtegpkcbmgjoicaaGreat
open Go.RowKit HP
set_option linter.unusedVariables false
set_option maxHeartbeats 8000000 in
set_option maxRecDepth 100000 in
theorem resize_bad1 (h : Hp) (at_ n : Int) (w : World) (H : HpR w h) (I : Inv h.m) (hmu : h.mu = 0) (hcl : h.calls < 1000000000) (ha0 : -9223372036854775808 ≤ at_) (ha1 : at_ ≤ 9223372036854775807) (hs : sizeB n = false) :
    Calls Tryz.prog 18 #[h.ptr, .int .i64 at_, .int .i64 n] w (Act2 (resizeM h.m at_ n) w h) := by
  have hnc : h.calls ≤ 1000000000 := Int.le_of_lt hcl
  have c0 := H.mu0
  rw [hmu] at c0
  have f0 := H.free 0
  obtain ⟨w1, hw1⟩ : ∃ w1, w1 = w.setCell ⟨h.blk, 0, none⟩ (.int .i32 1) := ⟨_, rfl⟩
  have D1 : Did w h w1 (locked h) := by rw [hw1]; exact (Did.refl H).lock 1
  obtain ⟨r, hr⟩ : ∃ r, r = resizeM h.m at_ n := ⟨_, rfl⟩
  rw [← hr]
  unfold Hp.ptr
  obtain ⟨g, hg⟩ : ∃ g, g = h.blk := ⟨_, rfl⟩
  rw [← hg] at c0 f0 hw1 ⊢
  have KM : Hid (∀ W h3, Did w h W h3 → h3.blk = g → h3.mu = 1 → W.cell? ⟨g, 0, none⟩ = some (.int .i32 1) ∧ W.frozen? ⟨g, 0, none⟩ = false) := fun W h3 D e1 e2 => D.mine0 g e1.symm e2
  have HI := hide I
  have HW1 := hide hw1
  have HR := hide hr
  have HG := hide hg
  have HD1 := hide D1
  clear I H hw1 hr hg D1
  have HIS : Hid (∀ W, Calls Tryz.prog 41 #[.int .i64 n] W fun e w' => e = .returned (.bool (sizeB n)) ∧ W = w') := fun W => isSize_any n W
  rw [hs] at HIS
  have hr1 : r = (h.m, 0, 1) := by rw [HR.out]; unfold resizeM; rw [if_pos hs]
  have FIN := hide (HD1.out.out2 (r := r) g HG.out (by rw [hr1]; rfl))
  have KMU := hide (KM.out _ _ HD1.out HG.out.symm rfl).1
  have KFR := hide (KM.out _ _ HD1.out HG.out.symm rfl).2
  rw [hr1] at FIN ⊢
  dsimp only at FIN
  clear hr1 HR hs
  go_enter_defers Tryz.func18, Tryz.ntmps18
  go_wp2_with (go_at_call 35; refine (Go.MuLone.lock_free muLib ⟨g, 0, none⟩ _ c0 f0).mono ?_; rintro e w' ⟨rfl, rfl⟩; rw [← HW1.out])
  refine (HIS.out _).mono ?_
  rintro e w2 ⟨rfl, rfl⟩
  go_wp2_with fail
  refine leaves_cons (f := 36) (args := #[.pointer (some ⟨g, 0, none⟩)]) (by simp) (by simp [go_sem]) ?_
  refine (Go.MuLone.unlock_deferred muLib ⟨g, 0, none⟩ .returning _ KMU.out KFR.out).mono ?_
  rintro e u' w9 ⟨rfl, rfl, rfl⟩
  refine ⟨_, results_tmp2 rfl _ _ _, ?_⟩
  exact FIN.out
set_option maxHeartbeats 8000000 in
set_option maxRecDepth 100000 in
theorem resize_bad2 (h : Hp) (at_ n : Int) (w : World) (H : HpR w h) (I : Inv h.m) (hmu : h.mu = 0) (hcl : h.calls < 1000000000) (ha0 : -9223372036854775808 ≤ at_) (ha1 : at_ ≤ 9223372036854775807) (hs : sizeB n = true) (hh : has h.m.live at_ = false) :
    Calls Tryz.prog 18 #[h.ptr, .int .i64 at_, .int .i64 n] w (Act2 (resizeM h.m at_ n) w h) := by
  have hnc : h.calls ≤ 1000000000 := Int.le_of_lt hcl
  have c0 := H.mu0
  rw [hmu] at c0
  have f0 := H.free 0
  obtain ⟨w1, hw1⟩ : ∃ w1, w1 = w.setCell ⟨h.blk, 0, none⟩ (.int .i32 1) := ⟨_, rfl⟩
  have D1 : Did w h w1 (locked h) := by rw [hw1]; exact (Did.refl H).lock 1
  obtain ⟨r, hr⟩ : ∃ r, r = resizeM h.m at_ n := ⟨_, rfl⟩
  rw [← hr]
  unfold Hp.ptr
  obtain ⟨g, hg⟩ : ∃ g, g = h.blk := ⟨_, rfl⟩
  rw [← hg] at c0 f0 hw1 ⊢
  have KM : Hid (∀ W h3, Did w h W h3 → h3.blk = g → h3.mu = 1 → W.cell? ⟨g, 0, none⟩ = some (.int .i32 1) ∧ W.frozen? ⟨g, 0, none⟩ = false) := fun W h3 D e1 e2 => D.mine0 g e1.symm e2
  have HI := hide I
  have HW1 := hide hw1
  have HR := hide hr
  have HG := hide hg
  have HD1 := hide D1
  clear I H hw1 hr hg D1
  have HIS : Hid (∀ W, Calls Tryz.prog 41 #[.int .i64 n] W fun e w' => e = .returned (.bool (sizeB n)) ∧ W = w') := fun W => isSize_any n W
  rw [hs] at HIS
  have HFD : Hid (∀ W, Q w1 W → Calls Tryz.prog 47 #[.pointer (some ⟨g, 4, none⟩), .int .i64 at_] W (FindPost h.m.live at_ W)) := fun W hq => by
    have := find_any (locked h) at_ W (HD1.out.rep.q hq) (HI.out.near.1) HI.out.fit ha0 ha1
    unfold Hp.bptr at this
    rw [HG.out]
    exact this
  have hr1 : r = (h.m, 0, 9) := by rw [HR.out]; unfold resizeM; rw [if_neg (by rw [hs]; simp), if_pos hh]
  have FIN0 : Hid (∀ W, Q w1 W → Act2 (h.m, 0, 9) w h (.returned (.tuple #[.int .i64 0, .int .i64 9])) (W.setCell ⟨g, 0, none⟩ (.int .i32 0))) := fun W hq => (HD1.out.q hq).out2 (r := (h.m, 0, 9)) g HG.out rfl
  rw [hr1]
  clear hr1 HR hs
  go_enter_defers Tryz.func18, Tryz.ntmps18
  go_wp2_with (go_at_call 35; refine (Go.MuLone.lock_free muLib ⟨g, 0, none⟩ _ c0 f0).mono ?_; rintro e w' ⟨rfl, rfl⟩; rw [← HW1.out])
  refine (HIS.out _).mono ?_
  rintro e w2 ⟨rfl, rfl⟩
  go_wp2_with fail
  refine (HFD.out w1 (Q.refl _)).mono ?_
  rintro e w2 ⟨k, rfl, hk1, hk2, hq2⟩
  rw [hh]
  clear hh hk1 hk2
  have FIN := hide (FIN0.out _ hq2)
  have KMU := hide (KM.out _ _ (HD1.out.q hq2) HG.out.symm rfl).1
  have KFR := hide (KM.out _ _ (HD1.out.q hq2) HG.out.symm rfl).2
  go_wp2_with fail
  refine leaves_cons (f := 36) (args := #[.pointer (some ⟨g, 0, none⟩)]) (by simp) (by simp [go_sem]) ?_
  refine (Go.MuLone.unlock_deferred muLib ⟨g, 0, none⟩ .returning _ KMU.out KFR.out).mono ?_
  rintro e u' w9 ⟨rfl, rfl, rfl⟩
  refine ⟨_, results_tmp2 rfl _ _ _, ?_⟩
  exact FIN.out
set_option maxHeartbeats 8000000 in
set_option maxRecDepth 100000 in
theorem resize_bad3 (h : Hp) (at_ n : Int) (w : World) (H : HpR w h) (I : Inv h.m) (hmu : h.mu = 0) (hcl : h.calls < 1000000000) (ha0 : -9223372036854775808 ≤ at_) (ha1 : at_ ≤ 9223372036854775807) (hs : sizeB n = true) (hh : has h.m.live at_ = true) (hf : h.failIn = 1) :
    Calls Tryz.prog 18 #[h.ptr, .int .i64 at_, .int .i64 n] w (Act2 (resizeM h.m at_ n) w h) := by
  have hnc : h.calls ≤ 1000000000 := Int.le_of_lt hcl
  have c0 := H.mu0
  rw [hmu] at c0
  have f0 := H.free 0
  obtain ⟨w1, hw1⟩ : ∃ w1, w1 = w.setCell ⟨h.blk, 0, none⟩ (.int .i32 1) := ⟨_, rfl⟩
  have D1 : Did w h w1 (locked h) := by rw [hw1]; exact (Did.refl H).lock 1
  obtain ⟨r, hr⟩ : ∃ r, r = resizeM h.m at_ n := ⟨_, rfl⟩
  rw [← hr]
  unfold Hp.ptr
  obtain ⟨g, hg⟩ : ∃ g, g = h.blk := ⟨_, rfl⟩
  rw [← hg] at c0 f0 hw1 ⊢
  have KM : Hid (∀ W h3, Did w h W h3 → h3.blk = g → h3.mu = 1 → W.cell? ⟨g, 0, none⟩ = some (.int .i32 1) ∧ W.frozen? ⟨g, 0, none⟩ = false) := fun W h3 D e1 e2 => D.mine0 g e1.symm e2
  have HI := hide I
  have HW1 := hide hw1
  have HR := hide hr
  have HG := hide hg
  have HD1 := hide D1
  clear I H hw1 hr hg D1
  have HIS : Hid (∀ W, Calls Tryz.prog 41 #[.int .i64 n] W fun e w' => e = .returned (.bool (sizeB n)) ∧ W = w') := fun W => isSize_any n W
  rw [hs] at HIS
  have HFD : Hid (∀ W, Q w1 W → Calls Tryz.prog 47 #[.pointer (some ⟨g, 4, none⟩), .int .i64 at_] W (FindPost h.m.live at_ W)) := fun W hq => by
    have := find_any (locked h) at_ W (HD1.out.rep.q hq) (HI.out.near.1) HI.out.fit ha0 ha1
    unfold Hp.bptr at this
    rw [HG.out]
    exact this
  have HCN : Hid (∀ W, Q w1 W → Calls Tryz.prog 43 #[.pointer (some ⟨g, 0, none⟩)] W fun e w' => e = .returned (.bool (h.failIn == 1)) ∧ Did w h w' (countH (locked h))) := fun W hq => by
    have hr := HD1.out.q hq
    have := counted_any (locked h) W hr.rep ⟨HI.out.calls, hnc⟩ HI.out.failIn
    unfold Hp.ptr at this
    rw [show (locked h).blk = g from HG.out.symm] at this
    refine this.mono ?_
    rintro e w' ⟨he, hd⟩
    exact ⟨he, hr.trans hd⟩
  have hr1 : r = (countM h.m, 0, 3) := by rw [HR.out]; unfold resizeM; rw [if_neg (by rw [hs]; simp), if_neg (by rw [hh]; simp), if_pos (show h.m.failIn = 1 from hf)]
  have FIN0 : Hid (∀ W, Did w h W (countH (locked h)) → Act2 (countM h.m, 0, 3) w h (.returned (.tuple #[.int .i64 0, .int .i64 3])) (W.setCell ⟨g, 0, none⟩ (.int .i32 0))) := fun W D => D.out2 (r := (countM h.m, 0, 3)) g HG.out rfl
  rw [hr1]
  rw [show (h.failIn == 1) = true by rw [hf]; rfl] at HCN
  clear hr1 HR hs hf
  go_enter_defers Tryz.func18, Tryz.ntmps18
  go_wp2_with (go_at_call 35; refine (Go.MuLone.lock_free muLib ⟨g, 0, none⟩ _ c0 f0).mono ?_; rintro e w' ⟨rfl, rfl⟩; rw [← HW1.out])
  refine (HIS.out _).mono ?_
  rintro e w2 ⟨rfl, rfl⟩
  go_wp2_with fail
  refine (HFD.out w1 (Q.refl _)).mono ?_
  rintro e w2 ⟨k, rfl, hk1, hk2, hq2⟩
  rw [hh]
  clear hh hk1 hk2
  go_wp2_with fail
  refine (HCN.out _ hq2).mono ?_
  rintro e w4 ⟨rfl, hd4⟩
  have FIN := hide (FIN0.out _ hd4)
  have KMU := hide (KM.out _ _ hd4 HG.out.symm rfl).1
  have KFR := hide (KM.out _ _ hd4 HG.out.symm rfl).2
  clear hd4
  go_wp2_with fail
  refine leaves_cons (f := 36) (args := #[.pointer (some ⟨g, 0, none⟩)]) (by simp) (by simp [go_sem]) ?_
  refine (Go.MuLone.unlock_deferred muLib ⟨g, 0, none⟩ .returning _ KMU.out KFR.out).mono ?_
  rintro e u' w9 ⟨rfl, rfl, rfl⟩
  refine ⟨_, results_tmp2 rfl _ _ _, ?_⟩
  exact FIN.out
end Go.Proofs.YtegpkcbmgjoicaaGreat
