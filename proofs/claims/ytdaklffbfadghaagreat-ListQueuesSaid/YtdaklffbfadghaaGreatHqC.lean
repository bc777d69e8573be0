/- Free. Conditions: the heap reads so, it is unlocked, and its numbers are within bounds. -/
import Derived.Test.YtdaklffbfadghaaGreatHqB
namespace Go.Proofs.YtdaklffbfadghaaGreat
open Go.RowKit HP
set_option linter.unusedVariables false
theorem at_eq {m : HM} (F : Fit m.size m.live) {at_ : Int} (h : has m.live at_ = true) : ∃ x, m.live[below m.live at_]? = some x ∧ x.1 = at_ ∧ atM m at_ = x := by
  obtain ⟨x, hx, e⟩ := (has_iff F at_).1 h
  exact ⟨x, hx, e, by unfold atM; rw [hx]; rfl⟩
set_option maxHeartbeats 4000000 in
set_option maxRecDepth 100000 in
theorem free_act (h : Hp) (at_ : Int) (w : World) (H : HpR w h) (I : Inv h.m) (hmu : h.mu = 0) (ha0 : -9223372036854775808 ≤ at_) (ha1 : at_ ≤ 9223372036854775807) :
    Calls Tryz.prog 108 #[h.ptr, .int .i64 at_] w (Act1 (freeM h.m at_) w h) := by
  have c0 := H.mu0
  rw [hmu] at c0
  have f0 := H.free 0
  obtain ⟨w1, hw1⟩ : ∃ w1, w1 = w.setCell ⟨h.blk, 0, none⟩ (.int .i32 1) := ⟨_, rfl⟩
  have D1 : Did w h w1 (locked h) := by rw [hw1]; exact (Did.refl H).lock 1
  obtain ⟨r, hr⟩ : ∃ r, r = freeM h.m at_ := ⟨_, rfl⟩
  rw [← hr]
  unfold Hp.ptr
  obtain ⟨g, hg⟩ : ∃ g, g = h.blk := ⟨_, rfl⟩
  rw [← hg] at c0 f0 hw1 ⊢
  have KM : Hid (∀ W h3, Did w h W h3 → h3.blk = g → h3.mu = 1 → W.cell? ⟨g, 0, none⟩ = some (.int .i32 1) ∧ W.frozen? ⟨g, 0, none⟩ = false) := fun W h3 D e1 e2 => D.mine0 g e1.symm e2
  have HI := hide I
  have HW1 := hide hw1
  have HR := hide hr
  have HG := hide hg
  have HD1 := hide D1
  clear I H hw1 hr hg D1
  have HFD : Hid (∀ W, Q w1 W → Calls Tryz.prog 96 #[.pointer (some ⟨g, 4, none⟩), .int .i64 at_] W (FindPost h.m.live at_ W)) := fun W hq => by
    have := find_any (locked h) at_ W (HD1.out.rep.q hq) (HI.out.near.1) HI.out.fit ha0 ha1
    unfold Hp.bptr at this
    rw [HG.out]
    exact this
  cases hh : has h.m.live at_
  · rw [show freeM h.m at_ = (h.m, 9) by unfold freeM; rw [if_pos hh]] at HR
    have FIN0 : Hid (∀ W, Q w1 W → Act1 r w h (.returned (.int .i64 9)) (W.setCell ⟨g, 0, none⟩ (.int .i32 0))) := fun W hq => by
      rw [HR.out]
      exact (HD1.out.q hq).out1 (r := (h.m, 9)) g HG.out rfl
    clear HR
    go_enter_defers Tryz.func108, Tryz.ntmps108
    go_wp2_with (go_at_call 57; refine (Go.MuLone.lock_free muLib ⟨g, 0, none⟩ _ c0 f0).mono ?_; rintro e w' ⟨rfl, rfl⟩)
    go_wp2_with fail
    rw [← HW1.out]
    refine (HFD.out w1 (Q.refl _)).mono ?_
    rintro e w2 ⟨k, rfl, hk1, hk2, hq2⟩
    rw [hh]
    clear hh hk1 hk2
    have FIN := hide (FIN0.out _ hq2)
    have KMU := hide (KM.out _ _ (HD1.out.q hq2) HG.out.symm rfl).1
    have KFR := hide (KM.out _ _ (HD1.out.q hq2) HG.out.symm rfl).2
    go_wp2_with fail
    refine leaves_cons (f := 58) (args := #[.pointer (some ⟨g, 0, none⟩)]) (by simp) (by simp [go_sem]) ?_
    refine (Go.MuLone.unlock_deferred muLib ⟨g, 0, none⟩ .returning _ KMU.out KFR.out).mono ?_
    rintro e u' w9 ⟨rfl, rfl, rfl⟩
    refine ⟨_, results_tmp rfl _ _ _, ?_⟩
    exact FIN.out
  · obtain ⟨x, hx, hxa, hat⟩ := at_eq HI.out.fit hh
    rw [show freeM h.m at_ = (takeM h.m (below h.m.live at_) x, 0) by unfold freeM; rw [if_neg (by rw [hh]; simp), hat]] at HR
    obtain ⟨y, hy, hyp⟩ : ∃ y, h.bks[below h.m.live at_]? = some y ∧ y.pb = x := by
      have hx' : (h.bks.map (·.pb))[below h.m.live at_]? = some x := hx
      rw [List.getElem?_map] at hx'
      cases e : h.bks[below h.m.live at_]? with
      | none => rw [e] at hx'; cases hx'
      | some y => rw [e] at hx'; exact ⟨y, rfl, by injection hx'⟩
    have HTK : Hid (∀ W, Q w1 W → Calls Tryz.prog 127 #[.pointer (some ⟨g, 0, none⟩), .int .i64 at_] W fun e w' => ∃ u h3, e = .returned u ∧ Did w h w' h3 ∧ h3.blk = g ∧ h3.mu = 1 ∧ Act1 r w h (.returned (.int .i64 0)) (w'.setCell ⟨g, 0, none⟩ (.int .i32 0))) := fun W hq => by
      have h1 := take_any (locked h) (below h.m.live at_) y W (HD1.out.rep.q hq) HI.out.kind HI.out.near.1 HI.out.fit hy
      unfold Hp.ptr at h1
      rw [hyp, hxa] at h1
      rw [HG.out]
      refine h1.mono ?_
      rintro e w' ⟨rfl, v, hd⟩
      have hd2 := (HD1.out.q hq).trans hd
      refine ⟨_, _, rfl, hd2, rfl, rfl, ?_⟩
      rw [HR.out]
      refine hd2.out1 (r := (takeM h.m (below h.m.live at_) x, 0)) h.blk rfl ?_
      rw [m_take, hyp]
      rfl
    clear HR hx hxa hat hy hyp
    go_enter_defers Tryz.func108, Tryz.ntmps108
    go_wp2_with (go_at_call 57; refine (Go.MuLone.lock_free muLib ⟨g, 0, none⟩ _ c0 f0).mono ?_; rintro e w' ⟨rfl, rfl⟩)
    go_wp2_with fail
    rw [← HW1.out]
    refine (HFD.out w1 (Q.refl _)).mono ?_
    rintro e w2 ⟨k, rfl, hk1, hk2, hq2⟩
    rw [hh]
    clear hh hk1 hk2
    go_wp2_with fail
    refine (HTK.out _ hq2).mono ?_
    rintro e w3 ⟨u, h3, rfl, hd3, hb3, hm3, hfin⟩
    have FIN := hide hfin
    have KMU := hide (KM.out _ _ hd3 hb3 hm3).1
    have KFR := hide (KM.out _ _ hd3 hb3 hm3).2
    clear hfin hd3 hb3 hm3
    go_wp2_with fail
    refine leaves_cons (f := 58) (args := #[.pointer (some ⟨g, 0, none⟩)]) (by simp) (by simp [go_sem]) ?_
    refine (Go.MuLone.unlock_deferred muLib ⟨g, 0, none⟩ .returning _ KMU.out KFR.out).mono ?_
    rintro e u' w9 ⟨rfl, rfl, rfl⟩
    refine ⟨_, results_tmp rfl _ _ _, ?_⟩
    exact FIN.out
end Go.Proofs.YtdaklffbfadghaaGreat
