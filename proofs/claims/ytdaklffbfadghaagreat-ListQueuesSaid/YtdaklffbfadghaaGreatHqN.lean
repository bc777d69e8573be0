/- Store, Load. Conditions: the heap reads so, it is unlocked, and its numbers are within bounds. -/
import Derived.Test.YtdaklffbfadghaaGreatHqM
namespace Go.Proofs.YtdaklffbfadghaaGreat
open Go.RowKit HP
set_option linter.unusedVariables false
def storeM (m : HM) (at_ b : Int) : HM × Int :=
  if 0 ≤ b ∧ b ≤ 255 then
    match m.live.findIdx? (inB at_) with
    | none => (m, 9)
    | some k => match m.live[k]? with
      | none => (m, 9)
      | some x => ({ m with live := m.live.set k (putB x (at_ - x.1).toNat b) }, 0)
  else (m, 1)
def loadM (m : HM) (at_ : Int) : Int × Int :=
  match m.live.findIdx? (inB at_) with
  | none => (0, 9)
  | some k => match (m.live[k]?).bind fun x => x.2[(at_ - x.1).toNat]? with
    | none => (0, 9)
    | some v => if v = -1 then (0, 11) else (v, 0)
theorem storeM_none {m : HM} {at_ b : Int} (hb : 0 ≤ b ∧ b ≤ 255) (h1 : m.live.findIdx? (inB at_) = none) : storeM m at_ b = (m, 9) := by
  unfold storeM
  rw [if_pos hb]
  simp only [h1]
theorem storeM_some {m : HM} {at_ b : Int} {k : Nat} {x : PB} (hb : 0 ≤ b ∧ b ≤ 255) (h1 : m.live.findIdx? (inB at_) = some k) (h2 : m.live[k]? = some x) : storeM m at_ b = ({ m with live := m.live.set k (putB x (at_ - x.1).toNat b) }, 0) := by
  unfold storeM
  rw [if_pos hb]
  simp only [h1, h2]
theorem hold_none {h : Hp} {at_ : Int} (ha : h.bks.any (fun x => inB at_ x.pb) = false) : h.m.live.findIdx? (inB at_) = none := by
  rw [List.findIdx?_eq_none_iff]
  intro x hx
  obtain ⟨y, hy, rfl⟩ := List.mem_map.1 hx
  have := List.any_eq_false.1 ha y hy
  simpa using this
theorem hold_some {h : Hp} {at_ : Int} {k : Nat} {y : Bk} (hy : h.bks[k]? = some y) (hp : inB at_ y.pb = true) (hbf : ∀ (j : Nat) (z : Bk), j < k → h.bks[j]? = some z → inB at_ z.pb = false) : h.m.live.findIdx? (inB at_) = some k ∧ h.m.live[k]? = some y.pb := by
  have h2 : h.m.live[k]? = some y.pb := by
    show (h.bks.map (·.pb))[k]? = _
    rw [List.getElem?_map, hy]
    rfl
  refine ⟨?_, h2⟩
  obtain ⟨hk, e⟩ := List.getElem?_eq_some_iff.1 h2
  rw [List.findIdx?_eq_some_iff_getElem]
  refine ⟨hk, by rw [e]; exact hp, fun j hj => ?_⟩
  have hj2 : j < h.bks.length := by
    have : k < (h.bks.map (·.pb)).length := hk
    rw [List.length_map] at this
    omega
  have := hbf j h.bks[j] hj (List.getElem?_eq_getElem hj2)
  have e3 : h.m.live[j]'(by omega) = h.bks[j].pb := List.getElem_map (l := h.bks) (f := fun x : Bk => x.pb)
  rw [e3, this]
  simp
theorem inB_j {at_ : Int} {x : PB} (h : inB at_ x = true) : ∃ (j : Nat) (v : Int), at_ - x.1 = (j : Int) ∧ (at_ - x.1).toNat = j ∧ j < x.2.length ∧ x.2[j]? = some v := by
  unfold inB pend at h
  simp only [Bool.and_eq_true, decide_eq_true_eq] at h
  have hj : (at_ - x.1).toNat < x.2.length := by omega
  exact ⟨(at_ - x.1).toNat, x.2[(at_ - x.1).toNat], by omega, rfl, hj, List.getElem?_eq_getElem hj⟩
theorem m_store (h : Hp) (k : Nat) (y : Bk) (j : Nat) (b : Int) : (storeH h k y j b).m = { h.m with live := h.m.live.set k (putB y.pb j b) } := by
  unfold storeH Hp.m
  simp only [List.map_set]
theorem Did.storeAt {w w1 : World} {h h1 : Hp} (a : Did w h w1 h1) (k : Nat) (y : Bk) (hy : h1.bks[k]? = some y) (j : Nat) (b : Int) (row : Nat) (hr : row = y.row) : Did w h (w1.setCell ⟨row, j, none⟩ (.int .i64 b)) (storeH h1 k y j b) := by subst hr; exact a.store k y hy j b
set_option maxHeartbeats 4000000 in
set_option maxRecDepth 100000 in
theorem store_act (h : Hp) (at_ b : Int) (w : World) (H : HpR w h) (I : Inv h.m) (hmu : h.mu = 0) :
    Calls Tryz.prog 11 #[h.ptr, .int .i64 at_, .int .i64 b] w (Act1 (storeM h.m at_ b) w h) := by
  have c0 := H.mu0
  rw [hmu] at c0
  have f0 := H.free 0
  obtain ⟨w1, hw1⟩ : ∃ w1, w1 = w.setCell ⟨h.blk, 0, none⟩ (.int .i32 1) := ⟨_, rfl⟩
  have D1 : Did w h w1 (locked h) := by rw [hw1]; exact (Did.refl H).lock 1
  obtain ⟨r, hr⟩ : ∃ r, r = storeM h.m at_ b := ⟨_, rfl⟩
  rw [← hr]
  unfold Hp.ptr
  obtain ⟨g, hg⟩ : ∃ g, g = h.blk := ⟨_, rfl⟩
  rw [← hg] at c0 f0 hw1 ⊢
  have KM : Hid (∀ W h3, Did w h W h3 → h3.blk = g → h3.mu = 1 → W.cell? ⟨g, 0, none⟩ = some (.int .i32 1) ∧ W.frozen? ⟨g, 0, none⟩ = false) := fun W h3 D e1 e2 => D.mine0 g e1.symm e2
  have HI := hide I
  have HW1 := hide hw1
  have HR := hide hr
  have HG := hide hg
  have HD1 := hide D1
  clear I H hw1 hr hg D1
  have KMU := hide (KM.out _ _ HD1.out HG.out.symm rfl).1
  have KFR := hide (KM.out _ _ HD1.out HG.out.symm rfl).2
  have hcase : ¬ (0 ≤ b ∧ b ≤ 255) → r = (h.m, 1) := fun hn => by rw [HR.out]; exact if_neg hn
  cases h1 : decide (b < 0)
  · cases h2 : decide (255 < b)
    · have hb : 0 ≤ b ∧ b ≤ 255 := by simp at h1 h2; omega
      have HHO : Hid (Calls Tryz.prog 66 #[.pointer (some ⟨g, 4, none⟩), .int .i64 at_] w1 (HoldPost (locked h) at_ w1)) := by
        have := holder_any (locked h) at_ w1 HD1.out.rep HI.out.near
        unfold Hp.bptr at this
        rw [show (locked h).blk = g from HG.out.symm] at this
        exact this
      clear hcase
      go_enter_defers Tryz.func11, Tryz.ntmps11
      go_wp2_with (go_at_call 57; refine (Go.MuLone.lock_free muLib ⟨g, 0, none⟩ _ c0 f0).mono ?_; rintro e w' ⟨rfl, rfl⟩; rw [← HW1.out])
      refine HHO.out.mono ?_
      rintro e w2 ⟨hq2, (⟨ha, rfl⟩ | ⟨k, y, hy, hp, hbf, rfl⟩)⟩
      · have hr : r = (h.m, 9) := by
          rw [HR.out]
          exact storeM_none hb (hold_none (h := locked h) ha)
        have FIN0 : Hid (∀ W, Q w1 W → Act1 r w h (.returned (.int .i64 9)) (W.setCell ⟨g, 0, none⟩ (.int .i32 0))) := fun W hq => by
          rw [hr]
          exact (HD1.out.q hq).out1 (r := (h.m, 9)) g HG.out rfl
        have FIN := hide (FIN0.out _ (hq2.alloc (.cells #[.int .i64 0, .slice none 0 0] 111)))
        have KMU := hide (KM.out _ _ (HD1.out.q (hq2.alloc (.cells #[.int .i64 0, .slice none 0 0] 111))) HG.out.symm rfl).1
        have KFR := hide (KM.out _ _ (HD1.out.q (hq2.alloc (.cells #[.int .i64 0, .slice none 0 0] 111))) HG.out.symm rfl).2
        clear hr ha
        go_wp2_with fail
        refine leaves_cons (f := 58) (args := #[.pointer (some ⟨g, 0, none⟩)]) (by simp) (by simp [go_sem]) ?_
        refine (Go.MuLone.unlock_deferred muLib ⟨g, 0, none⟩ .returning _ KMU.out KFR.out).mono ?_
        rintro e u' w9 ⟨rfl, rfl, rfl⟩
        refine ⟨_, results_tmp rfl _ _ _, ?_⟩
        exact FIN.out
      · obtain ⟨e1, e2⟩ := hold_some (h := locked h) hy hp hbf
        obtain ⟨j, v, hj1, hj2, hj3, hv⟩ := inB_j hp
        have hm := List.mem_of_getElem? hy
        have hy10 := (HI.out.near.2 y hm).2.2
        obtain ⟨cB, fB, hrl⟩ := (HD1.out.q hq2).rep.byte hm hv
        have hr : r = ({ h.m with live := h.m.live.set k (putB y.pb j b) }, 0) := by
          rw [HR.out, storeM_some (m := h.m) hb e1 e2, hj2]
        have FIN0 : Hid (∀ o, Act1 r w h (.returned (.int .i64 0)) (((w2.setCell ⟨y.row, j, none⟩ (.int .i64 b)).alloc o).setCell ⟨g, 0, none⟩ (.int .i32 0)) ∧ ((w2.setCell ⟨y.row, j, none⟩ (.int .i64 b)).alloc o).cell? ⟨g, 0, none⟩ = some (.int .i32 1) ∧ ((w2.setCell ⟨y.row, j, none⟩ (.int .i64 b)).alloc o).frozen? ⟨g, 0, none⟩ = false) := fun o => by
          have D := ((HD1.out.q hq2).store k y hy j b).q ((Q.refl _).alloc o)
          refine ⟨?_, KM.out _ _ D HG.out.symm rfl⟩
          rw [hr]
          exact D.out1 (r := ({ h.m with live := h.m.live.set k (putB y.pb j b) }, 0)) g HG.out (m_store _ _ _ _ _)
        clear hr e1 e2 hm hp hbf hy hj2
        obtain ⟨⟨ya, yb⟩, row, cap⟩ := y
        unfold Bk.bv
        dsimp only at hj1 hj3 hv cB fB hrl FIN0 hy10 ⊢
        obtain ⟨n, hn⟩ : ∃ n, n = yb.length := ⟨_, rfl⟩
        rw [← hn] at hj3 hy10 ⊢
        have hwj : wrap64 (j : Int) = (j : Int) := by unfold wrap64; omega
        have hni : (n : Int) ≤ 10000 := by omega
        have hjn : (j : Int) < (n : Int) := by omega
        have hrn : ¬ row = w2.heap.size := by omega
        have FIN3 := FIN0.out (.cells #[.int .i64 ya, .slice (some ⟨row, 0, none⟩) n cap] 111)
        have FIN := hide FIN3.1
        have KMU := hide FIN3.2.1
        have KFR := hide FIN3.2.2
        clear FIN3 hv hn
        go_wp2_with fail
        refine leaves_cons (f := 58) (args := #[.pointer (some ⟨g, 0, none⟩)]) (by simp) (by simp [go_sem]) ?_
        refine (Go.MuLone.unlock_deferred muLib ⟨g, 0, none⟩ .returning _ KMU.out KFR.out).mono ?_
        rintro e u' w9 ⟨rfl, rfl, rfl⟩
        refine ⟨_, results_tmp rfl _ _ _, ?_⟩
        exact FIN.out
    · have hr := hcase (by simp at h2; omega)
      have FIN := hide (HD1.out.out1 (r := r) g HG.out (by rw [hr]; rfl))
      rw [hr] at FIN ⊢
      clear hcase hr HR
      go_enter_defers Tryz.func11, Tryz.ntmps11
      go_wp2_with (go_at_call 57; refine (Go.MuLone.lock_free muLib ⟨g, 0, none⟩ _ c0 f0).mono ?_; rintro e w' ⟨rfl, rfl⟩; rw [← HW1.out])
      refine leaves_cons (f := 58) (args := #[.pointer (some ⟨g, 0, none⟩)]) (by simp) (by simp [go_sem]) ?_
      refine (Go.MuLone.unlock_deferred muLib ⟨g, 0, none⟩ .returning _ KMU.out KFR.out).mono ?_
      rintro e u' w9 ⟨rfl, rfl, rfl⟩
      refine ⟨_, results_tmp rfl _ _ _, ?_⟩
      exact FIN.out
  · have hr := hcase (by simp at h1; omega)
    have FIN := hide (HD1.out.out1 (r := r) g HG.out (by rw [hr]; rfl))
    rw [hr] at FIN ⊢
    clear hcase hr HR
    go_enter_defers Tryz.func11, Tryz.ntmps11
    go_wp2_with (go_at_call 57; refine (Go.MuLone.lock_free muLib ⟨g, 0, none⟩ _ c0 f0).mono ?_; rintro e w' ⟨rfl, rfl⟩; rw [← HW1.out])
    refine leaves_cons (f := 58) (args := #[.pointer (some ⟨g, 0, none⟩)]) (by simp) (by simp [go_sem]) ?_
    refine (Go.MuLone.unlock_deferred muLib ⟨g, 0, none⟩ .returning _ KMU.out KFR.out).mono ?_
    rintro e u' w9 ⟨rfl, rfl, rfl⟩
    refine ⟨_, results_tmp rfl _ _ _, ?_⟩
    exact FIN.out
set_option maxHeartbeats 4000000 in
set_option maxRecDepth 100000 in
theorem load_act (h : Hp) (at_ : Int) (w : World) (H : HpR w h) (I : Inv h.m) (hmu : h.mu = 0) :
    Calls Tryz.prog 36 #[h.ptr, .int .i64 at_] w (Act2 (h.m, loadM h.m at_) w h) := by
  have c0 := H.mu0
  rw [hmu] at c0
  have f0 := H.free 0
  obtain ⟨w1, hw1⟩ : ∃ w1, w1 = w.setCell ⟨h.blk, 0, none⟩ (.int .i32 1) := ⟨_, rfl⟩
  have D1 : Did w h w1 (locked h) := by rw [hw1]; exact (Did.refl H).lock 1
  obtain ⟨r, hr⟩ : ∃ r, r = (h.m, loadM h.m at_) := ⟨_, rfl⟩
  rw [← hr]
  unfold Hp.ptr
  obtain ⟨g, hg⟩ : ∃ g, g = h.blk := ⟨_, rfl⟩
  rw [← hg] at c0 f0 hw1 ⊢
  have KM : Hid (∀ W h3, Did w h W h3 → h3.blk = g → h3.mu = 1 → W.cell? ⟨g, 0, none⟩ = some (.int .i32 1) ∧ W.frozen? ⟨g, 0, none⟩ = false) := fun W h3 D e1 e2 => D.mine0 g e1.symm e2
  have HI := hide I
  have HW1 := hide hw1
  have HR := hide hr
  have HG := hide hg
  have HD1 := hide D1
  clear I H hw1 hr hg D1
  have HHO : Hid (Calls Tryz.prog 66 #[.pointer (some ⟨g, 4, none⟩), .int .i64 at_] w1 (HoldPost (locked h) at_ w1)) := by
    have := holder_any (locked h) at_ w1 HD1.out.rep HI.out.near
    unfold Hp.bptr at this
    rw [show (locked h).blk = g from HG.out.symm] at this
    exact this
  have FIN0 : Hid (∀ W, Q w1 W → ∀ a b, r = (h.m, a, b) → Act2 r w h (.returned (.tuple #[.int .i64 a, .int .i64 b])) (W.setCell ⟨g, 0, none⟩ (.int .i32 0))) := fun W hq a b hr => by
    rw [hr]
    exact (HD1.out.q hq).out2 (r := (h.m, a, b)) g HG.out rfl
  go_enter_defers Tryz.func36, Tryz.ntmps36
  go_wp2_with (go_at_call 57; refine (Go.MuLone.lock_free muLib ⟨g, 0, none⟩ _ c0 f0).mono ?_; rintro e w' ⟨rfl, rfl⟩; rw [← HW1.out])
  refine HHO.out.mono ?_
  rintro e w2 ⟨hq2, (⟨ha, rfl⟩ | ⟨k, y, hy, hp, hbf, rfl⟩)⟩
  · have hr : r = (h.m, 0, 9) := by
      rw [HR.out]
      unfold loadM
      rw [show h.m.live.findIdx? (inB at_) = none from hold_none (h := locked h) ha]
    have FIN := hide (FIN0.out _ (hq2.alloc (.cells #[.int .i64 0, .slice none 0 0] 111)) 0 9 hr)
    have KMU := hide (KM.out _ _ (HD1.out.q (hq2.alloc (.cells #[.int .i64 0, .slice none 0 0] 111))) HG.out.symm rfl).1
    have KFR := hide (KM.out _ _ (HD1.out.q (hq2.alloc (.cells #[.int .i64 0, .slice none 0 0] 111))) HG.out.symm rfl).2
    clear hr ha
    go_wp2_with fail
    refine leaves_cons (f := 58) (args := #[.pointer (some ⟨g, 0, none⟩)]) (by simp) (by simp [go_sem]) ?_
    refine (Go.MuLone.unlock_deferred muLib ⟨g, 0, none⟩ .returning _ KMU.out KFR.out).mono ?_
    rintro e u' w9 ⟨rfl, rfl, rfl⟩
    refine ⟨_, results_tmp2 rfl _ _ _, ?_⟩
    exact FIN.out
  · obtain ⟨e1, e2⟩ := hold_some (h := locked h) hy hp hbf
    obtain ⟨j, v, hj1, hj2, hj3, hv⟩ := inB_j hp
    have hm := List.mem_of_getElem? hy
    have hy10 := (HI.out.near.2 y hm).2.2
    obtain ⟨cB, fB, hrl⟩ := (HD1.out.q hq2).rep.byte hm hv
    have hr0 : r = (h.m, if v = -1 then (0, 11) else (v, 0)) := by
      rw [HR.out]
      unfold loadM
      rw [show h.m.live.findIdx? (inB at_) = some k from e1]
      simp only
      rw [show h.m.live[k]? = some y.pb from e2, Option.bind_some, hj2, hv]
    clear e1 e2 hm hp hbf hy hj2
    obtain ⟨⟨ya, yb⟩, row, cap⟩ := y
    unfold Bk.bv
    dsimp only at hj1 hj3 hv cB fB hrl FIN0 hy10 ⊢
    obtain ⟨n, hn⟩ : ∃ n, n = yb.length := ⟨_, rfl⟩
    rw [← hn] at hj3 hy10 ⊢
    have hwj : wrap64 (j : Int) = (j : Int) := by unfold wrap64; omega
    have hni : (n : Int) ≤ 10000 := by omega
    have hjn : (j : Int) < (n : Int) := by omega
    have hrn : ¬ row = w2.heap.size := by omega
    have hqA := hq2.alloc (.cells #[.int .i64 ya, .slice (some ⟨row, 0, none⟩) n cap] 111)
    have KMU := hide (KM.out _ _ (HD1.out.q hqA) HG.out.symm rfl).1
    have KFR := hide (KM.out _ _ (HD1.out.q hqA) HG.out.symm rfl).2
    by_cases hv1 : v = -1
    · rw [if_pos hv1] at hr0
      subst hv1
      have FIN := hide (FIN0.out _ hqA 0 11 hr0)
      clear hr0 hv hn
      go_wp2_with fail
      refine leaves_cons (f := 58) (args := #[.pointer (some ⟨g, 0, none⟩)]) (by simp) (by simp [go_sem]) ?_
      refine (Go.MuLone.unlock_deferred muLib ⟨g, 0, none⟩ .returning _ KMU.out KFR.out).mono ?_
      rintro e u' w9 ⟨rfl, rfl, rfl⟩
      refine ⟨_, results_tmp2 rfl _ _ _, ?_⟩
      exact FIN.out
    · rw [if_neg hv1] at hr0
      have hv2 : (v != -1) = true := by simpa using hv1
      have FIN := hide (FIN0.out _ hqA v 0 hr0)
      clear hr0 hv hn
      go_wp2_with fail
      refine leaves_cons (f := 58) (args := #[.pointer (some ⟨g, 0, none⟩)]) (by simp) (by simp [go_sem]) ?_
      refine (Go.MuLone.unlock_deferred muLib ⟨g, 0, none⟩ .returning _ KMU.out KFR.out).mono ?_
      rintro e u' w9 ⟨rfl, rfl, rfl⟩
      refine ⟨_, results_tmp2 rfl _ _ _, ?_⟩
      exact FIN.out
end Go.Proofs.YtdaklffbfadghaaGreat
