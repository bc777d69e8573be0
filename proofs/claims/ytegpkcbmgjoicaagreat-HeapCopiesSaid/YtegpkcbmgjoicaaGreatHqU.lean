/- The acts of a script, done on a heap. Conditions: the heap reads so, it is unlocked, its numbers are within bounds. -/
import Derived.Test.YtegpkcbmgjoicaaGreatHqT
namespace Go.Proofs.YtegpkcbmgjoicaaGreat
open Go.RowKit HP
set_option linter.unusedVariables false
theorem resize_act (h : Hp) (at_ n : Int) (w : World) (H : HpR w h) (I : Inv h.m) (hmu : h.mu = 0) (hcl : h.calls < 1000000000) (ha0 : -9223372036854775808 ≤ at_) (ha1 : at_ ≤ 9223372036854775807) :
    Calls Tryz.prog 18 #[h.ptr, .int .i64 at_, .int .i64 n] w (Act2 (resizeM h.m at_ n) w h) := by
  cases hs : sizeB n
  · exact resize_bad1 h at_ n w H I hmu hcl ha0 ha1 hs
  · cases hh : has h.m.live at_
    · exact resize_bad2 h at_ n w H I hmu hcl ha0 ha1 hs hh
    · by_cases hf : h.failIn = 1
      · exact resize_bad3 h at_ n w H I hmu hcl ha0 ha1 hs hh hf
      · exact resize_main h at_ n w H I hmu hcl ha0 ha1 hs hh hf
def actM (m : HM) (op a b : Int) : HM × Int × Int :=
  if op = 0 then allocM m a b
  else if op = 1 then ((freeM m a).1, 0, (freeM m a).2)
  else if op = 2 then resizeM m a b
  else if op = 3 then ((resetM m).1, 0, (resetM m).2)
  else if op = 4 then ((failAtM m a).1, 0, (failAtM m a).2)
  else if op = 5 then ((storeM m a b).1, 0, (storeM m a b).2)
  else if op = 6 then (m, loadM m a)
  else (m, 0, 0)
theorem act_inv {m : HM} (I : Inv m) (op a b : Int) : Inv (actM m op a b).1 := by
  unfold actM
  split
  · exact alloc_inv I _ _
  · split
    · exact free_inv I _
    · split
      · exact resize_inv I _ _
      · split
        · exact reset_inv I
        · split
          · exact failAt_inv I _
          · split
            · exact store_inv I _ _
            · split <;> exact I
theorem act_calls (m : HM) (op a b : Int) : (actM m op a b).1.calls ≤ m.calls + 1 := by
  have hc : (countM m).calls = m.calls + 1 := rfl
  unfold actM
  split
  · unfold allocM
    split
    · show m.calls ≤ _; omega
    · split
      · exact Int.le_refl _
      · split <;> exact Int.le_refl _
  · split
    · unfold freeM
      split <;> (show m.calls ≤ _; omega)
    · split
      · unfold resizeM
        split
        · show m.calls ≤ _; omega
        · split
          · show m.calls ≤ _; omega
          · split
            · exact Int.le_refl _
            · split
              · exact Int.le_refl _
              · split <;> exact Int.le_refl _
      · split
        · unfold resetM
          split <;> (show m.calls ≤ _; omega)
        · split
          · unfold failAtM
            split <;> (show m.calls ≤ _; omega)
          · split
            · unfold storeM
              split
              · split
                · show m.calls ≤ _; omega
                · split <;> (show m.calls ≤ _; omega)
              · show m.calls ≤ _; omega
            · split <;> (show m.calls ≤ _; omega)
theorem act_size (m : HM) (op a b : Int) : (actM m op a b).1.size = m.size ∧ (actM m op a b).1.kind = m.kind ∧ (actM m op a b).1.piece = m.piece := by
  unfold actM
  split
  · unfold allocM
    split
    · exact ⟨rfl, rfl, rfl⟩
    · split
      · exact ⟨rfl, rfl, rfl⟩
      · split <;> exact ⟨rfl, rfl, rfl⟩
  · split
    · unfold freeM
      split <;> exact ⟨rfl, rfl, rfl⟩
    · split
      · unfold resizeM
        split
        · exact ⟨rfl, rfl, rfl⟩
        · split
          · exact ⟨rfl, rfl, rfl⟩
          · split
            · exact ⟨rfl, rfl, rfl⟩
            · split
              · exact ⟨rfl, rfl, rfl⟩
              · split <;> exact ⟨rfl, rfl, rfl⟩
      · split
        · unfold resetM
          split <;> exact ⟨rfl, rfl, rfl⟩
        · split
          · unfold failAtM
            split <;> exact ⟨rfl, rfl, rfl⟩
          · split
            · unfold storeM
              split
              · split
                · exact ⟨rfl, rfl, rfl⟩
                · split <;> exact ⟨rfl, rfl, rfl⟩
              · exact ⟨rfl, rfl, rfl⟩
            · split <;> exact ⟨rfl, rfl, rfl⟩
theorem Act2.from_q {r : HM × Int × Int} {w W w' : World} {h : Hp} {e : Ending} (H : HpR w h) (hq : Q w W) (a : Act2 r W h e w') : Act2 r w h e w' := by
  obtain ⟨h', e1, D, e2, e3⟩ := a
  exact ⟨h', e1, (Did.of_q H hq).trans D, e2, e3⟩
theorem Act1.from_q {r : HM × Int} {w W w' : World} {h : Hp} {e : Ending} (H : HpR w h) (hq : Q w W) (a : Act1 r W h e w') : e = .returned (.int .i64 r.2) ∧ Act2 (r.1, 0, r.2) w h (.returned (.tuple #[.int .i64 0, .int .i64 r.2])) w' := by
  obtain ⟨h', e1, D, e2, e3⟩ := a
  exact ⟨e1, h', rfl, (Did.of_q H hq).trans D, e2, e3⟩
set_option maxHeartbeats 4000000 in
set_option maxRecDepth 100000 in
theorem act_any (h : Hp) (op a b : Int) (w : World) (H : HpR w h) (I : Inv h.m) (hmu : h.mu = 0) (hcl : h.calls < 1000000000) (ha0 : -9223372036854775808 ≤ a) (ha1 : a ≤ 9223372036854775807) :
    Calls Tryz.prog 9 #[h.ptr, .agg #[.int .i64 op, .int .i64 a, .int .i64 b]] w (Act2 (actM h.m op a b) w h) := by
  obtain ⟨g, hg⟩ : ∃ g, g = h.blk := ⟨_, rfl⟩
  have hptr : h.ptr = .pointer (some ⟨g, 0, none⟩) := by unfold Hp.ptr; rw [hg]
  obtain ⟨PST, hP⟩ : ∃ P, P = Act2 (actM h.m op a b) w h := ⟨_, rfl⟩
  rw [← hP, hptr]
  by_cases h0 : op = 0
  · subst h0
    have hr : actM h.m 0 a b = allocM h.m a b := by unfold actM; rw [if_pos rfl]
    rw [hr] at hP
    obtain ⟨x, hx⟩ : ∃ x, x = (allocM h.m a b).2.1 := ⟨_, rfl⟩
    obtain ⟨y, hy⟩ : ∃ y, y = (allocM h.m a b).2.2 := ⟨_, rfl⟩
    have HA : Hid (∀ W, Q w W → Calls Tryz.prog 16 #[.pointer (some ⟨g, 0, none⟩), .int .i64 a, .int .i64 b] W fun e w' => e = .returned (.tuple #[.int .i64 x, .int .i64 y]) ∧ PST (.returned (.tuple #[.int .i64 x, .int .i64 y])) w') := fun W hq => by
      have := alloc_any h a b W (H.q hq) I hmu hcl
      rw [hptr] at this
      refine this.mono ?_
      intro e w' hA
      have he : e = .returned (.tuple #[.int .i64 x, .int .i64 y]) := by obtain ⟨h', e1, -⟩ := hA; rw [e1, hx, hy]
      subst he
      refine ⟨rfl, ?_⟩
      rw [hP]
      exact hA.from_q H hq
    clear H I hmu hcl hP hx hy hr hptr hg
    go_enter Tryz.func9, Tryz.ntmps9
    go_wp2_with fail
    refine (HA.out _ (by repeat (first | exact Q.refl _ | assumption | refine Q.drew ?_ | refine Q.drewN ?_ _ | refine Q.alloc ?_ _ | refine Q.set ?_ (by first | (simp; done) | (simp; omega) | omega) _ | refine Q.trans ?_ (by assumption)))).mono ?_
    rintro e w1 ⟨rfl, hA⟩
    have HF := hide hA
    clear hA
    go_wp2_with fail
    first | exact HF.out | (go_ret2; exact HF.out)
  by_cases h1 : op = 1
  · subst h1
    have hr : actM h.m 1 a b = ((freeM h.m a).1, 0, (freeM h.m a).2) := by unfold actM; rw [if_neg (by decide), if_pos rfl]
    rw [hr] at hP
    obtain ⟨y, hy⟩ : ∃ y, y = (freeM h.m a).2 := ⟨_, rfl⟩
    have HA : Hid (∀ W, Q w W → Calls Tryz.prog 17 #[.pointer (some ⟨g, 0, none⟩), .int .i64 a] W fun e w' => e = .returned (.int .i64 y) ∧ PST (.returned (.tuple #[.int .i64 0, .int .i64 y])) w') := fun W hq => by
      have := free_act h a W (H.q hq) I hmu ha0 ha1
      rw [hptr] at this
      refine this.mono ?_
      intro e w' hA
      obtain ⟨e1, e2⟩ := hA.from_q H hq
      refine ⟨by rw [e1, hy], ?_⟩
      rw [hP, hy]
      exact e2
    clear H I hmu hcl hP hy hr hptr hg
    go_enter Tryz.func9, Tryz.ntmps9
    go_wp2_with fail
    refine (HA.out _ (by repeat (first | exact Q.refl _ | assumption | refine Q.drew ?_ | refine Q.drewN ?_ _ | refine Q.alloc ?_ _ | refine Q.set ?_ (by first | (simp; done) | (simp; omega) | omega) _ | refine Q.trans ?_ (by assumption)))).mono ?_
    rintro e w1 ⟨rfl, hA⟩
    have HF := hide hA
    clear hA
    go_wp2_with fail
    first | exact HF.out | (go_ret2; exact HF.out)
  by_cases h2 : op = 2
  · subst h2
    have hr : actM h.m 2 a b = resizeM h.m a b := by unfold actM; rw [if_neg (by decide), if_neg (by decide), if_pos rfl]
    rw [hr] at hP
    obtain ⟨x, hx⟩ : ∃ x, x = (resizeM h.m a b).2.1 := ⟨_, rfl⟩
    obtain ⟨y, hy⟩ : ∃ y, y = (resizeM h.m a b).2.2 := ⟨_, rfl⟩
    have HA : Hid (∀ W, Q w W → Calls Tryz.prog 18 #[.pointer (some ⟨g, 0, none⟩), .int .i64 a, .int .i64 b] W fun e w' => e = .returned (.tuple #[.int .i64 x, .int .i64 y]) ∧ PST (.returned (.tuple #[.int .i64 x, .int .i64 y])) w') := fun W hq => by
      have := resize_act h a b W (H.q hq) I hmu hcl ha0 ha1
      rw [hptr] at this
      refine this.mono ?_
      intro e w' hA
      have he : e = .returned (.tuple #[.int .i64 x, .int .i64 y]) := by obtain ⟨h', e1, -⟩ := hA; rw [e1, hx, hy]
      subst he
      refine ⟨rfl, ?_⟩
      rw [hP]
      exact hA.from_q H hq
    clear H I hmu hcl hP hx hy hr hptr hg
    go_enter Tryz.func9, Tryz.ntmps9
    go_wp2_with fail
    refine (HA.out _ (by repeat (first | exact Q.refl _ | assumption | refine Q.drew ?_ | refine Q.drewN ?_ _ | refine Q.alloc ?_ _ | refine Q.set ?_ (by first | (simp; done) | (simp; omega) | omega) _ | refine Q.trans ?_ (by assumption)))).mono ?_
    rintro e w1 ⟨rfl, hA⟩
    have HF := hide hA
    clear hA
    go_wp2_with fail
    first | exact HF.out | (go_ret2; exact HF.out)
  by_cases h3 : op = 3
  · subst h3
    have hr : actM h.m 3 a b = ((resetM h.m).1, 0, (resetM h.m).2) := by unfold actM; rw [if_neg (by decide), if_neg (by decide), if_neg (by decide), if_pos rfl]
    rw [hr] at hP
    obtain ⟨y, hy⟩ : ∃ y, y = (resetM h.m).2 := ⟨_, rfl⟩
    have HA : Hid (∀ W, Q w W → Calls Tryz.prog 19 #[.pointer (some ⟨g, 0, none⟩)] W fun e w' => e = .returned (.int .i64 y) ∧ PST (.returned (.tuple #[.int .i64 0, .int .i64 y])) w') := fun W hq => by
      have := reset_act h W (H.q hq) I hmu
      rw [hptr] at this
      refine this.mono ?_
      intro e w' hA
      obtain ⟨e1, e2⟩ := hA.from_q H hq
      refine ⟨by rw [e1, hy], ?_⟩
      rw [hP, hy]
      exact e2
    clear H I hmu hcl hP hy hr hptr hg
    go_enter Tryz.func9, Tryz.ntmps9
    go_wp2_with fail
    refine (HA.out _ (by repeat (first | exact Q.refl _ | assumption | refine Q.drew ?_ | refine Q.drewN ?_ _ | refine Q.alloc ?_ _ | refine Q.set ?_ (by first | (simp; done) | (simp; omega) | omega) _ | refine Q.trans ?_ (by assumption)))).mono ?_
    rintro e w1 ⟨rfl, hA⟩
    have HF := hide hA
    clear hA
    go_wp2_with fail
    first | exact HF.out | (go_ret2; exact HF.out)
  by_cases h4 : op = 4
  · subst h4
    have hr : actM h.m 4 a b = ((failAtM h.m a).1, 0, (failAtM h.m a).2) := by unfold actM; rw [if_neg (by decide), if_neg (by decide), if_neg (by decide), if_neg (by decide), if_pos rfl]
    rw [hr] at hP
    obtain ⟨y, hy⟩ : ∃ y, y = (failAtM h.m a).2 := ⟨_, rfl⟩
    have HA : Hid (∀ W, Q w W → Calls Tryz.prog 20 #[.pointer (some ⟨g, 0, none⟩), .int .i64 a] W fun e w' => e = .returned (.int .i64 y) ∧ PST (.returned (.tuple #[.int .i64 0, .int .i64 y])) w') := fun W hq => by
      have := failAt_act h a W (H.q hq) I hmu
      rw [hptr] at this
      refine this.mono ?_
      intro e w' hA
      obtain ⟨e1, e2⟩ := hA.from_q H hq
      refine ⟨by rw [e1, hy], ?_⟩
      rw [hP, hy]
      exact e2
    clear H I hmu hcl hP hy hr hptr hg
    go_enter Tryz.func9, Tryz.ntmps9
    go_wp2_with fail
    refine (HA.out _ (by repeat (first | exact Q.refl _ | assumption | refine Q.drew ?_ | refine Q.drewN ?_ _ | refine Q.alloc ?_ _ | refine Q.set ?_ (by first | (simp; done) | (simp; omega) | omega) _ | refine Q.trans ?_ (by assumption)))).mono ?_
    rintro e w1 ⟨rfl, hA⟩
    have HF := hide hA
    clear hA
    go_wp2_with fail
    first | exact HF.out | (go_ret2; exact HF.out)
  by_cases h5 : op = 5
  · subst h5
    have hr : actM h.m 5 a b = ((storeM h.m a b).1, 0, (storeM h.m a b).2) := by unfold actM; rw [if_neg (by decide), if_neg (by decide), if_neg (by decide), if_neg (by decide), if_neg (by decide), if_pos rfl]
    rw [hr] at hP
    obtain ⟨y, hy⟩ : ∃ y, y = (storeM h.m a b).2 := ⟨_, rfl⟩
    have HA : Hid (∀ W, Q w W → Calls Tryz.prog 21 #[.pointer (some ⟨g, 0, none⟩), .int .i64 a, .int .i64 b] W fun e w' => e = .returned (.int .i64 y) ∧ PST (.returned (.tuple #[.int .i64 0, .int .i64 y])) w') := fun W hq => by
      have := store_act h a b W (H.q hq) I hmu
      rw [hptr] at this
      refine this.mono ?_
      intro e w' hA
      obtain ⟨e1, e2⟩ := hA.from_q H hq
      refine ⟨by rw [e1, hy], ?_⟩
      rw [hP, hy]
      exact e2
    clear H I hmu hcl hP hy hr hptr hg
    go_enter Tryz.func9, Tryz.ntmps9
    go_wp2_with fail
    refine (HA.out _ (by repeat (first | exact Q.refl _ | assumption | refine Q.drew ?_ | refine Q.drewN ?_ _ | refine Q.alloc ?_ _ | refine Q.set ?_ (by first | (simp; done) | (simp; omega) | omega) _ | refine Q.trans ?_ (by assumption)))).mono ?_
    rintro e w1 ⟨rfl, hA⟩
    have HF := hide hA
    clear hA
    go_wp2_with fail
    first | exact HF.out | (go_ret2; exact HF.out)
  by_cases h6 : op = 6
  · subst h6
    have hr : actM h.m 6 a b = (h.m, loadM h.m a) := by unfold actM; rw [if_neg (by decide), if_neg (by decide), if_neg (by decide), if_neg (by decide), if_neg (by decide), if_neg (by decide), if_pos rfl]
    rw [hr] at hP
    obtain ⟨x, hx⟩ : ∃ x, x = ((h.m, loadM h.m a)).2.1 := ⟨_, rfl⟩
    obtain ⟨y, hy⟩ : ∃ y, y = ((h.m, loadM h.m a)).2.2 := ⟨_, rfl⟩
    have HA : Hid (∀ W, Q w W → Calls Tryz.prog 22 #[.pointer (some ⟨g, 0, none⟩), .int .i64 a] W fun e w' => e = .returned (.tuple #[.int .i64 x, .int .i64 y]) ∧ PST (.returned (.tuple #[.int .i64 x, .int .i64 y])) w') := fun W hq => by
      have := load_act h a W (H.q hq) I hmu
      rw [hptr] at this
      refine this.mono ?_
      intro e w' hA
      have he : e = .returned (.tuple #[.int .i64 x, .int .i64 y]) := by obtain ⟨h', e1, -⟩ := hA; rw [e1, hx, hy]
      subst he
      refine ⟨rfl, ?_⟩
      rw [hP]
      exact hA.from_q H hq
    clear H I hmu hcl hP hx hy hr hptr hg
    go_enter Tryz.func9, Tryz.ntmps9
    go_wp2_with fail
    refine (HA.out _ (by repeat (first | exact Q.refl _ | assumption | refine Q.drew ?_ | refine Q.drewN ?_ _ | refine Q.alloc ?_ _ | refine Q.set ?_ (by first | (simp; done) | (simp; omega) | omega) _ | refine Q.trans ?_ (by assumption)))).mono ?_
    rintro e w1 ⟨rfl, hA⟩
    have HF := hide hA
    clear hA
    go_wp2_with fail
    first | exact HF.out | (go_ret2; exact HF.out)
  have hr : actM h.m op a b = (h.m, 0, 0) := by unfold actM; rw [if_neg h0, if_neg h1, if_neg h2, if_neg h3, if_neg h4, if_neg h5, if_neg h6]
  have e0 : (op == 0) = false := by simpa using h0
  have e1 : (op == 1) = false := by simpa using h1
  have e2 : (op == 2) = false := by simpa using h2
  have e3 : (op == 3) = false := by simpa using h3
  have e4 : (op == 4) = false := by simpa using h4
  have e5 : (op == 5) = false := by simpa using h5
  have e6 : (op == 6) = false := by simpa using h6
  have HF : Hid (∀ W, Q w W → PST (.returned (.tuple #[.int .i64 0, .int .i64 0])) W) := fun W hq => by
    rw [hP, hr]
    exact ⟨h, rfl, Did.of_q H hq, hmu, rfl⟩
  clear h0 h1 h2 h3 h4 h5 h6 H I hmu hcl hP hr hptr hg
  go_enter Tryz.func9, Tryz.ntmps9
  go_wp2_with fail
  first | exact HF.out _ (by repeat (first | exact Q.refl _ | assumption | refine Q.drew ?_ | refine Q.drewN ?_ _ | refine Q.alloc ?_ _ | refine Q.set ?_ (by first | (simp; done) | (simp; omega) | omega) _ | refine Q.trans ?_ (by assumption))) | (go_ret2; exact HF.out _ (by repeat (first | exact Q.refl _ | assumption | refine Q.drew ?_ | refine Q.drewN ?_ _ | refine Q.alloc ?_ _ | refine Q.set ?_ (by first | (simp; done) | (simp; omega) | omega) _ | refine Q.trans ?_ (by assumption))))
theorem own_act {w0 w : World} {g : Nat} {m : HM} (O : Own w0 w g m) (I : Inv m) (hc : m.calls < 1000000000) (op a b : Int) (ha0 : -9223372036854775808 ≤ a) (ha1 : a ≤ 9223372036854775807) :
    Calls Tryz.prog 9 #[.pointer (some ⟨g, 0, none⟩), .agg #[.int .i64 op, .int .i64 a, .int .i64 b]] w fun e w' => e = .returned (.tuple #[.int .i64 (actM m op a b).2.1, .int .i64 (actM m op a b).2.2]) ∧ Own w0 w' g (actM m op a b).1 := by
  obtain ⟨h, rfl, h2, h3, rfl, h5, h6⟩ := O
  refine (act_any h op a b w h2 I h3 hc ha0 ha1).mono ?_
  rintro e w' ⟨h', he, D, hmu, hm⟩
  exact ⟨he, by rw [← hm]; exact Own.did rfl h5 h6 D hmu⟩
/-! what a heap of the call's own shows -/
def isLive (w0 : World) (m : HM) (v : Value) (w : World) : Prop := ∃ A c, v = .slice A (stretches m).length c ∧ Sl 2 encP w A (stretches m).length c (stretches m) ∧ w.ownsRow w0.heap.size 88 2 v (stretches m).length ((stretches m).flatMap encP)
theorem own_live {w0 w : World} {g : Nat} {m : HM} (O : Own w0 w g m) (I : Inv m) :
    Calls Tryz.prog 30 #[.pointer (some ⟨g, 0, none⟩)] w fun e w' => ∃ v, e = .returned v ∧ isLive w m v w' ∧ Own w0 w' g m ∧ Q w0 w' := by
  obtain ⟨h, rfl, h2, h3, rfl, h5, h6⟩ := O
  refine (live_act h w h2 I h3).mono ?_
  rintro e w' ⟨v, h', rfl, ho, D, hmu, hm⟩
  have O' := Own.did (h := h) rfl h5 h6 D hmu
  rw [hm] at O'
  have hl : (stretches h.m).length = h.bks.length := by unfold stretches Hp.m; simp
  rw [← hl] at ho
  obtain ⟨A, c, rfl, -⟩ := own_form ho
  exact ⟨_, rfl, ⟨A, c, rfl, Sl.own (own_low ho (Nat.zero_le _)) (fun _ => rfl) (by decide), ho⟩, O', O'.toQ⟩
theorem own_used {w0 w : World} {g : Nat} {m : HM} (O : Own w0 w g m) (I : Inv m) :
    Calls Tryz.prog 31 #[.pointer (some ⟨g, 0, none⟩)] w fun e w' => e = .returned (.int .i64 (used m.live)) ∧ Own w0 w' g m := by
  obtain ⟨h, rfl, h2, h3, rfl, h5, h6⟩ := O
  refine (used_act h w h2 I h3).mono ?_
  rintro e w' ⟨h', rfl, D, hmu, hm⟩
  have O' := Own.did (h := h) rfl h5 h6 D hmu
  rw [hm] at O'
  exact ⟨rfl, O'⟩
theorem own_peak {w0 w : World} {g : Nat} {m : HM} (O : Own w0 w g m) (I : Inv m) :
    Calls Tryz.prog 33 #[.pointer (some ⟨g, 0, none⟩)] w fun e w' => e = .returned (.int .i64 (m.peak)) ∧ Own w0 w' g m := by
  obtain ⟨h, rfl, h2, h3, rfl, h5, h6⟩ := O
  refine (peak_act h w h2 I h3).mono ?_
  rintro e w' ⟨h', rfl, D, hmu, hm⟩
  have O' := Own.did (h := h) rfl h5 h6 D hmu
  rw [hm] at O'
  exact ⟨rfl, O'⟩
theorem own_calls {w0 w : World} {g : Nat} {m : HM} (O : Own w0 w g m) (I : Inv m) :
    Calls Tryz.prog 34 #[.pointer (some ⟨g, 0, none⟩)] w fun e w' => e = .returned (.int .i64 (m.calls)) ∧ Own w0 w' g m := by
  obtain ⟨h, rfl, h2, h3, rfl, h5, h6⟩ := O
  refine (calls_act h w h2 I h3).mono ?_
  rintro e w' ⟨h', rfl, D, hmu, hm⟩
  have O' := Own.did (h := h) rfl h5 h6 D hmu
  rw [hm] at O'
  exact ⟨rfl, O'⟩
end Go.Proofs.YtegpkcbmgjoicaaGreat
