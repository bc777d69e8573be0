/- A heap of the call's own; the heap that the document shows; the law HeapNil. Conditions: as each theorem says. -/
import Derived.Test.YtegpkcbmgjoicaaGreatHqF
namespace Go.Proofs.YtegpkcbmgjoicaaGreat
open Go.RowKit HP
set_option linter.unusedVariables false
/-- a heap that was made since w0, at block g, that is what m says -/
def Own (w0 w : World) (g : Nat) (m : HM) : Prop := ∃ h : Hp, h.blk = g ∧ HpR w h ∧ h.mu = 0 ∧ h.m = m ∧ Q w0 w ∧ ∀ b, h.fp b → w0.heap.size ≤ b
theorem Own.q {w0 w w' : World} {g : Nat} {m : HM} (O : Own w0 w g m) (hq : Q w w') : Own w0 w' g m := by
  obtain ⟨h, h1, h2, h3, h4, h5, h6⟩ := O
  exact ⟨h, h1, h2.q hq, h3, h4, h5.trans hq, h6⟩
theorem Own.base {w0 w w' : World} {g : Nat} {m : HM} (O : Own w w' g m) (hq : Q w0 w) : Own w0 w' g m := by
  obtain ⟨h, h1, h2, h3, h4, h5, h6⟩ := O
  exact ⟨h, h1, h2, h3, h4, hq.trans h5, fun b hb => Nat.le_trans hq.size (h6 b hb)⟩
theorem Own.toQ {w0 w : World} {g : Nat} {m : HM} (O : Own w0 w g m) : Q w0 w := by
  obtain ⟨h, h1, h2, h3, h4, h5, h6⟩ := O
  exact h5
theorem Own.did {w0 w w' : World} {h h' : Hp} {g : Nat} (hg : h.blk = g) (hq : Q w0 w) (hf : ∀ b, h.fp b → w0.heap.size ≤ b) (D : Did w h w' h') (hmu : h'.mu = 0) : Own w0 w' g h'.m :=
  ⟨h', D.blk.trans hg, D.rep, hmu, rfl, Turn.q_of hq D.turn hf, fun b hb => by
    rcases D.fp b hb with e | e
    · exact hf b e
    · exact Nat.le_trans hq.size e⟩
theorem own_new {kind size piece : Int} (hs : shapeB kind size piece = true) (w : World) :
    Calls Tryz.prog 5 #[.int .i64 kind, .int .i64 size, .int .i64 piece] w fun e w' => ∃ g, e = .returned (.tuple #[.pointer (some ⟨g, 0, none⟩), .int .i64 0]) ∧ Own w w' g (newM kind size piece) := by
  refine (new_any kind size piece w).mono ?_
  rintro e w' (⟨h1, -, -⟩ | ⟨-, h', he, h2, h3, h4, h5, h6⟩)
  · rw [hs] at h1; cases h1
  · exact ⟨h'.blk, he, h', rfl, h2, h3, h4, h5, h6⟩
theorem own_alloc {w0 w : World} {g : Nat} {m : HM} (O : Own w0 w g m) (I : Inv m) (hc : m.calls < 1000000000) (n al : Int) :
    Calls Tryz.prog 16 #[.pointer (some ⟨g, 0, none⟩), .int .i64 n, .int .i64 al] w fun e w' => e = .returned (.tuple #[.int .i64 (allocM m n al).2.1, .int .i64 (allocM m n al).2.2]) ∧ Own w0 w' g (allocM m n al).1 := by
  obtain ⟨h, rfl, h2, h3, rfl, h5, h6⟩ := O
  refine (alloc_any h n al w h2 I h3 hc).mono ?_
  rintro e w' ⟨h', he, D, hmu, hm⟩
  exact ⟨he, by rw [← hm]; exact Own.did rfl h5 h6 D hmu⟩
theorem own_free {w0 w : World} {g : Nat} {m : HM} (O : Own w0 w g m) (I : Inv m) (at_ : Int) (ha0 : -9223372036854775808 ≤ at_) (ha1 : at_ ≤ 9223372036854775807) :
    Calls Tryz.prog 17 #[.pointer (some ⟨g, 0, none⟩), .int .i64 at_] w fun e w' => e = .returned (.int .i64 (freeM m at_).2) ∧ Own w0 w' g (freeM m at_).1 := by
  obtain ⟨h, rfl, h2, h3, rfl, h5, h6⟩ := O
  refine (free_act h at_ w h2 I h3 ha0 ha1).mono ?_
  rintro e w' ⟨h', he, D, hmu, hm⟩
  exact ⟨he, by rw [← hm]; exact Own.did rfl h5 h6 D hmu⟩
def k0 : HM := newM 0 16 0
def k1 : HM := (allocM k0 4 1).1
def k2 : HM := (allocM k1 8 1).1
def k3 : HM := (allocM k2 4 1).1
def k4 : HM := (freeM k3 4).1
theorem k_facts : (allocM k0 4 1).2 = (0, 0) ∧ (allocM k1 8 1).2 = (4, 0) ∧ (allocM k2 4 1).2 = (12, 0) ∧ (freeM k3 4).2 = 0 ∧ (allocM k4 6 1).2 = (4, 0) ∧ k0.calls = 0 ∧ k1.calls = 1 ∧ k2.calls = 2 ∧ k3.calls = 3 ∧ k4.calls = 3 := by
  decide +kernel
theorem k_inv : Inv k0 ∧ Inv k1 ∧ Inv k2 ∧ Inv k3 ∧ Inv k4 := by
  have h0 : Inv k0 := newM_inv (by decide)
  have h1 : Inv k1 := alloc_inv h0 _ _
  have h2 : Inv k2 := alloc_inv h1 _ _
  have h3 : Inv k3 := alloc_inv h2 _ _
  exact ⟨h0, h1, h2, h3, free_inv h3 _⟩
set_option maxHeartbeats 2000000 in
set_option maxRecDepth 100000 in
theorem known_any (w : World) : Calls Tryz.prog 8 #[] w fun e w' => e = .returned (.bool true) ∧ Q w w' := by
  obtain ⟨f1, f2, f3, f4, f5, c0, c1, c2, c3, c4⟩ := k_facts
  obtain ⟨i0, i1, i2, i3, i4⟩ := k_inv
  have H0 := hide (own_new (kind := 0) (size := 16) (piece := 0) (by decide) w)
  have H1 : Hid (∀ W g, Own w W g k0 → Calls Tryz.prog 16 #[.pointer (some ⟨g, 0, none⟩), .int .i64 4, .int .i64 1] W fun e w' => e = .returned (.tuple #[.int .i64 0, .int .i64 0]) ∧ Own w w' g k1) := fun W g O => by
    have := own_alloc O i0 (by omega) 4 1
    rw [f1] at this
    exact this
  have H2 : Hid (∀ W g, Own w W g k1 → Calls Tryz.prog 16 #[.pointer (some ⟨g, 0, none⟩), .int .i64 8, .int .i64 1] W fun e w' => e = .returned (.tuple #[.int .i64 4, .int .i64 0]) ∧ Own w w' g k2) := fun W g O => by
    have := own_alloc O i1 (by omega) 8 1
    rw [f2] at this
    exact this
  have H3 : Hid (∀ W g, Own w W g k2 → Calls Tryz.prog 16 #[.pointer (some ⟨g, 0, none⟩), .int .i64 4, .int .i64 1] W fun e w' => e = .returned (.tuple #[.int .i64 12, .int .i64 0]) ∧ Own w w' g k3) := fun W g O => by
    have := own_alloc O i2 (by omega) 4 1
    rw [f3] at this
    exact this
  have H4 : Hid (∀ W g, Own w W g k3 → Calls Tryz.prog 17 #[.pointer (some ⟨g, 0, none⟩), .int .i64 4] W fun e w' => e = .returned (.int .i64 0) ∧ Own w w' g k4) := fun W g O => by
    have := own_free O i3 4 (by decide) (by decide)
    rw [f4] at this
    exact this
  have H5 : Hid (∀ W g, Own w W g k4 → Calls Tryz.prog 16 #[.pointer (some ⟨g, 0, none⟩), .int .i64 6, .int .i64 1] W fun e w' => e = .returned (.tuple #[.int .i64 4, .int .i64 0]) ∧ Own w w' g (allocM k4 6 1).1) := fun W g O => by
    have := own_alloc O i4 (by omega) 6 1
    rw [f5] at this
    exact this
  clear f1 f2 f3 f4 f5 c0 c1 c2 c3 c4 i0 i1 i2 i3 i4
  go_enter Tryz.func8, Tryz.ntmps8
  go_wp2_with fail
  refine H0.out.mono ?_
  rintro e w1 ⟨g, rfl, o1⟩
  have O1 := hide o1
  clear o1
  go_wp2_with fail
  refine (H1.out w1 g O1.out).mono ?_
  rintro e w2 ⟨rfl, o2⟩
  have O2 := hide o2
  clear o2
  go_wp2_with fail
  refine (H2.out w2 g O2.out).mono ?_
  rintro e w3 ⟨rfl, o3⟩
  have O3 := hide o3
  clear o3
  go_wp2_with fail
  refine (H3.out w3 g O3.out).mono ?_
  rintro e w4 ⟨rfl, o4⟩
  have O4 := hide o4
  clear o4
  go_wp2_with fail
  refine (H4.out w4 g O4.out).mono ?_
  rintro e w5 ⟨rfl, o5⟩
  have O5 := hide o5
  clear o5
  go_wp2_with fail
  refine (H5.out w5 g O5.out).mono ?_
  rintro e w6 ⟨rfl, o6⟩
  have O6 := hide o6
  clear o6
  go_wp2_with fail
  go_ret
  exact ⟨rfl, O6.out.toQ⟩
/-- which acts there are -/
def isAct (op : Int) : Bool := decide (0 ≤ op) && decide (op ≤ 6)
set_option maxHeartbeats 2000000 in
set_option maxRecDepth 100000 in
theorem act_nil (op a b : Int) (w : World) : Calls Tryz.prog 9 #[.pointer none, .agg #[.int .i64 op, .int .i64 a, .int .i64 b]] w fun e w' => e = .returned (.tuple #[.int .i64 0, .int .i64 (if isAct op then 9 else 0)]) ∧ Q w w' := by
  by_cases h0 : op = 0
  · subst h0
    rw [show (if isAct 0 then (9 : Int) else 0) = 9 from rfl]
    go_enter Tryz.func9, Tryz.ntmps9
    go_wp2_with fail
    refine (nil_alloc a b _).mono ?_
    rintro e w1 ⟨rfl, hqw1⟩
    obtain ⟨hcw1, hfw1, hzw1⟩ := hqw1.facts
    try simp at hzw1
    try have hs0w1 : w.heap.size < w1.heap.size := by omega
    try have hs1w1 : w.heap.size + 1 < w1.heap.size := by omega
    go_wp2_with fail
    go_ret2
    exact ⟨rfl, (by repeat (first | exact Q.refl _ | assumption | refine Q.drew ?_ | refine Q.drewN ?_ _ | refine Q.alloc ?_ _ | refine Q.set ?_ (by first | (simp; done) | (simp; omega) | omega) _ | refine Q.trans ?_ (by assumption)))⟩
  by_cases h1 : op = 1
  · subst h1
    rw [show (if isAct 1 then (9 : Int) else 0) = 9 from rfl]
    go_enter Tryz.func9, Tryz.ntmps9
    go_wp2_with fail
    refine (nil_free a _).mono ?_
    rintro e w1 ⟨rfl, hqw1⟩
    obtain ⟨hcw1, hfw1, hzw1⟩ := hqw1.facts
    try simp at hzw1
    try have hs0w1 : w.heap.size < w1.heap.size := by omega
    try have hs1w1 : w.heap.size + 1 < w1.heap.size := by omega
    go_wp2_with fail
    go_ret2
    exact ⟨rfl, (by repeat (first | exact Q.refl _ | assumption | refine Q.drew ?_ | refine Q.drewN ?_ _ | refine Q.alloc ?_ _ | refine Q.set ?_ (by first | (simp; done) | (simp; omega) | omega) _ | refine Q.trans ?_ (by assumption)))⟩
  by_cases h2 : op = 2
  · subst h2
    rw [show (if isAct 2 then (9 : Int) else 0) = 9 from rfl]
    go_enter Tryz.func9, Tryz.ntmps9
    go_wp2_with fail
    refine (nil_resize a b _).mono ?_
    rintro e w1 ⟨rfl, hqw1⟩
    obtain ⟨hcw1, hfw1, hzw1⟩ := hqw1.facts
    try simp at hzw1
    try have hs0w1 : w.heap.size < w1.heap.size := by omega
    try have hs1w1 : w.heap.size + 1 < w1.heap.size := by omega
    go_wp2_with fail
    go_ret2
    exact ⟨rfl, (by repeat (first | exact Q.refl _ | assumption | refine Q.drew ?_ | refine Q.drewN ?_ _ | refine Q.alloc ?_ _ | refine Q.set ?_ (by first | (simp; done) | (simp; omega) | omega) _ | refine Q.trans ?_ (by assumption)))⟩
  by_cases h3 : op = 3
  · subst h3
    rw [show (if isAct 3 then (9 : Int) else 0) = 9 from rfl]
    go_enter Tryz.func9, Tryz.ntmps9
    go_wp2_with fail
    refine (nil_reset  _).mono ?_
    rintro e w1 ⟨rfl, hqw1⟩
    obtain ⟨hcw1, hfw1, hzw1⟩ := hqw1.facts
    try simp at hzw1
    try have hs0w1 : w.heap.size < w1.heap.size := by omega
    try have hs1w1 : w.heap.size + 1 < w1.heap.size := by omega
    go_wp2_with fail
    go_ret2
    exact ⟨rfl, (by repeat (first | exact Q.refl _ | assumption | refine Q.drew ?_ | refine Q.drewN ?_ _ | refine Q.alloc ?_ _ | refine Q.set ?_ (by first | (simp; done) | (simp; omega) | omega) _ | refine Q.trans ?_ (by assumption)))⟩
  by_cases h4 : op = 4
  · subst h4
    rw [show (if isAct 4 then (9 : Int) else 0) = 9 from rfl]
    go_enter Tryz.func9, Tryz.ntmps9
    go_wp2_with fail
    refine (nil_failat a _).mono ?_
    rintro e w1 ⟨rfl, hqw1⟩
    obtain ⟨hcw1, hfw1, hzw1⟩ := hqw1.facts
    try simp at hzw1
    try have hs0w1 : w.heap.size < w1.heap.size := by omega
    try have hs1w1 : w.heap.size + 1 < w1.heap.size := by omega
    go_wp2_with fail
    go_ret2
    exact ⟨rfl, (by repeat (first | exact Q.refl _ | assumption | refine Q.drew ?_ | refine Q.drewN ?_ _ | refine Q.alloc ?_ _ | refine Q.set ?_ (by first | (simp; done) | (simp; omega) | omega) _ | refine Q.trans ?_ (by assumption)))⟩
  by_cases h5 : op = 5
  · subst h5
    rw [show (if isAct 5 then (9 : Int) else 0) = 9 from rfl]
    go_enter Tryz.func9, Tryz.ntmps9
    go_wp2_with fail
    refine (nil_store a b _).mono ?_
    rintro e w1 ⟨rfl, hqw1⟩
    obtain ⟨hcw1, hfw1, hzw1⟩ := hqw1.facts
    try simp at hzw1
    try have hs0w1 : w.heap.size < w1.heap.size := by omega
    try have hs1w1 : w.heap.size + 1 < w1.heap.size := by omega
    go_wp2_with fail
    go_ret2
    exact ⟨rfl, (by repeat (first | exact Q.refl _ | assumption | refine Q.drew ?_ | refine Q.drewN ?_ _ | refine Q.alloc ?_ _ | refine Q.set ?_ (by first | (simp; done) | (simp; omega) | omega) _ | refine Q.trans ?_ (by assumption)))⟩
  by_cases h6 : op = 6
  · subst h6
    rw [show (if isAct 6 then (9 : Int) else 0) = 9 from rfl]
    go_enter Tryz.func9, Tryz.ntmps9
    go_wp2_with fail
    refine (nil_load a _).mono ?_
    rintro e w1 ⟨rfl, hqw1⟩
    obtain ⟨hcw1, hfw1, hzw1⟩ := hqw1.facts
    try simp at hzw1
    try have hs0w1 : w.heap.size < w1.heap.size := by omega
    try have hs1w1 : w.heap.size + 1 < w1.heap.size := by omega
    go_wp2_with fail
    go_ret2
    exact ⟨rfl, (by repeat (first | exact Q.refl _ | assumption | refine Q.drew ?_ | refine Q.drewN ?_ _ | refine Q.alloc ?_ _ | refine Q.set ?_ (by first | (simp; done) | (simp; omega) | omega) _ | refine Q.trans ?_ (by assumption)))⟩
  have hn : isAct op = false := by
    unfold isAct
    rw [Bool.and_eq_false_iff]
    simp only [decide_eq_false_iff_not]
    omega
  have e0 : (op == 0) = false := by simpa using h0
  have e1 : (op == 1) = false := by simpa using h1
  have e2 : (op == 2) = false := by simpa using h2
  have e3 : (op == 3) = false := by simpa using h3
  have e4 : (op == 4) = false := by simpa using h4
  have e5 : (op == 5) = false := by simpa using h5
  have e6 : (op == 6) = false := by simpa using h6
  rw [hn]
  clear hn h0 h1 h2 h3 h4 h5 h6
  go_enter Tryz.func9, Tryz.ntmps9
  go_wp2_with fail
  go_ret2
  exact ⟨rfl, (by repeat (first | exact Q.refl _ | assumption | refine Q.drew ?_ | refine Q.drewN ?_ _ | refine Q.alloc ?_ _ | refine Q.set ?_ (by first | (simp; done) | (simp; omega) | omega) _ | refine Q.trans ?_ (by assumption)))⟩
end Go.Proofs.YtegpkcbmgjoicaaGreat
