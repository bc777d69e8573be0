/- A heap of the call's own; the heap that the document shows; the law HeapNil. Conditions: as each theorem says. -/
import Derived.Test.YtdaklffbfadghaaGreatHqF
namespace Go.Proofs.YtdaklffbfadghaaGreat
open Go.RowKit HP
set_option linter.unusedVariables false
/-- a heap that was made since w0, at block g, that is what m says -/
def Own (w0 w : World) (g : Nat) (m : HM) : Prop := ∃ h : Hp, h.blk = g ∧ HpR w h ∧ h.mu = 0 ∧ h.m = m ∧ Q w0 w ∧ ∀ b, h.fp b → w0.heap.size ≤ b
theorem Own.q {w0 w w' : World} {g : Nat} {m : HM} (O : Own w0 w g m) (hq : Q w w') : Own w0 w' g m := by
  obtain ⟨h, h1, h2, h3, h4, h5, h6⟩ := O
  exact ⟨h, h1, h2.q hq, h3, h4, h5.trans hq, h6⟩
theorem Own.base {w0 w w' : World} {g : Nat} {m : HM} (O : Own w w' g m) (hq : Q w0 w) : Own w0 w' g m := by
  obtain ⟨h, h1, h2, h3, h4, h5, h6⟩ := O
  exact ⟨h, h1, h2, h3, h4, hq.trans h5, fun b hb => Nat.le_trans hq.size (h6 b hb)⟩
theorem Own.toQ {w0 w : World} {g : Nat} {m : HM} (O : Own w0 w g m) : Q w0 w := by
  obtain ⟨h, h1, h2, h3, h4, h5, h6⟩ := O
  exact h5
theorem Own.did {w0 w w' : World} {h h' : Hp} {g : Nat} (hg : h.blk = g) (hq : Q w0 w) (hf : ∀ b, h.fp b → w0.heap.size ≤ b) (D : Did w h w' h') (hmu : h'.mu = 0) : Own w0 w' g h'.m :=
  ⟨h', D.blk.trans hg, D.rep, hmu, rfl, Turn.q_of hq D.turn hf, fun b hb => by
    rcases D.fp b hb with e | e
    · exact hf b e
    · exact Nat.le_trans hq.size e⟩
theorem own_new {kind size piece : Int} (hs : shapeB kind size piece = true) (w : World) :
    Calls Tryz.prog 8 #[.int .i64 kind, .int .i64 size, .int .i64 piece] w fun e w' => ∃ g, e = .returned (.tuple #[.pointer (some ⟨g, 0, none⟩), .int .i64 0]) ∧ Own w w' g (newM kind size piece) := by
  refine (new_any kind size piece w).mono ?_
  rintro e w' (⟨h1, -, -⟩ | ⟨-, h', he, h2, h3, h4, h5, h6⟩)
  · rw [hs] at h1; cases h1
  · exact ⟨h'.blk, he, h', rfl, h2, h3, h4, h5, h6⟩
theorem own_alloc {w0 w : World} {g : Nat} {m : HM} (O : Own w0 w g m) (I : Inv m) (hc : m.calls < 1000000000) (n al : Int) :
    Calls Tryz.prog 9 #[.pointer (some ⟨g, 0, none⟩), .int .i64 n, .int .i64 al] w fun e w' => e = .returned (.tuple #[.int .i64 (allocM m n al).2.1, .int .i64 (allocM m n al).2.2]) ∧ Own w0 w' g (allocM m n al).1 := by
  obtain ⟨h, rfl, h2, h3, rfl, h5, h6⟩ := O
  refine (alloc_any h n al w h2 I h3 hc).mono ?_
  rintro e w' ⟨h', he, D, hmu, hm⟩
  exact ⟨he, by rw [← hm]; exact Own.did rfl h5 h6 D hmu⟩
theorem own_free {w0 w : World} {g : Nat} {m : HM} (O : Own w0 w g m) (I : Inv m) (at_ : Int) (ha0 : -9223372036854775808 ≤ at_) (ha1 : at_ ≤ 9223372036854775807) :
    Calls Tryz.prog 108 #[.pointer (some ⟨g, 0, none⟩), .int .i64 at_] w fun e w' => e = .returned (.int .i64 (freeM m at_).2) ∧ Own w0 w' g (freeM m at_).1 := by
  obtain ⟨h, rfl, h2, h3, rfl, h5, h6⟩ := O
  refine (free_act h at_ w h2 I h3 ha0 ha1).mono ?_
  rintro e w' ⟨h', he, D, hmu, hm⟩
  exact ⟨he, by rw [← hm]; exact Own.did rfl h5 h6 D hmu⟩
def k0 : HM := newM 0 16 0
def k1 : HM := (allocM k0 4 1).1
def k2 : HM := (allocM k1 8 1).1
def k3 : HM := (allocM k2 4 1).1
def k4 : HM := (freeM k3 4).1
theorem k_facts : (allocM k0 4 1).2 = (0, 0) ∧ (allocM k1 8 1).2 = (4, 0) ∧ (allocM k2 4 1).2 = (12, 0) ∧ (freeM k3 4).2 = 0 ∧ (allocM k4 6 1).2 = (4, 0) ∧ k0.calls = 0 ∧ k1.calls = 1 ∧ k2.calls = 2 ∧ k3.calls = 3 ∧ k4.calls = 3 := by
  decide +kernel
theorem k_inv : Inv k0 ∧ Inv k1 ∧ Inv k2 ∧ Inv k3 ∧ Inv k4 := by
  have h0 : Inv k0 := newM_inv (by decide)
  have h1 : Inv k1 := alloc_inv h0 _ _
  have h2 : Inv k2 := alloc_inv h1 _ _
  have h3 : Inv k3 := alloc_inv h2 _ _
  exact ⟨h0, h1, h2, h3, free_inv h3 _⟩
/-- which acts there are -/
def isAct (op : Int) : Bool := decide (0 ≤ op) && decide (op ≤ 6)
end Go.Proofs.YtdaklffbfadghaaGreat
