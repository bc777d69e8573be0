/- New. Conditions: none. -/
import Derived.Test.YtdaklffbfadghaaGreatHqC
namespace Go.Proofs.YtdaklffbfadghaaGreat
open Go.RowKit HP
set_option linter.unusedVariables false
def shapeB (kind size piece : Int) : Bool := decide (0 ≤ kind) && decide (kind ≤ 3) && decide (1 ≤ size) && decide (size ≤ 4096) && (if kind = 3 then decide (1 ≤ piece) && decide (piece ≤ size) else decide (piece = 0))
def newM (kind size piece : Int) : HM := ⟨kind, piece, size, [], 0, 0, 0, 0⟩
def NewPost (kind size piece : Int) (w : World) (e : Ending) (w' : World) : Prop :=
  (shapeB kind size piece = false ∧ e = .returned (.tuple #[.pointer none, .int .i64 1]) ∧ Q w w') ∨
  (shapeB kind size piece = true ∧ ∃ h', e = .returned (.tuple #[h'.ptr, .int .i64 0]) ∧ HpR w' h' ∧ h'.mu = 0 ∧ h'.m = newM kind size piece ∧ Q w w' ∧ ∀ b, h'.fp b → w.heap.size ≤ b)
theorem newM_inv {kind size piece : Int} (h : shapeB kind size piece = true) : Inv (newM kind size piece) := by
  unfold shapeB at h
  simp only [Bool.and_eq_true, decide_eq_true_eq] at h
  obtain ⟨⟨⟨⟨h1, h2⟩, h3⟩, h4⟩, h5⟩ := h
  refine ⟨⟨h1, h2⟩, Fit.nil ⟨h3, h4⟩, Nat.zero_le _, ⟨Int.le_refl _, by show (0 : Int) ≤ size; omega⟩, (fun _ x hx => by cases hx), (fun e => ?_), (fun _ x hx => by cases hx), ⟨Int.le_refl _, by show (0 : Int) ≤ _; omega⟩, ⟨Int.le_refl _, by show (0 : Int) ≤ _; omega⟩, Int.le_refl _⟩
  have e : kind = 3 := e
  rw [if_pos e] at h5
  simp only [Bool.and_eq_true, decide_eq_true_eq] at h5
  exact h5
/-- the new heap -/
def newH (b wb : Nat) (kind size piece : Int) : Hp := ⟨b, 0, 0, kind, piece, size, .slice none 0 0, [], wb, 0, 0, 0, 0⟩
theorem new_rep {w : World} (b wb : Nat) (kind size piece : Int) (c : w.heap[b]? = some (.cells (newH b wb kind size piece).cells 94 (0, 0)))
    (c1 : kind = 1 → w.heap[wb]? = some (.cells #[.pointer (some ⟨b, 4, none⟩), .int .i64 0] 100 (0, 0))) (c2 : kind = 2 → w.heap[wb]? = some (.cells #[.pointer (some ⟨b, 4, none⟩), .int .i64 0] 103 (0, 0))) : HpR w (newH b wb kind size piece) :=
  ⟨c, ⟨by simp [newH], .inl ⟨rfl, rfl⟩⟩, (fun x hx => by cases hx), c1, c2, List.nodup_nil⟩
theorem alloc2_new (w : World) (a b : Obj) : ((w.alloc a).alloc b).heap[w.heap.size + 1]? = some b := by
  rw [show w.heap.size + 1 = (w.alloc a).heap.size by simp]
  exact heap_alloc_new _ _
theorem new_bad (kind size piece : Int) (w : World) (hs : shapeB kind size piece = false) :
    Calls Tryz.prog 8 #[.int .i64 kind, .int .i64 size, .int .i64 piece] w (NewPost kind size piece w) := by
  have FIN : Hid (∀ W, Q w W → NewPost kind size piece w (.returned (.tuple #[.pointer none, .int .i64 1])) W) := fun W hq => .inl ⟨hs, rfl, hq⟩
  obtain ⟨PST, hP⟩ : ∃ P, P = NewPost kind size piece w := ⟨_, rfl⟩
  rw [← hP] at FIN ⊢
  clear hP
  cases h1 : decide (kind < 0)
  · cases h2 : decide (3 < kind)
    · cases h3 : decide (size < 1)
      · cases h4 : decide (4096 < size)
        · have hk : kind = 0 ∨ kind = 1 ∨ kind = 2 ∨ kind = 3 := by simp at h1 h2; omega
          rcases hk with rfl | rfl | rfl | rfl
          · have h5 : ¬ piece = 0 := by
              simp [shapeB] at hs h3 h4
              omega
            have h5a : (piece == 0) = false := by simpa using h5
            have h5b : decide (piece = 0) = false := by simpa using h5
            go_enter Tryz.func8, Tryz.ntmps8
            go_wp2_with fail
            exact FIN.out _ (Q.refl _)
          · have h5 : ¬ piece = 0 := by
              simp [shapeB] at hs h3 h4
              omega
            have h5a : (piece == 0) = false := by simpa using h5
            have h5b : decide (piece = 0) = false := by simpa using h5
            go_enter Tryz.func8, Tryz.ntmps8
            go_wp2_with fail
            exact FIN.out _ (Q.refl _)
          · have h5 : ¬ piece = 0 := by
              simp [shapeB] at hs h3 h4
              omega
            have h5a : (piece == 0) = false := by simpa using h5
            have h5b : decide (piece = 0) = false := by simpa using h5
            go_enter Tryz.func8, Tryz.ntmps8
            go_wp2_with fail
            exact FIN.out _ (Q.refl _)
          · cases h5 : decide (piece < 1)
            · cases h6 : decide (size < piece)
              · exfalso
                simp [shapeB] at hs h1 h2 h3 h4 h5 h6
                omega
              · go_enter Tryz.func8, Tryz.ntmps8
                go_wp2_with fail
                exact FIN.out _ (Q.refl _)
            · go_enter Tryz.func8, Tryz.ntmps8
              go_wp2_with fail
              exact FIN.out _ (Q.refl _)
        · go_enter Tryz.func8, Tryz.ntmps8
          go_wp2_with fail
          exact FIN.out _ (Q.refl _)
      · go_enter Tryz.func8, Tryz.ntmps8
        go_wp2_with fail
        exact FIN.out _ (Q.refl _)
    · go_enter Tryz.func8, Tryz.ntmps8
      go_wp2_with fail
      exact FIN.out _ (Q.refl _)
  · go_enter Tryz.func8, Tryz.ntmps8
    go_wp2_with fail
    exact FIN.out _ (Q.refl _)
set_option maxHeartbeats 1000000 in
set_option maxRecDepth 100000 in
theorem new_good0 (size piece : Int) (w : World) (hs : shapeB 0 size piece = true) :
    Calls Tryz.prog 8 #[.int .i64 0, .int .i64 size, .int .i64 piece] w (NewPost 0 size piece w) := by
  have hb := hs
  simp [shapeB] at hb
  have h3 : decide (size < 1) = false := by simp; omega
  have h4 : decide (4096 < size) = false := by simp; omega
  obtain ⟨hb1, hp0⟩ : True ∧ piece = 0 := ⟨trivial, by omega⟩
  subst hp0
  have FIN : Hid (∀ W, Q w W → HpR W (newH w.heap.size 0 0 size 0) → NewPost 0 size 0 w (.returned (.tuple #[.pointer (some ⟨w.heap.size, 0, none⟩), .int .i64 0])) W) := fun W hq hR => .inr ⟨hs, newH w.heap.size 0 0 size 0, rfl, hR, rfl, rfl, hq, fun b e => by
    rcases e with e | e | ⟨x, hx, e⟩ | ⟨e1, e2⟩
    · have e : b = w.heap.size := e
      omega
    · cases e
    · cases hx
    · have e1 : (0 : Int) = 1 ∨ (0 : Int) = 2 := e1
      omega⟩
  obtain ⟨PST, hP⟩ : ∃ P, P = NewPost 0 size 0 w := ⟨_, rfl⟩
  rw [← hP] at FIN ⊢
  clear hP hb hs
  go_enter Tryz.func8, Tryz.ntmps8
  go_wp2_with fail
  refine FIN.out _ (by repeat (first | exact Q.refl _ | refine Q.alloc ?_ _ | refine Q.set ?_ (by simp) _)) ?_
  exact new_rep _ _ _ _ _ (heap_alloc_new w _) (fun e => by omega) (fun e => by omega)
set_option maxHeartbeats 1000000 in
set_option maxRecDepth 100000 in
theorem new_good1 (size piece : Int) (w : World) (hs : shapeB 1 size piece = true) :
    Calls Tryz.prog 8 #[.int .i64 1, .int .i64 size, .int .i64 piece] w (NewPost 1 size piece w) := by
  have hb := hs
  simp [shapeB] at hb
  have h3 : decide (size < 1) = false := by simp; omega
  have h4 : decide (4096 < size) = false := by simp; omega
  obtain ⟨hb1, hp0⟩ : True ∧ piece = 0 := ⟨trivial, by omega⟩
  subst hp0
  have FIN : Hid (∀ W, Q w W → HpR W (newH w.heap.size (w.heap.size + 1) 1 size 0) → NewPost 1 size 0 w (.returned (.tuple #[.pointer (some ⟨w.heap.size, 0, none⟩), .int .i64 0])) W) := fun W hq hR => .inr ⟨hs, newH w.heap.size (w.heap.size + 1) 1 size 0, rfl, hR, rfl, rfl, hq, fun b e => by
    rcases e with e | e | ⟨x, hx, e⟩ | ⟨e1, e2⟩
    · have e : b = w.heap.size := e
      omega
    · cases e
    · cases hx
    · have e2 : b = w.heap.size + 1 := e2
      omega⟩
  obtain ⟨PST, hP⟩ : ∃ P, P = NewPost 1 size 0 w := ⟨_, rfl⟩
  rw [← hP] at FIN ⊢
  clear hP hb hs
  go_enter Tryz.func8, Tryz.ntmps8
  go_wp2_with fail
  refine FIN.out _ (by repeat (first | exact Q.refl _ | refine Q.alloc ?_ _ | refine Q.set ?_ (by simp) _)) ?_
  exact new_rep _ _ _ _ _ ((heap_alloc_old _ _ (by simp)).trans (heap_alloc_new w _)) (fun _ => alloc2_new _ _ _) (fun e => by omega)
set_option maxHeartbeats 1000000 in
set_option maxRecDepth 100000 in
theorem new_good2 (size piece : Int) (w : World) (hs : shapeB 2 size piece = true) :
    Calls Tryz.prog 8 #[.int .i64 2, .int .i64 size, .int .i64 piece] w (NewPost 2 size piece w) := by
  have hb := hs
  simp [shapeB] at hb
  have h3 : decide (size < 1) = false := by simp; omega
  have h4 : decide (4096 < size) = false := by simp; omega
  obtain ⟨hb1, hp0⟩ : True ∧ piece = 0 := ⟨trivial, by omega⟩
  subst hp0
  have FIN : Hid (∀ W, Q w W → HpR W (newH w.heap.size (w.heap.size + 1) 2 size 0) → NewPost 2 size 0 w (.returned (.tuple #[.pointer (some ⟨w.heap.size, 0, none⟩), .int .i64 0])) W) := fun W hq hR => .inr ⟨hs, newH w.heap.size (w.heap.size + 1) 2 size 0, rfl, hR, rfl, rfl, hq, fun b e => by
    rcases e with e | e | ⟨x, hx, e⟩ | ⟨e1, e2⟩
    · have e : b = w.heap.size := e
      omega
    · cases e
    · cases hx
    · have e2 : b = w.heap.size + 1 := e2
      omega⟩
  obtain ⟨PST, hP⟩ : ∃ P, P = NewPost 2 size 0 w := ⟨_, rfl⟩
  rw [← hP] at FIN ⊢
  clear hP hb hs
  go_enter Tryz.func8, Tryz.ntmps8
  go_wp2_with fail
  refine FIN.out _ (by repeat (first | exact Q.refl _ | refine Q.alloc ?_ _ | refine Q.set ?_ (by simp) _)) ?_
  exact new_rep _ _ _ _ _ ((heap_alloc_old _ _ (by simp)).trans (heap_alloc_new w _)) (fun e => by omega) (fun _ => alloc2_new _ _ _)
set_option maxHeartbeats 1000000 in
set_option maxRecDepth 100000 in
theorem new_good3 (size piece : Int) (w : World) (hs : shapeB 3 size piece = true) :
    Calls Tryz.prog 8 #[.int .i64 3, .int .i64 size, .int .i64 piece] w (NewPost 3 size piece w) := by
  have hb := hs
  simp [shapeB] at hb
  have h3 : decide (size < 1) = false := by simp; omega
  have h4 : decide (4096 < size) = false := by simp; omega
  have h5 : decide (piece < 1) = false := by simp; omega
  have h6 : decide (size < piece) = false := by simp; omega
  have FIN : Hid (∀ W, Q w W → HpR W (newH w.heap.size 0 3 size piece) → NewPost 3 size piece w (.returned (.tuple #[.pointer (some ⟨w.heap.size, 0, none⟩), .int .i64 0])) W) := fun W hq hR => .inr ⟨hs, newH w.heap.size 0 3 size piece, rfl, hR, rfl, rfl, hq, fun b e => by
    rcases e with e | e | ⟨x, hx, e⟩ | ⟨e1, e2⟩
    · have e : b = w.heap.size := e
      omega
    · cases e
    · cases hx
    · have e1 : (3 : Int) = 1 ∨ (3 : Int) = 2 := e1
      omega⟩
  obtain ⟨PST, hP⟩ : ∃ P, P = NewPost 3 size piece w := ⟨_, rfl⟩
  rw [← hP] at FIN ⊢
  clear hP hb hs
  go_enter Tryz.func8, Tryz.ntmps8
  go_wp2_with fail
  refine FIN.out _ (by repeat (first | exact Q.refl _ | refine Q.alloc ?_ _ | refine Q.set ?_ (by simp) _)) ?_
  exact new_rep _ _ _ _ _ (heap_alloc_new w _) (fun e => by omega) (fun e => by omega)
theorem new_any (kind size piece : Int) (w : World) : Calls Tryz.prog 8 #[.int .i64 kind, .int .i64 size, .int .i64 piece] w (NewPost kind size piece w) := by
  cases hs : shapeB kind size piece
  · exact new_bad kind size piece w hs
  · have hb := hs
    simp only [shapeB, Bool.and_eq_true, decide_eq_true_eq] at hb
    have hk : kind = 0 ∨ kind = 1 ∨ kind = 2 ∨ kind = 3 := by omega
    rcases hk with rfl | rfl | rfl | rfl
    · exact new_good0 size piece w hs
    · exact new_good1 size piece w hs
    · exact new_good2 size piece w hs
    · exact new_good3 size piece w hs
end Go.Proofs.YtdaklffbfadghaaGreat
