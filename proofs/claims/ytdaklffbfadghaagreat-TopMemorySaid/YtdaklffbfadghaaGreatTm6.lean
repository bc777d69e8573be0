/- New. What holds of every heap stays behind Alloc and Free. No program. What a missing heap returns, method by method. A heap of the call's own; the heap that the document shows; the law HeapNil. FailAt, Reset, Used, Peak, Calls. holder: the block that has a byte; a byte stored into a heap. Store, Load. Live: the begins and lengths of the live blocks. Parts of Resize: more steps of regions that draw their order; slices.Clone of numbers; alignOf; a live block's bytes exchanged. Resize in plain Lean; a live block's bytes exchanged. Conditions: as each theorem says. -/
import Derived.Test.YtdaklffbfadghaaGreatTm5
namespace Go.Proofs.YtdaklffbfadghaaGreat
open Go.RowKit HP
set_option linter.unusedVariables false
def shapeB (kind size piece : Int) : Bool := decide (0 ≤ kind) && decide (kind ≤ 3) && decide (1 ≤ size) && decide (size ≤ 4096) && (if kind = 3 then decide (1 ≤ piece) && decide (piece ≤ size) else decide (piece = 0))
def newM (kind size piece : Int) : HM := ⟨kind, piece, size, [], 0, 0, 0, 0⟩
def NewPost (kind size piece : Int) (w : World) (e : Ending) (w' : World) : Prop :=
  (shapeB kind size piece = false ∧ e = .returned (.tuple #[.pointer none, .int .i64 1]) ∧ Q w w') ∨
  (shapeB kind size piece = true ∧ ∃ h', e = .returned (.tuple #[h'.ptr, .int .i64 0]) ∧ HpR w' h' ∧ h'.mu = 0 ∧ h'.m = newM kind size piece ∧ Q w w' ∧ ∀ b, h'.fp b → w.heap.size ≤ b)
theorem newM_inv {kind size piece : Int} (h : shapeB kind size piece = true) : Inv (newM kind size piece) := by
  unfold shapeB at h
  simp only [Bool.and_eq_true, decide_eq_true_eq] at h
  obtain ⟨⟨⟨⟨h1, h2⟩, h3⟩, h4⟩, h5⟩ := h
  refine ⟨⟨h1, h2⟩, Fit.nil ⟨h3, h4⟩, Nat.zero_le _, ⟨Int.le_refl _, by show (0 : Int) ≤ size; omega⟩, (fun _ x hx => by cases hx), (fun e => ?_), (fun _ x hx => by cases hx), ⟨Int.le_refl _, by show (0 : Int) ≤ _; omega⟩, ⟨Int.le_refl _, by show (0 : Int) ≤ _; omega⟩, Int.le_refl _⟩
  have e : kind = 3 := e
  rw [if_pos e] at h5
  simp only [Bool.and_eq_true, decide_eq_true_eq] at h5
  exact h5
/-- the new heap -/
def newH (b wb : Nat) (kind size piece : Int) : Hp := ⟨b, 0, 0, kind, piece, size, .slice none 0 0, [], wb, 0, 0, 0, 0⟩
theorem new_rep {w : World} (b wb : Nat) (kind size piece : Int) (c : w.heap[b]? = some (.cells (newH b wb kind size piece).cells 94 (0, 0)))
    (c1 : kind = 1 → w.heap[wb]? = some (.cells #[.pointer (some ⟨b, 4, none⟩), .int .i64 0] 100 (0, 0))) (c2 : kind = 2 → w.heap[wb]? = some (.cells #[.pointer (some ⟨b, 4, none⟩), .int .i64 0] 103 (0, 0))) : HpR w (newH b wb kind size piece) :=
  ⟨c, ⟨by simp [newH], .inl ⟨rfl, rfl⟩⟩, (fun x hx => by cases hx), c1, c2, List.nodup_nil⟩
theorem alloc2_new (w : World) (a b : Obj) : ((w.alloc a).alloc b).heap[w.heap.size + 1]? = some b := by
  rw [show w.heap.size + 1 = (w.alloc a).heap.size by simp]
  exact heap_alloc_new _ _
theorem new_bad (kind size piece : Int) (w : World) (hs : shapeB kind size piece = false) :
    Calls Tryz.prog 8 #[.int .i64 kind, .int .i64 size, .int .i64 piece] w (NewPost kind size piece w) := by
  have FIN : Hid (∀ W, Q w W → NewPost kind size piece w (.returned (.tuple #[.pointer none, .int .i64 1])) W) := fun W hq => .inl ⟨hs, rfl, hq⟩
  obtain ⟨PST, hP⟩ : ∃ P, P = NewPost kind size piece w := ⟨_, rfl⟩
  rw [← hP] at FIN ⊢
  clear hP
  cases h1 : decide (kind < 0)
  · cases h2 : decide (3 < kind)
    · cases h3 : decide (size < 1)
      · cases h4 : decide (4096 < size)
        · have hk : kind = 0 ∨ kind = 1 ∨ kind = 2 ∨ kind = 3 := by simp at h1 h2; omega
          rcases hk with rfl | rfl | rfl | rfl
          · have h5 : ¬ piece = 0 := by
              simp [shapeB] at hs h3 h4
              omega
            have h5a : (piece == 0) = false := by simpa using h5
            have h5b : decide (piece = 0) = false := by simpa using h5
            go_enter Tryz.func8, Tryz.ntmps8
            go_wp2_with fail
            exact FIN.out _ (Q.refl _)
          · have h5 : ¬ piece = 0 := by
              simp [shapeB] at hs h3 h4
              omega
            have h5a : (piece == 0) = false := by simpa using h5
            have h5b : decide (piece = 0) = false := by simpa using h5
            go_enter Tryz.func8, Tryz.ntmps8
            go_wp2_with fail
            exact FIN.out _ (Q.refl _)
          · have h5 : ¬ piece = 0 := by
              simp [shapeB] at hs h3 h4
              omega
            have h5a : (piece == 0) = false := by simpa using h5
            have h5b : decide (piece = 0) = false := by simpa using h5
            go_enter Tryz.func8, Tryz.ntmps8
            go_wp2_with fail
            exact FIN.out _ (Q.refl _)
          · cases h5 : decide (piece < 1)
            · cases h6 : decide (size < piece)
              · exfalso
                simp [shapeB] at hs h1 h2 h3 h4 h5 h6
                omega
              · go_enter Tryz.func8, Tryz.ntmps8
                go_wp2_with fail
                exact FIN.out _ (Q.refl _)
            · go_enter Tryz.func8, Tryz.ntmps8
              go_wp2_with fail
              exact FIN.out _ (Q.refl _)
        · go_enter Tryz.func8, Tryz.ntmps8
          go_wp2_with fail
          exact FIN.out _ (Q.refl _)
      · go_enter Tryz.func8, Tryz.ntmps8
        go_wp2_with fail
        exact FIN.out _ (Q.refl _)
    · go_enter Tryz.func8, Tryz.ntmps8
      go_wp2_with fail
      exact FIN.out _ (Q.refl _)
  · go_enter Tryz.func8, Tryz.ntmps8
    go_wp2_with fail
    exact FIN.out _ (Q.refl _)
set_option maxHeartbeats 1000000 in
set_option maxRecDepth 100000 in
theorem new_good0 (size piece : Int) (w : World) (hs : shapeB 0 size piece = true) :
    Calls Tryz.prog 8 #[.int .i64 0, .int .i64 size, .int .i64 piece] w (NewPost 0 size piece w) := by
  have hb := hs
  simp [shapeB] at hb
  have h3 : decide (size < 1) = false := by simp; omega
  have h4 : decide (4096 < size) = false := by simp; omega
  obtain ⟨hb1, hp0⟩ : True ∧ piece = 0 := ⟨trivial, by omega⟩
  subst hp0
  have FIN : Hid (∀ W, Q w W → HpR W (newH w.heap.size 0 0 size 0) → NewPost 0 size 0 w (.returned (.tuple #[.pointer (some ⟨w.heap.size, 0, none⟩), .int .i64 0])) W) := fun W hq hR => .inr ⟨hs, newH w.heap.size 0 0 size 0, rfl, hR, rfl, rfl, hq, fun b e => by
    rcases e with e | e | ⟨x, hx, e⟩ | ⟨e1, e2⟩
    · have e : b = w.heap.size := e
      omega
    · cases e
    · cases hx
    · have e1 : (0 : Int) = 1 ∨ (0 : Int) = 2 := e1
      omega⟩
  obtain ⟨PST, hP⟩ : ∃ P, P = NewPost 0 size 0 w := ⟨_, rfl⟩
  rw [← hP] at FIN ⊢
  clear hP hb hs
  go_enter Tryz.func8, Tryz.ntmps8
  go_wp2_with fail
  refine FIN.out _ (by repeat (first | exact Q.refl _ | refine Q.alloc ?_ _ | refine Q.set ?_ (by simp) _)) ?_
  exact new_rep _ _ _ _ _ (heap_alloc_new w _) (fun e => by omega) (fun e => by omega)
set_option maxHeartbeats 1000000 in
set_option maxRecDepth 100000 in
theorem new_good1 (size piece : Int) (w : World) (hs : shapeB 1 size piece = true) :
    Calls Tryz.prog 8 #[.int .i64 1, .int .i64 size, .int .i64 piece] w (NewPost 1 size piece w) := by
  have hb := hs
  simp [shapeB] at hb
  have h3 : decide (size < 1) = false := by simp; omega
  have h4 : decide (4096 < size) = false := by simp; omega
  obtain ⟨hb1, hp0⟩ : True ∧ piece = 0 := ⟨trivial, by omega⟩
  subst hp0
  have FIN : Hid (∀ W, Q w W → HpR W (newH w.heap.size (w.heap.size + 1) 1 size 0) → NewPost 1 size 0 w (.returned (.tuple #[.pointer (some ⟨w.heap.size, 0, none⟩), .int .i64 0])) W) := fun W hq hR => .inr ⟨hs, newH w.heap.size (w.heap.size + 1) 1 size 0, rfl, hR, rfl, rfl, hq, fun b e => by
    rcases e with e | e | ⟨x, hx, e⟩ | ⟨e1, e2⟩
    · have e : b = w.heap.size := e
      omega
    · cases e
    · cases hx
    · have e2 : b = w.heap.size + 1 := e2
      omega⟩
  obtain ⟨PST, hP⟩ : ∃ P, P = NewPost 1 size 0 w := ⟨_, rfl⟩
  rw [← hP] at FIN ⊢
  clear hP hb hs
  go_enter Tryz.func8, Tryz.ntmps8
  go_wp2_with fail
  refine FIN.out _ (by repeat (first | exact Q.refl _ | refine Q.alloc ?_ _ | refine Q.set ?_ (by simp) _)) ?_
  exact new_rep _ _ _ _ _ ((heap_alloc_old _ _ (by simp)).trans (heap_alloc_new w _)) (fun _ => alloc2_new _ _ _) (fun e => by omega)
set_option maxHeartbeats 1000000 in
set_option maxRecDepth 100000 in
theorem new_good2 (size piece : Int) (w : World) (hs : shapeB 2 size piece = true) :
    Calls Tryz.prog 8 #[.int .i64 2, .int .i64 size, .int .i64 piece] w (NewPost 2 size piece w) := by
  have hb := hs
  simp [shapeB] at hb
  have h3 : decide (size < 1) = false := by simp; omega
  have h4 : decide (4096 < size) = false := by simp; omega
  obtain ⟨hb1, hp0⟩ : True ∧ piece = 0 := ⟨trivial, by omega⟩
  subst hp0
  have FIN : Hid (∀ W, Q w W → HpR W (newH w.heap.size (w.heap.size + 1) 2 size 0) → NewPost 2 size 0 w (.returned (.tuple #[.pointer (some ⟨w.heap.size, 0, none⟩), .int .i64 0])) W) := fun W hq hR => .inr ⟨hs, newH w.heap.size (w.heap.size + 1) 2 size 0, rfl, hR, rfl, rfl, hq, fun b e => by
    rcases e with e | e | ⟨x, hx, e⟩ | ⟨e1, e2⟩
    · have e : b = w.heap.size := e
      omega
    · cases e
    · cases hx
    · have e2 : b = w.heap.size + 1 := e2
      omega⟩
  obtain ⟨PST, hP⟩ : ∃ P, P = NewPost 2 size 0 w := ⟨_, rfl⟩
  rw [← hP] at FIN ⊢
  clear hP hb hs
  go_enter Tryz.func8, Tryz.ntmps8
  go_wp2_with fail
  refine FIN.out _ (by repeat (first | exact Q.refl _ | refine Q.alloc ?_ _ | refine Q.set ?_ (by simp) _)) ?_
  exact new_rep _ _ _ _ _ ((heap_alloc_old _ _ (by simp)).trans (heap_alloc_new w _)) (fun e => by omega) (fun _ => alloc2_new _ _ _)
set_option maxHeartbeats 1000000 in
set_option maxRecDepth 100000 in
theorem new_good3 (size piece : Int) (w : World) (hs : shapeB 3 size piece = true) :
    Calls Tryz.prog 8 #[.int .i64 3, .int .i64 size, .int .i64 piece] w (NewPost 3 size piece w) := by
  have hb := hs
  simp [shapeB] at hb
  have h3 : decide (size < 1) = false := by simp; omega
  have h4 : decide (4096 < size) = false := by simp; omega
  have h5 : decide (piece < 1) = false := by simp; omega
  have h6 : decide (size < piece) = false := by simp; omega
  have FIN : Hid (∀ W, Q w W → HpR W (newH w.heap.size 0 3 size piece) → NewPost 3 size piece w (.returned (.tuple #[.pointer (some ⟨w.heap.size, 0, none⟩), .int .i64 0])) W) := fun W hq hR => .inr ⟨hs, newH w.heap.size 0 3 size piece, rfl, hR, rfl, rfl, hq, fun b e => by
    rcases e with e | e | ⟨x, hx, e⟩ | ⟨e1, e2⟩
    · have e : b = w.heap.size := e
      omega
    · cases e
    · cases hx
    · have e1 : (3 : Int) = 1 ∨ (3 : Int) = 2 := e1
      omega⟩
  obtain ⟨PST, hP⟩ : ∃ P, P = NewPost 3 size piece w := ⟨_, rfl⟩
  rw [← hP] at FIN ⊢
  clear hP hb hs
  go_enter Tryz.func8, Tryz.ntmps8
  go_wp2_with fail
  refine FIN.out _ (by repeat (first | exact Q.refl _ | refine Q.alloc ?_ _ | refine Q.set ?_ (by simp) _)) ?_
  exact new_rep _ _ _ _ _ (heap_alloc_new w _) (fun e => by omega) (fun e => by omega)
theorem new_any (kind size piece : Int) (w : World) : Calls Tryz.prog 8 #[.int .i64 kind, .int .i64 size, .int .i64 piece] w (NewPost kind size piece w) := by
  cases hs : shapeB kind size piece
  · exact new_bad kind size piece w hs
  · have hb := hs
    simp only [shapeB, Bool.and_eq_true, decide_eq_true_eq] at hb
    have hk : kind = 0 ∨ kind = 1 ∨ kind = 2 ∨ kind = 3 := by omega
    rcases hk with rfl | rfl | rfl | rfl
    · exact new_good0 size piece w hs
    · exact new_good1 size piece w hs
    · exact new_good2 size piece w hs
    · exact new_good3 size piece w hs
end Go.Proofs.YtdaklffbfadghaaGreat

namespace Go.Proofs.YtdaklffbfadghaaGreat
open Go.RowKit HP
set_option linter.unusedVariables false
theorem used_perm {a b : List PB} (h : a.Perm b) : used a = used b := by
  induction h with
  | nil => rfl
  | cons x _ ih => simp only [used, ih]
  | swap x y l => simp only [used]; omega
  | trans _ _ h1 h2 => exact h1.trans h2
theorem used_ins (l : List PB) (k : Nat) (x : PB) : used (insAt l k [x]) = used l + (x.2.length : Int) := by
  rw [used_perm (insAt_perm l k x)]
  simp only [used]
  omega
theorem used_del (l : List PB) (k : Nat) (x : PB) (h : l[k]? = some x) : used (delAt l k 1) + (x.2.length : Int) = used l := by
  have hk := (List.getElem?_eq_some_iff.1 h).1
  have e : l = l.take (k + 1) ++ l.drop (k + 1) := (List.take_append_drop _ _).symm
  have h1 := used_take_succ l k x h
  have h2 := used_append (l.take (k + 1)) (l.drop (k + 1))
  rw [← e] at h2
  unfold delAt
  rw [used_append]
  omega
/-- two blocks, none over the other -/
def Apart (x y : PB) : Prop := pend x ≤ y.1 ∨ pend y ≤ x.1
theorem Fit.insert {size : Int} {l : List PB} (h : Fit size l) {x : PB} (h0 : 0 ≤ x.1) (h1 : 1 ≤ x.2.length) (h2 : pend x ≤ size) (hap : ∀ y ∈ l, Apart x y) : Fit size (insAt l (below l x.1) [x]) := by
  obtain ⟨b1, b2⟩ := below_spec h x.1
  refine ⟨h.sz, fun y hy => ?_, ?_⟩
  · rcases insAt_mem.1 hy with rfl | hy
    · exact ⟨h0, h1, h2⟩
    · exact h.inn y hy
  · have hs := h.ord
    have e : l = l.take (below l x.1) ++ l.drop (below l x.1) := (List.take_append_drop _ _).symm
    have hp : ∀ y : PB, y ∈ l → y.1 < pend y := fun y hy => by have := (h.inn y hy).2.1; unfold pend; omega
    have hx : x.1 < pend x := by unfold pend; omega
    have hA : ∀ y ∈ l.take (below l x.1), pend y ≤ x.1 := fun y hy => by
      obtain ⟨j, hj, rfl⟩ := List.getElem_of_mem hy
      rw [List.length_take] at hj
      have hm : (l.take (below l x.1))[j] ∈ l := List.mem_of_mem_take hy
      have := b1 j (l.take (below l x.1))[j] (by omega) (by rw [List.getElem_take]; exact List.getElem?_eq_getElem (by omega))
      rcases hap _ hm with h3 | h3
      · omega
      · exact h3
    have hB : ∀ y ∈ l.drop (below l x.1), pend x ≤ y.1 := fun y hy => by
      obtain ⟨j, hj, rfl⟩ := List.getElem_of_mem hy
      rw [List.length_drop] at hj
      have hm : (l.drop (below l x.1))[j] ∈ l := List.mem_of_mem_drop hy
      have := b2 (below l x.1 + j) (l.drop (below l x.1))[j] (by omega) (by rw [List.getElem_drop]; exact List.getElem?_eq_getElem (by omega))
      rcases hap _ hm with h3 | h3
      · exact h3
      · have := hp _ hm; omega
    unfold sorted at hs ⊢
    rw [e] at hs
    obtain ⟨s1, s2, s3⟩ := List.pairwise_append.1 hs
    unfold insAt
    refine List.pairwise_append.2 ⟨s1, ?_, ?_⟩
    · rw [List.singleton_append]
      exact List.pairwise_cons.2 ⟨hB, s2⟩
    · intro y hy z hz
      rw [List.singleton_append] at hz
      rcases List.mem_cons.1 hz with rfl | hz
      · exact hA y hy
      · exact s3 y hy z hz
theorem Fit.delete {size : Int} {l : List PB} (h : Fit size l) (k : Nat) : Fit size (delAt l k 1) :=
  ⟨h.sz, fun y hy => h.inn y (delAt_mem hy), h.ord.sublist (delAt_sub l k 1)⟩
theorem freeB_apart {size : Int} {l : List PB} (h : Fit size l) {a b : Int} (hf : freeB size l a b (-1) = true) : b ≤ size ∧ ∀ y ∈ l, b ≤ y.1 ∨ pend y ≤ a := by
  unfold freeB at hf
  simp only [Bool.and_eq_true, Bool.not_eq_true', decide_eq_false_iff_not] at hf
  refine ⟨by omega, fun y hy => ?_⟩
  have h1 := List.any_eq_false.1 hf.2 y hy
  have h0 := (h.inn y hy).1
  unfold clash at h1
  simp only [Bool.and_eq_true, decide_eq_true_eq] at h1
  rcases Int.lt_or_le y.1 b with h2 | h2
  · rcases Int.lt_or_le a (pend y) with h3 | h3
    · exact absurd ⟨by omega, h2, h3⟩ h1
    · exact .inr h3
  · exact .inl h2
theorem scan_spec (p : Int → Bool) (lim step : Int) (hst : 1 ≤ step) : ∀ (f : Nat) (a0 a : Int), 0 ≤ a0 → a0 % step = 0 → scanF p lim step f a0 = some a → 0 ≤ a ∧ a ≤ lim ∧ p a = true ∧ a % step = 0
  | 0, a0, a, _, _, h => by simp [scanF] at h
  | f + 1, a0, a, h0, hm, h => by
    unfold scanF at h
    split at h
    · cases h
    · split at h
      · cases h; rename_i h1 h2; exact ⟨h0, by omega, h2, hm⟩
      · exact scan_spec p lim step hst f _ _ (by omega) (by rw [Int.add_emod_right]; exact hm) h
theorem upTo_ge (t m : Int) (hm : 1 ≤ m) : t ≤ upTo t m ∧ upTo t m % m = 0 := by
  unfold upTo
  refine ⟨?_, Int.mul_emod_left _ _⟩
  have h1 := Int.mul_ediv_add_emod (t + m - 1) m
  have h2 := Int.emod_lt_of_pos (t + m - 1) (show 0 < m by omega)
  rw [Int.mul_comm] at h1
  omega
theorem room_spec {m : HM} (I : Inv m) {n al a : Int} (hn : 1 ≤ n) (hal : 1 ≤ al) (h : roomM m n al = some a) :
    0 ≤ a ∧ a + n ≤ m.size ∧ (∀ y ∈ m.live, a + n ≤ y.1 ∨ pend y ≤ a) ∧ (m.kind = 1 ∨ m.kind = 2 → m.top ≤ a) ∧ (m.kind = 3 → a % m.piece = 0 ∧ a + m.piece ≤ m.size ∧ n ≤ m.piece) ∧ a % al = 0 := by
  unfold roomM at h
  split at h
  · rename_i hk
    obtain ⟨h1, h2, h3, h4⟩ := scan_spec _ _ _ hal _ _ _ (Int.le_refl _) (Int.zero_emod _) h
    obtain ⟨h5, h6⟩ := freeB_apart I.fit h3
    exact ⟨h1, h5, h6, fun e => by omega, fun e => by omega, h4⟩
  · split at h
    · rename_i hk
      have hp := I.piece hk
      split at h
      · rename_i hnp
        obtain ⟨h1, h2, h3, h4⟩ := scan_spec _ _ _ hp.1 _ _ _ (Int.le_refl _) (Int.zero_emod _) h
        unfold poolP at h3
        simp only [Bool.and_eq_true, decide_eq_true_eq] at h3
        obtain ⟨h5, h6⟩ := freeB_apart I.fit h3.2
        exact ⟨h1, by omega, fun y hy => by have := h6 y hy; omega, fun e => by omega, fun _ => ⟨h4, h5, hnp⟩, h3.1⟩
      · cases h
    · split at h
      · rename_i hk0 hk3 hfit
        cases h
        obtain ⟨h1, h2⟩ := upTo_ge m.top al hal
        have hk : m.kind = 1 ∨ m.kind = 2 := by have := I.kind; omega
        have := I.top.1
        exact ⟨by omega, hfit, fun y hy => .inr (by have := I.bump hk y hy; omega), fun _ => h1, fun e => absurd e hk3, h2⟩
      · cases h
theorem used_bound {m : HM} (hF : Fit m.size m.live) (hl : m.live.length ≤ 65) : used m.live ≤ 300000 := by
  have h1 := used_le m.live 4096 (fun x hx => by
    have := hF.inn x hx
    have := hF.sz
    unfold pend at *
    omega)
  omega
/-- a new block, and whatever peak -/
theorem Inv.put {m : HM} (I : Inv m) (x : PB) (hl : m.live.length < 64) (h0 : 0 ≤ x.1) (h1 : 1 ≤ x.2.length) (h2 : pend x ≤ m.size) (hap : ∀ y ∈ m.live, Apart x y) (hb : m.kind = 1 ∨ m.kind = 2 → m.top ≤ x.1)
    (hp : m.kind = 3 → x.1 % m.piece = 0 ∧ x.1 + m.piece ≤ m.size ∧ (x.2.length : Int) ≤ m.piece) : ∀ p, used (putM m x).live ≤ p → p ≤ 1000000 → Inv { putM m x with peak := p } := fun p hu hp2 => by
  have hlen : (putM m x).live.length = m.live.length + 1 := insAt_len _ _ _ (below_le _ _)
  have hx : x.1 < pend x := by unfold pend; omega
  refine ⟨I.kind, Fit.insert I.fit h0 h1 h2 hap, ?_, ?_, ?_, I.piece, ?_, ⟨hu, hp2⟩, I.failIn, I.calls⟩
  · show (putM m x).live.length ≤ 64
    omega
  · show 0 ≤ takenM m x ∧ takenM m x ≤ m.size
    unfold takenM
    split
    · exact ⟨by omega, h2⟩
    · exact I.top
  · intro e y hy
    show pend y ≤ takenM m x
    have e : m.kind = 1 ∨ m.kind = 2 := e
    unfold takenM
    rw [if_pos e]
    rcases insAt_mem.1 hy with rfl | hy
    · exact Int.le_refl _
    · have := I.bump e y hy
      have := hb e
      omega
  · intro e y hy
    rcases insAt_mem.1 hy with rfl | hy
    · exact hp e
    · exact I.pool e y hy
theorem Inv.peaked {m : HM} {p q : Int} (I : Inv { m with peak := p }) (h1 : used m.live ≤ q) (h2 : q ≤ 1000000) : Inv { m with peak := q } :=
  ⟨I.kind, I.fit, I.len, I.top, I.bump, I.piece, I.pool, ⟨h1, h2⟩, I.failIn, I.calls⟩
theorem Inv.take {m : HM} (I : Inv m) (k : Nat) (x : PB) (h : m.live[k]? = some x) : Inv (takeM m k x) := by
  have hk := (List.getElem?_eq_some_iff.1 h).1
  have hx := I.fit.inn x (List.mem_of_getElem? h)
  refine ⟨I.kind, Fit.delete I.fit k, ?_, ?_, ?_, I.piece, fun e y hy => I.pool e y (delAt_mem hy), ⟨?_, I.peak.2⟩, I.failIn, I.calls⟩
  · show (delAt m.live k 1).length ≤ 64
    have := delAt_len m.live k 1 (by omega)
    have := I.len
    omega
  · show 0 ≤ goneM (cutM m k) x ∧ goneM (cutM m k) x ≤ m.size
    unfold goneM
    split
    · refine ⟨hx.1, ?_⟩
      have := hx.2.2
      unfold pend at this
      omega
    · exact I.top
  · intro e y hy
    show pend y ≤ goneM (cutM m k) x
    have hy : y ∈ delAt m.live k 1 := hy
    unfold goneM
    split
    · rename_i hc
      have h1 := List.any_eq_false.1 hc.2 y hy
      simp only [decide_eq_true_eq] at h1
      obtain ⟨j, hj, rfl⟩ := List.getElem_of_mem hy
      have hj' : (delAt m.live k 1)[j]? = some (delAt m.live k 1)[j] := List.getElem?_eq_getElem hj
      rw [delAt_get _ _ _ (by omega)] at hj'
      split at hj'
      · exact (I.fit.lt hj' h (by omega)).2
      · have := (I.fit.lt h hj' (by omega)).1
        omega
    · exact I.bump e y (delAt_mem hy)
  · show used (delAt m.live k 1) ≤ m.peak
    have := used_del m.live k x h
    have := I.peak.1
    omega
theorem Inv.note {m : HM} {p : Int} (I : Inv { m with peak := p }) (hp : m.peak ≤ 1000000) : Inv (noteM m) := by
  have h1 := used_bound (m := m) I.fit (by have := I.len; show m.live.length ≤ 65; have e : m.live.length ≤ 64 := this; omega)
  exact I.peaked (Int.le_max_right _ _) (by omega)
theorem undef_pend (a : Int) (n : Nat) : pend (a, undefs n) = a + n := by unfold pend; rw [undefs_len]
theorem alloc_inv {m : HM} (I : Inv m) (n al : Int) : Inv (allocM m n al).1 := by
  unfold allocM
  split
  · exact I
  · rename_i hc
    split
    · exact I.count
    · rename_i hf
      split
      · exact I.count
      · rename_i a hr
        have hnal : 1 ≤ n ∧ 1 ≤ al := by
          unfold sizeB alignB at hc
          simp at hc
          omega
        obtain ⟨h1, h2, h3, h4, h5, h6⟩ := room_spec I.count hnal.1 hnal.2 hr
        have hp : pend (a, undefs n.toNat) = a + n := by rw [undef_pend]; omega
        have hl : m.live.length < 64 := by have := I.len; omega
        have I2 := I.count.put (a, undefs n.toNat) hl h1 (by rw [undefs_len]; omega) (by rw [hp]; exact h2) (fun y hy => by unfold Apart; rw [hp]; exact h3 y hy) h4 (fun e => ⟨(h5 e).1, (h5 e).2.1, by rw [undefs_len]; have := (h5 e).2.2; omega⟩) 1000000 (by
          show used (insAt m.live _ _) ≤ _
          rw [used_ins, undefs_len]
          have h7 := used_bound (m := m) I.fit (by omega)
          have h8 := I.fit.sz
          have h2 : a + n ≤ m.size := h2
          omega) (Int.le_refl _)
        exact I2.note I.peak.2
theorem free_inv {m : HM} (I : Inv m) (at_ : Int) : Inv (freeM m at_).1 := by
  unfold freeM
  split
  · exact I
  · rename_i h
    obtain ⟨x, hx, _, e⟩ := at_eq I.fit (by simpa using h)
    rw [e]
    exact I.take _ _ hx
end Go.Proofs.YtdaklffbfadghaaGreat

namespace Go.Proofs.YtdaklffbfadghaaGreat
open Go.RowKit HP
set_option linter.unusedVariables false
end Go.Proofs.YtdaklffbfadghaaGreat

namespace Go.Proofs.YtdaklffbfadghaaGreat
open Go.RowKit HP
set_option linter.unusedVariables false
/-- a heap that was made since w0, at block g, that is what m says -/
def Own (w0 w : World) (g : Nat) (m : HM) : Prop := ∃ h : Hp, h.blk = g ∧ HpR w h ∧ h.mu = 0 ∧ h.m = m ∧ Q w0 w ∧ ∀ b, h.fp b → w0.heap.size ≤ b
theorem Own.q {w0 w w' : World} {g : Nat} {m : HM} (O : Own w0 w g m) (hq : Q w w') : Own w0 w' g m := by
  obtain ⟨h, h1, h2, h3, h4, h5, h6⟩ := O
  exact ⟨h, h1, h2.q hq, h3, h4, h5.trans hq, h6⟩
theorem Own.base {w0 w w' : World} {g : Nat} {m : HM} (O : Own w w' g m) (hq : Q w0 w) : Own w0 w' g m := by
  obtain ⟨h, h1, h2, h3, h4, h5, h6⟩ := O
  exact ⟨h, h1, h2, h3, h4, hq.trans h5, fun b hb => Nat.le_trans hq.size (h6 b hb)⟩
theorem Own.toQ {w0 w : World} {g : Nat} {m : HM} (O : Own w0 w g m) : Q w0 w := by
  obtain ⟨h, h1, h2, h3, h4, h5, h6⟩ := O
  exact h5
theorem Own.did {w0 w w' : World} {h h' : Hp} {g : Nat} (hg : h.blk = g) (hq : Q w0 w) (hf : ∀ b, h.fp b → w0.heap.size ≤ b) (D : Did w h w' h') (hmu : h'.mu = 0) : Own w0 w' g h'.m :=
  ⟨h', D.blk.trans hg, D.rep, hmu, rfl, Turn.q_of hq D.turn hf, fun b hb => by
    rcases D.fp b hb with e | e
    · exact hf b e
    · exact Nat.le_trans hq.size e⟩
theorem own_new {kind size piece : Int} (hs : shapeB kind size piece = true) (w : World) :
    Calls Tryz.prog 8 #[.int .i64 kind, .int .i64 size, .int .i64 piece] w fun e w' => ∃ g, e = .returned (.tuple #[.pointer (some ⟨g, 0, none⟩), .int .i64 0]) ∧ Own w w' g (newM kind size piece) := by
  refine (new_any kind size piece w).mono ?_
  rintro e w' (⟨h1, -, -⟩ | ⟨-, h', he, h2, h3, h4, h5, h6⟩)
  · rw [hs] at h1; cases h1
  · exact ⟨h'.blk, he, h', rfl, h2, h3, h4, h5, h6⟩
theorem own_alloc {w0 w : World} {g : Nat} {m : HM} (O : Own w0 w g m) (I : Inv m) (hc : m.calls < 1000000000) (n al : Int) :
    Calls Tryz.prog 9 #[.pointer (some ⟨g, 0, none⟩), .int .i64 n, .int .i64 al] w fun e w' => e = .returned (.tuple #[.int .i64 (allocM m n al).2.1, .int .i64 (allocM m n al).2.2]) ∧ Own w0 w' g (allocM m n al).1 := by
  obtain ⟨h, rfl, h2, h3, rfl, h5, h6⟩ := O
  refine (alloc_any h n al w h2 I h3 hc).mono ?_
  rintro e w' ⟨h', he, D, hmu, hm⟩
  exact ⟨he, by rw [← hm]; exact Own.did rfl h5 h6 D hmu⟩
def k0 : HM := newM 0 16 0
def k1 : HM := (allocM k0 4 1).1
def k2 : HM := (allocM k1 8 1).1
def k3 : HM := (allocM k2 4 1).1
def k4 : HM := (freeM k3 4).1
end Go.Proofs.YtdaklffbfadghaaGreat

namespace Go.Proofs.YtdaklffbfadghaaGreat
open Go.RowKit HP
set_option linter.unusedVariables false
/-- an act that leaves a heap as r, and returns v -/
def ActR (r : HM) (v : Value) (w : World) (h : Hp) (e : Ending) (w' : World) : Prop := ∃ h', e = .returned v ∧ Did w h w' h' ∧ h'.mu = 0 ∧ h'.m = r
theorem Did.outR {w W : World} {h h2 : Hp} {r : HM} {v : Value} (D : Did w h W h2) (g : Nat) (hg : g = h2.blk) (hm : h2.m = r) : ActR r v w h (.returned v) (W.setCell ⟨g, 0, none⟩ (.int .i32 0)) := by
  subst hg
  exact ⟨_, rfl, D.lock 0, rfl, hm⟩
def failAtM (m : HM) (k : Int) : HM × Int := if 0 ≤ k ∧ k ≤ 1000 then ({ m with failIn := k }, 0) else (m, 1)
/-- the list of live blocks, emptied -/
theorem HpR.clear {w : World} {h : Hp} (H : HpR w h) : HpR (w.setCell ⟨h.blk, 5, none⟩ (.slice none 0 0)) { h with lv := .slice none 0 0, bks := [] } where
  cells := heap_setCell_same w h.blk 5 h.cells _ _ H.cells
  live := ⟨by simp, .inl ⟨rfl, rfl⟩⟩
  rows := fun x hx => by cases hx
  w1 := fun e => (heap_setCell_other _ _ _ _ (H.ne_wb (.inl e))).trans (H.w1 e)
  w2 := fun e => (heap_setCell_other _ _ _ _ (H.ne_wb (.inr e))).trans (H.w2 e)
  apart := List.nodup_nil
theorem Did.clear {w w1 : World} {h h1 : Hp} (a : Did w h w1 h1) : Did w h (w1.setCell ⟨h1.blk, 5, none⟩ (.slice none 0 0)) { h1 with lv := .slice none 0 0, bks := [] } :=
  a.trans ⟨a.rep.clear, (Turn.refl _ _).set (.inl rfl) _, rfl, fun b e => by
    rcases e with e | e | ⟨x, hx, _⟩ | e
    · exact .inl (.inl e)
    · cases e
    · cases hx
    · exact .inl (.inr (.inr (.inr e)))⟩
theorem Did.failsAt {w w1 : World} {h h1 : Hp} (a : Did w h w1 h1) (g : Nat) (hg : h1.blk = g) (x : Int) : Did w h (w1.setCell ⟨g, 9, none⟩ (.int .i64 x)) { h1 with failIn := x } := by subst hg; exact a.fails x
theorem HpR.cellAt {w : World} {h : Hp} (H : HpR w h) (g : Nat) (hg : h.blk = g) (j : Nat) : w.cell? ⟨g, j, none⟩ = h.cells[j]? := by subst hg; exact H.cell j
theorem HpR.freeAt {w : World} {h : Hp} (H : HpR w h) (g : Nat) (hg : h.blk = g) (j : Nat) : w.frozen? ⟨g, j, none⟩ = false := by subst hg; exact H.free j
theorem failAt_inv {m : HM} (I : Inv m) (k : Int) : Inv (failAtM m k).1 := by
  unfold failAtM
  split
  · rename_i h
    exact ⟨I.kind, I.fit, I.len, I.top, I.bump, I.piece, I.pool, I.peak, h, I.calls⟩
  · exact I
set_option maxHeartbeats 4000000 in
set_option maxRecDepth 100000 in
theorem failAt_act (h : Hp) (k : Int) (w : World) (H : HpR w h) (I : Inv h.m) (hmu : h.mu = 0) :
    Calls Tryz.prog 29 #[h.ptr, .int .i64 k] w (Act1 (failAtM h.m k) w h) := by
  have c0 := H.mu0
  rw [hmu] at c0
  have f0 := H.free 0
  obtain ⟨w1, hw1⟩ : ∃ w1, w1 = w.setCell ⟨h.blk, 0, none⟩ (.int .i32 1) := ⟨_, rfl⟩
  have D1 : Did w h w1 (locked h) := by rw [hw1]; exact (Did.refl H).lock 1
  obtain ⟨r, hr⟩ : ∃ r, r = failAtM h.m k := ⟨_, rfl⟩
  rw [← hr]
  unfold Hp.ptr
  obtain ⟨g, hg⟩ : ∃ g, g = h.blk := ⟨_, rfl⟩
  rw [← hg] at c0 f0 hw1 ⊢
  have KM : Hid (∀ W h3, Did w h W h3 → h3.blk = g → h3.mu = 1 → W.cell? ⟨g, 0, none⟩ = some (.int .i32 1) ∧ W.frozen? ⟨g, 0, none⟩ = false) := fun W h3 D e1 e2 => D.mine0 g e1.symm e2
  have HI := hide I
  have HW1 := hide hw1
  have HR := hide hr
  have HG := hide hg
  have HD1 := hide D1
  clear I H hw1 hr hg D1
  have KMU := hide (KM.out _ _ HD1.out HG.out.symm rfl).1
  have KFR := hide (KM.out _ _ HD1.out HG.out.symm rfl).2
  have hcase : ¬ (0 ≤ k ∧ k ≤ 1000) → r = (h.m, 1) := fun hn => by rw [HR.out]; exact if_neg hn
  cases h1 : decide (k < 0)
  · cases h2 : decide (1000 < k)
    · have hr : r = ({ h.m with failIn := k }, 0) := by rw [HR.out]; exact if_pos (by simp at h1 h2; omega)
      have f9 : w1.frozen? ⟨g, 9, none⟩ = false := HD1.out.rep.freeAt g HG.out.symm 9
      have c9 : w1.cell? ⟨g, 9, none⟩ = some (.int .i64 h.failIn) := HD1.out.rep.cellAt g HG.out.symm 9
      have D9 : Did w h (w1.setCell ⟨g, 9, none⟩ (.int .i64 k)) { locked h with failIn := k } := HD1.out.failsAt g HG.out.symm k
      have FIN := hide (D9.out1 (r := r) g HG.out (by rw [hr]; rfl))
      rw [hr] at FIN ⊢
      have KMU := hide (KM.out _ _ D9 HG.out.symm rfl).1
      have KFR := hide (KM.out _ _ D9 HG.out.symm rfl).2
      clear hcase hr D9 HR
      go_enter_defers Tryz.func29, Tryz.ntmps29
      go_wp2_with (go_at_call 57; refine (Go.MuLone.lock_free muLib ⟨g, 0, none⟩ _ c0 f0).mono ?_; rintro e w' ⟨rfl, rfl⟩; rw [← HW1.out])
      refine leaves_cons (f := 58) (args := #[.pointer (some ⟨g, 0, none⟩)]) (by simp) (by simp [go_sem]) ?_
      refine (Go.MuLone.unlock_deferred muLib ⟨g, 0, none⟩ .returning _ KMU.out KFR.out).mono ?_
      rintro e u' w9 ⟨rfl, rfl, rfl⟩
      refine ⟨_, results_tmp rfl _ _ _, ?_⟩
      exact FIN.out
    · have hr := hcase (by simp at h2; omega)
      have FIN := hide (HD1.out.out1 (r := r) g HG.out (by rw [hr]; rfl))
      rw [hr] at FIN ⊢
      clear hcase hr HR
      go_enter_defers Tryz.func29, Tryz.ntmps29
      go_wp2_with (go_at_call 57; refine (Go.MuLone.lock_free muLib ⟨g, 0, none⟩ _ c0 f0).mono ?_; rintro e w' ⟨rfl, rfl⟩; rw [← HW1.out])
      refine leaves_cons (f := 58) (args := #[.pointer (some ⟨g, 0, none⟩)]) (by simp) (by simp [go_sem]) ?_
      refine (Go.MuLone.unlock_deferred muLib ⟨g, 0, none⟩ .returning _ KMU.out KFR.out).mono ?_
      rintro e u' w9 ⟨rfl, rfl, rfl⟩
      refine ⟨_, results_tmp rfl _ _ _, ?_⟩
      exact FIN.out
  · have hr := hcase (by simp at h1; omega)
    have FIN := hide (HD1.out.out1 (r := r) g HG.out (by rw [hr]; rfl))
    rw [hr] at FIN ⊢
    clear hcase hr HR
    go_enter_defers Tryz.func29, Tryz.ntmps29
    go_wp2_with (go_at_call 57; refine (Go.MuLone.lock_free muLib ⟨g, 0, none⟩ _ c0 f0).mono ?_; rintro e w' ⟨rfl, rfl⟩; rw [← HW1.out])
    refine leaves_cons (f := 58) (args := #[.pointer (some ⟨g, 0, none⟩)]) (by simp) (by simp [go_sem]) ?_
    refine (Go.MuLone.unlock_deferred muLib ⟨g, 0, none⟩ .returning _ KMU.out KFR.out).mono ?_
    rintro e u' w9 ⟨rfl, rfl, rfl⟩
    refine ⟨_, results_tmp rfl _ _ _, ?_⟩
    exact FIN.out
set_option maxHeartbeats 4000000 in
set_option maxRecDepth 100000 in
theorem used_act (h : Hp) (w : World) (H : HpR w h) (I : Inv h.m) (hmu : h.mu = 0) :
    Calls Tryz.prog 10 #[h.ptr] w (ActR h.m (.int .i64 (used h.m.live)) w h) := by
  have c0 := H.mu0
  rw [hmu] at c0
  have f0 := H.free 0
  obtain ⟨w1, hw1⟩ : ∃ w1, w1 = w.setCell ⟨h.blk, 0, none⟩ (.int .i32 1) := ⟨_, rfl⟩
  have D1 : Did w h w1 (locked h) := by rw [hw1]; exact (Did.refl H).lock 1
  obtain ⟨r, hr⟩ : ∃ r, r = h.m := ⟨_, rfl⟩
  rw [← hr]
  unfold Hp.ptr
  obtain ⟨g, hg⟩ : ∃ g, g = h.blk := ⟨_, rfl⟩
  rw [← hg] at c0 f0 hw1 ⊢
  have KM : Hid (∀ W h3, Did w h W h3 → h3.blk = g → h3.mu = 1 → W.cell? ⟨g, 0, none⟩ = some (.int .i32 1) ∧ W.frozen? ⟨g, 0, none⟩ = false) := fun W h3 D e1 e2 => D.mine0 g e1.symm e2
  have HI := hide I
  have HW1 := hide hw1
  have HR := hide hr
  have HG := hide hg
  have HD1 := hide D1
  clear I H hw1 hr hg D1
  have HU : Hid (Calls Tryz.prog 65 #[.pointer (some ⟨g, 4, none⟩)] w1 fun e w' => e = .returned (.int .i64 (used h.m.live)) ∧ Q w1 w') := by
    have := used_any (locked h) w1 HD1.out.rep HI.out.near
    unfold Hp.bptr at this
    rw [show (locked h).blk = g from HG.out.symm] at this
    exact this
  have FIN0 : Hid (∀ W, Q w1 W → ActR h.m (.int .i64 (used h.m.live)) w h (.returned (.int .i64 (used h.m.live))) (W.setCell ⟨g, 0, none⟩ (.int .i32 0))) := fun W hq => (HD1.out.q hq).outR g HG.out rfl
  obtain ⟨us, hus⟩ : ∃ us, us = used h.m.live := ⟨_, rfl⟩
  have hrm : r = h.m := HR.out
  rw [hrm]
  rw [← hus] at HU FIN0 ⊢
  clear hus hrm HR
  go_enter_defers Tryz.func10, Tryz.ntmps10
  go_wp2_with (go_at_call 57; refine (Go.MuLone.lock_free muLib ⟨g, 0, none⟩ _ c0 f0).mono ?_; rintro e w' ⟨rfl, rfl⟩; rw [← HW1.out])
  refine HU.out.mono ?_
  rintro e w2 ⟨rfl, hq2⟩
  have FIN := hide (FIN0.out _ hq2)
  have KMU := hide (KM.out _ _ (HD1.out.q hq2) HG.out.symm rfl).1
  have KFR := hide (KM.out _ _ (HD1.out.q hq2) HG.out.symm rfl).2
  go_wp2_with fail
  refine leaves_cons (f := 58) (args := #[.pointer (some ⟨g, 0, none⟩)]) (by simp) (by simp [go_sem]) ?_
  refine (Go.MuLone.unlock_deferred muLib ⟨g, 0, none⟩ .returning _ KMU.out KFR.out).mono ?_
  rintro e u' w9 ⟨rfl, rfl, rfl⟩
  refine ⟨_, results_tmp rfl _ _ _, ?_⟩
  exact FIN.out
end Go.Proofs.YtdaklffbfadghaaGreat

namespace Go.Proofs.YtdaklffbfadghaaGreat
open Go.RowKit HP
set_option linter.unusedVariables false
theorem results_row_tmp {P : Program} {fn : Func} {p u : Tmp} {ty : TypeId} (h : fn.results = #[.cell p ty, .tmp u]) (tmps : Array Value) (w : World) (g : Nat) (t : TypeId) (cs : Array Value) (fr : Nat × Nat) (d : TypeDesc)
    (hp : tmps.getD p undef = .pointer (some ⟨g, 0, none⟩)) (hg : w.heap[g]? = some (.cells cs t fr))
    (hu : P.underlying ty = some d) (hd : (match d with | .struct _ | .array _ _ => true | _ => false) = true) (hi : (P.info? ty).map (·.size) = some cs.size) :
    (results fn tmps).run P w = .ok (.tuple #[.agg cs, tmps.getD u undef]) w := by
  have hp' : tmps[p]?.getD undef = .pointer (some ⟨g, 0, none⟩) := by simpa using hp
  simp [results, h, hp', asAddr, run_loadVar_row w g t ty cs fr d hg hu hd hi]
/-- a block has a byte -/
def inB (at_ : Int) (x : PB) : Bool := decide (x.1 ≤ at_) && decide (at_ < pend x)
def HoldPost (h : Hp) (at_ : Int) (w : World) (e : Ending) (w' : World) : Prop :=
  Q w w' ∧ ((h.bks.any (fun x => inB at_ x.pb) = false ∧ e = .returned (.tuple #[.agg #[.int .i64 0, .slice none 0 0], .bool false])) ∨
    ∃ (k : Nat) (x : Bk), h.bks[k]? = some x ∧ inB at_ x.pb = true ∧ (∀ (j : Nat) (y : Bk), j < k → h.bks[j]? = some y → inB at_ y.pb = false) ∧ e = .returned (.tuple #[.agg #[.int .i64 x.pb.1, x.bv], .bool true]))
set_option maxHeartbeats 2000000 in
set_option maxRecDepth 100000 in
theorem holder_any (h : Hp) (at_ : Int) (w : World) (H : HpR w h) (hN : Near h.bks) : Calls Tryz.prog 66 #[h.bptr, .int .i64 at_] w (HoldPost h at_ w) := by
  obtain ⟨A, c, -, hS, k5, hb⟩ := H.open_
  obtain ⟨hN1, hN2⟩ := hN
  have hmf : ∀ (fn : Fn) (first cap : Array Value) (w : World), (Instr.makeFunc fn first cap).run Tryz.prog w = .ok (.func fn first cap) w := fun _ _ _ _ => rfl
  obtain ⟨w1, hw1⟩ : ∃ w1, (w.alloc (.cells #[.int .i64 at_] 3)).alloc (.cells #[.int .i64 0, .slice none 0 0] 111) = w1 := ⟨_, rfl⟩
  have hq1 : Q w w1 := by rw [← hw1]; exact ((Q.refl w).alloc _).alloc _
  have d0 : w1.cell? ⟨w.heap.size, 0, none⟩ = some (.int .i64 at_) := by rw [← hw1, cell_old _ _ _ (by first | (simp; done) | (simp; omega)), cell_new]; rfl
  have r1 : w1.heap[w.heap.size + 1]? = some (.cells #[.int .i64 0, .slice none 0 0] 111 (0, 0)) := by rw [← hw1]; exact alloc2_new _ _ _
  have hs0 : w.heap.size < w1.heap.size := by rw [← hw1]; simp; omega
  have hs1 : w.heap.size + 1 < w1.heap.size := by rw [← hw1]; simp
  have HI := hide (idx_hold (fun x => inB at_ x.pb) (.pointer (some ⟨w.heap.size, 0, none⟩)) A _ c h.bks w1 (hS.up hq1) (by omega) (fun x hx W hW => by
    obtain ⟨a1, a2, a3⟩ := hN2 x hx
    exact holdC x.pb _ _ _ w.heap.size at_ W rfl a1 (by omega) (by omega) ((hW.facts.1 _ 0 hs0).trans d0) (by have := hW.size; omega)))
  have HSL := hide (fun W (hq : Q w W) k hk => (hS.up hq).bk k hk)
  unfold Hp.bptr
  unfold HoldPost
  obtain ⟨l, hl⟩ : ∃ l, l = h.bks := ⟨_, rfl⟩
  obtain ⟨n, hn⟩ : ∃ n, n = h.bks.length := ⟨_, rfl⟩
  obtain ⟨g, hg⟩ : ∃ g, g = h.blk := ⟨_, rfl⟩
  rw [← hn] at k5 hN1 HI HSL
  rw [← hl] at HI HSL hn ⊢
  rw [← hg] at k5 hb ⊢
  have HNE := hide hn
  have k5' := (hq1.facts.1 g 5 hb).trans k5
  have HW := hide hw1
  have HQ1 := hide hq1
  have hgl : g < w1.heap.size := by omega
  clear hS hN2 H hl hn hg hw1 d0
  go_enter Tryz.func66, Tryz.ntmps66
  go_wp2_with fail
  rw [HW.out]
  refine HI.out.mono ?_
  rintro e w2 ⟨z, rfl, hq2, hz⟩
  have k52 := (hq2.facts.1 g 5 hgl).trans k5'
  have r2 := (hq2.below.block _ hs1).trans r1
  have c20 : w2.cell? ⟨w.heap.size + 1, 0, none⟩ = some (.int .i64 0) := by rw [cell_of_row _ _ _ _ _ _ r2]; rfl
  have c21 : w2.cell? ⟨w.heap.size + 1, 1, none⟩ = some (.slice none 0 0) := by rw [cell_of_row _ _ _ _ _ _ r2]; rfl
  have f20 : w2.frozen? ⟨w.heap.size + 1, 0, none⟩ = false := frozen_of_row _ _ _ _ _ r2
  have f21 : w2.frozen? ⟨w.heap.size + 1, 1, none⟩ = false := frozen_of_row _ _ _ _ _ r2
  have hgn : ¬ g = w.heap.size + 1 := by omega
  have HR2 := hide r2
  have HQ2 := hide (HQ1.out.trans hq2)
  have hsz2 := hq2.size
  have FINQ : Hid (∀ u1 u2, Q w ((w2.setCell ⟨w.heap.size + 1, 0, none⟩ u1).setCell ⟨w.heap.size + 1, 1, none⟩ u2)) := fun u1 u2 => (HQ2.out.set (by simp) _).set (by simp) _
  clear r2 hq2 r1
  rcases hz with ⟨rfl, ha⟩ | ⟨k, x, rfl, hx, hp, hbf⟩
  · have HA := hide ha
    clear ha
    go_wp2_with fail
    have h1 := heap_setCell_same w2 (w.heap.size + 1) 0 _ _ (Value.int .i64 0) HR2.out
    have h2 := heap_setCell_same _ (w.heap.size + 1) 1 _ _ (Value.slice none 0 0) h1
    refine bodyPost_ret (v := .tuple #[.agg #[.int .i64 0, .slice none 0 0], .bool false]) ?_ rfl ?_
    · exact results_row_tmp (p := 4) (u := 5) rfl _ _ (w.heap.size + 1) _ _ _ _ (by simp) h2 Tryz.underlying111 rfl (by kernel_rfl)
    exact ⟨FINQ.out _ _, .inl ⟨HA.out, rfl⟩⟩
  · have hk : k < n := by rw [HNE.out]; exact (List.getElem?_eq_some_iff.1 hx).1
    obtain ⟨gl, o1, x', hA, hgl2, hx', x1, x2⟩ := HSL.out w2 HQ2.out k hk
    rw [hx] at hx'
    cases hx'
    subst hA
    have HX := hide hx
    have HP := hide hp
    have HBF := hide hbf
    obtain ⟨⟨xa, xb⟩, row, cap⟩ := x
    dsimp only at x1 x2
    obtain ⟨m, hm⟩ : ∃ m, m = xb.length := ⟨_, rfl⟩
    rw [← hm] at x2
    have HM := hide hm
    have hki : (k : Int) < (n : Int) := by omega
    have hkm : (k : Int) ≤ 100 := by omega
    have hkz : decide ((k : Int) < 0) = false := by simp
    clear hx hp hbf hm
    go_wp2_with fail
    have h1 := heap_setCell_same w2 (w.heap.size + 1) 0 _ _ (Value.int .i64 xa) HR2.out
    have h2 := heap_setCell_same _ (w.heap.size + 1) 1 _ _ (Value.slice (some ⟨row, 0, none⟩) m cap) h1
    refine bodyPost_ret (v := .tuple #[.agg #[.int .i64 xa, .slice (some ⟨row, 0, none⟩) m cap], .bool true]) ?_ rfl ?_
    · exact results_row_tmp (p := 4) (u := 5) rfl _ _ (w.heap.size + 1) _ _ _ _ (by simp) h2 Tryz.underlying111 rfl (by kernel_rfl)
    exact ⟨FINQ.out _ _, .inr ⟨k, _, HX.out, HP.out, HBF.out, by rw [HM.out]; rfl⟩⟩
/-! a byte stored -/
theorem flat_set {α β : Type} (f : α → List β) : ∀ (l : List α) (k : Nat) (x y : α), l[k]? = some x → f y = f x → (l.set k y).flatMap f = l.flatMap f
  | [], k, x, y, h, _ => by simp at h
  | z :: l, 0, x, y, h, e => by
    simp at h
    subst h
    simp [e]
  | z :: l, k + 1, x, y, h, e => by
    simp at h
    simp only [List.set_cons_succ, List.flatMap_cons]
    rw [flat_set f l k x y h e]
def putB (x : PB) (j : Nat) (b : Int) : PB := (x.1, x.2.set j b)
def storeH (h : Hp) (k : Nat) (y : Bk) (j : Nat) (b : Int) : Hp := { h with bks := h.bks.set k { y with pb := putB y.pb j b } }
theorem HpR.store {w : World} {h : Hp} (H : HpR w h) (k : Nat) (y : Bk) (hy : h.bks[k]? = some y) (j : Nat) (b : Int) : HpR (w.setCell ⟨y.row, j, none⟩ (.int .i64 b)) (storeH h k y j b) := by
  have hm : y ∈ h.bks := List.mem_of_getElem? hy
  have hk := (List.getElem?_eq_some_iff.1 hy).1
  have hrow : (h.bks.set k { y with pb := putB y.pb j b }).map (·.row) = h.bks.map (·.row) := by
    rw [List.map_set]
    refine List.ext_getElem? fun i => ?_
    rw [List.getElem?_set]
    split
    · rename_i e
      subst e
      rw [List.getElem?_map, hy]
      simp [hk]
    · rfl
  refine ⟨?_, ?_, ?_, fun e => ?_, fun e => ?_, ?_⟩
  · show (w.setCell ⟨y.row, j, none⟩ _).heap[h.blk]? = some (.cells h.cells _ _)
    rw [heap_setCell_other _ _ _ _ (fun e => H.ne_row hm e.symm)]
    exact H.cells
  · show (w.setCell ⟨y.row, j, none⟩ _).ownsRow 0 _ 2 h.lv (h.bks.set k _).length ((h.bks.set k _).flatMap encBk)
    rw [List.length_set, flat_set encBk h.bks k y _ hy (by unfold encBk Bk.bv putB; simp)]
    exact own_same H.live fun g hg => heap_setCell_other _ _ _ _ (fun e => H.live_row hg hm e.symm)
  · intro z hz
    have hz : z ∈ h.bks.set k { y with pb := putB y.pb j b } := hz
    obtain ⟨i, hi, e0⟩ := List.getElem_of_mem hz
    have hz' : (h.bks.set k { y with pb := putB y.pb j b })[i]? = some z := by rw [List.getElem?_eq_getElem hi, e0]
    rw [List.length_set] at hi
    by_cases e : k = i
    · subst e
      rw [List.getElem?_set_self hk] at hz'
      obtain rfl := Option.some.inj hz'
      have := own_set (g := y.row) (n := y.pb.2.length) (c := y.cap) (H.rows y hm) j (.int .i64 b)
      have e3 : intsV (y.pb.2.set j b) = (intsV y.pb.2).set j (.int .i64 b) := by unfold intsV; rw [List.map_set]
      show (w.setCell _ _).ownsRow 0 _ 1 (.slice (some ⟨y.row, 0, none⟩) (y.pb.2.set j b).length y.cap) (y.pb.2.set j b).length (intsV (y.pb.2.set j b))
      rw [e3, List.length_set]
      exact this
    · rw [List.getElem?_set_ne e] at hz'
      have hzm := List.mem_of_getElem? hz'
      refine own_same (H.rows _ hzm) fun g hg => heap_setCell_other _ _ _ _ ?_
      cases hg
      intro e4
      have n1 : (h.bks.map (·.row))[i]? = some y.row := by rw [List.getElem?_map, hz']; exact congrArg some e4
      have n2 : (h.bks.map (·.row))[k]? = some y.row := by rw [List.getElem?_map, hy]; rfl
      have := (List.getElem?_inj (by simpa using hi) H.apart).1 (n1.trans n2.symm)
      omega
  · show (w.setCell ⟨y.row, j, none⟩ _).heap[h.wb]? = some (.cells h.wrow _ _)
    rw [heap_setCell_other _ _ _ _ (H.row_wb hm (.inl e))]
    exact H.w1 e
  · show (w.setCell ⟨y.row, j, none⟩ _).heap[h.wb]? = some (.cells h.wrow _ _)
    rw [heap_setCell_other _ _ _ _ (H.row_wb hm (.inr e))]
    exact H.w2 e
  · show ((h.bks.set k _).map (·.row)).Nodup
    rw [hrow]
    exact H.apart
theorem Did.store {w w1 : World} {h h1 : Hp} (a : Did w h w1 h1) (k : Nat) (y : Bk) (hy : h1.bks[k]? = some y) (j : Nat) (b : Int) : Did w h (w1.setCell ⟨y.row, j, none⟩ (.int .i64 b)) (storeH h1 k y j b) :=
  a.trans ⟨a.rep.store k y hy j b, (Turn.refl _ _).set (.inr (.inr (.inl ⟨y, List.mem_of_getElem? hy, rfl⟩))) _, rfl, fun b' e => by
    rcases e with e | e | ⟨x, hx, e⟩ | e
    · exact .inl (.inl e)
    · exact .inl (.inr (.inl e))
    · refine .inl (.inr (.inr (.inl ?_)))
      rcases List.mem_or_eq_of_mem_set hx with hx | rfl
      · exact ⟨x, hx, e⟩
      · exact ⟨y, List.mem_of_getElem? hy, e⟩
    · exact .inl (.inr (.inr (.inr e)))⟩
/-- the cells of a block's bytes -/
theorem HpR.byte {w : World} {h : Hp} (H : HpR w h) {y : Bk} (hy : y ∈ h.bks) {j : Nat} {v : Int} (hj : y.pb.2[j]? = some v) : w.cell? ⟨y.row, j, none⟩ = some (.int .i64 v) ∧ w.frozen? ⟨y.row, j, none⟩ = false ∧ y.row < w.heap.size := by
  have ho := H.rows y hy
  obtain ⟨cs, e⟩ := own_blk ho y.own
  refine ⟨?_, frozen_of_row _ _ _ _ _ e, blk_lt e⟩
  rcases ho.2 with ⟨h1, -⟩ | ⟨g', cap, cur, h1, hb, hh, hle, hm, hs, ht⟩
  · cases h1
  · injection h1 with h1 _ _
    injection h1 with h1
    injection h1 with h1 _ _
    subst h1
    rw [cell_of_row _ _ _ _ _ _ hh]
    have hl := (List.getElem?_eq_some_iff.1 hj).1
    have h2 : (intsV y.pb.2)[j]? = some (.int .i64 v) := by unfold intsV; rw [List.getElem?_map, hj]; rfl
    rw [← ht, List.getElem?_take, if_pos (by omega)] at h2
    simpa using h2
end Go.Proofs.YtdaklffbfadghaaGreat

namespace Go.Proofs.YtdaklffbfadghaaGreat
open Go.RowKit HP
set_option linter.unusedVariables false
def storeM (m : HM) (at_ b : Int) : HM × Int :=
  if 0 ≤ b ∧ b ≤ 255 then
    match m.live.findIdx? (inB at_) with
    | none => (m, 9)
    | some k => match m.live[k]? with
      | none => (m, 9)
      | some x => ({ m with live := m.live.set k (putB x (at_ - x.1).toNat b) }, 0)
  else (m, 1)
def loadM (m : HM) (at_ : Int) : Int × Int :=
  match m.live.findIdx? (inB at_) with
  | none => (0, 9)
  | some k => match (m.live[k]?).bind fun x => x.2[(at_ - x.1).toNat]? with
    | none => (0, 9)
    | some v => if v = -1 then (0, 11) else (v, 0)
theorem storeM_none {m : HM} {at_ b : Int} (hb : 0 ≤ b ∧ b ≤ 255) (h1 : m.live.findIdx? (inB at_) = none) : storeM m at_ b = (m, 9) := by
  unfold storeM
  rw [if_pos hb]
  simp only [h1]
theorem storeM_some {m : HM} {at_ b : Int} {k : Nat} {x : PB} (hb : 0 ≤ b ∧ b ≤ 255) (h1 : m.live.findIdx? (inB at_) = some k) (h2 : m.live[k]? = some x) : storeM m at_ b = ({ m with live := m.live.set k (putB x (at_ - x.1).toNat b) }, 0) := by
  unfold storeM
  rw [if_pos hb]
  simp only [h1, h2]
theorem hold_none {h : Hp} {at_ : Int} (ha : h.bks.any (fun x => inB at_ x.pb) = false) : h.m.live.findIdx? (inB at_) = none := by
  rw [List.findIdx?_eq_none_iff]
  intro x hx
  obtain ⟨y, hy, rfl⟩ := List.mem_map.1 hx
  have := List.any_eq_false.1 ha y hy
  simpa using this
theorem hold_some {h : Hp} {at_ : Int} {k : Nat} {y : Bk} (hy : h.bks[k]? = some y) (hp : inB at_ y.pb = true) (hbf : ∀ (j : Nat) (z : Bk), j < k → h.bks[j]? = some z → inB at_ z.pb = false) : h.m.live.findIdx? (inB at_) = some k ∧ h.m.live[k]? = some y.pb := by
  have h2 : h.m.live[k]? = some y.pb := by
    show (h.bks.map (·.pb))[k]? = _
    rw [List.getElem?_map, hy]
    rfl
  refine ⟨?_, h2⟩
  obtain ⟨hk, e⟩ := List.getElem?_eq_some_iff.1 h2
  rw [List.findIdx?_eq_some_iff_getElem]
  refine ⟨hk, by rw [e]; exact hp, fun j hj => ?_⟩
  have hj2 : j < h.bks.length := by
    have : k < (h.bks.map (·.pb)).length := hk
    rw [List.length_map] at this
    omega
  have := hbf j h.bks[j] hj (List.getElem?_eq_getElem hj2)
  have e3 : h.m.live[j]'(by omega) = h.bks[j].pb := List.getElem_map (l := h.bks) (f := fun x : Bk => x.pb)
  rw [e3, this]
  simp
theorem inB_j {at_ : Int} {x : PB} (h : inB at_ x = true) : ∃ (j : Nat) (v : Int), at_ - x.1 = (j : Int) ∧ (at_ - x.1).toNat = j ∧ j < x.2.length ∧ x.2[j]? = some v := by
  unfold inB pend at h
  simp only [Bool.and_eq_true, decide_eq_true_eq] at h
  have hj : (at_ - x.1).toNat < x.2.length := by omega
  exact ⟨(at_ - x.1).toNat, x.2[(at_ - x.1).toNat], by omega, rfl, hj, List.getElem?_eq_getElem hj⟩
theorem m_store (h : Hp) (k : Nat) (y : Bk) (j : Nat) (b : Int) : (storeH h k y j b).m = { h.m with live := h.m.live.set k (putB y.pb j b) } := by
  unfold storeH Hp.m
  simp only [List.map_set]
theorem Did.storeAt {w w1 : World} {h h1 : Hp} (a : Did w h w1 h1) (k : Nat) (y : Bk) (hy : h1.bks[k]? = some y) (j : Nat) (b : Int) (row : Nat) (hr : row = y.row) : Did w h (w1.setCell ⟨row, j, none⟩ (.int .i64 b)) (storeH h1 k y j b) := by subst hr; exact a.store k y hy j b
set_option maxHeartbeats 4000000 in
set_option maxRecDepth 100000 in
theorem store_act (h : Hp) (at_ b : Int) (w : World) (H : HpR w h) (I : Inv h.m) (hmu : h.mu = 0) :
    Calls Tryz.prog 11 #[h.ptr, .int .i64 at_, .int .i64 b] w (Act1 (storeM h.m at_ b) w h) := by
  have c0 := H.mu0
  rw [hmu] at c0
  have f0 := H.free 0
  obtain ⟨w1, hw1⟩ : ∃ w1, w1 = w.setCell ⟨h.blk, 0, none⟩ (.int .i32 1) := ⟨_, rfl⟩
  have D1 : Did w h w1 (locked h) := by rw [hw1]; exact (Did.refl H).lock 1
  obtain ⟨r, hr⟩ : ∃ r, r = storeM h.m at_ b := ⟨_, rfl⟩
  rw [← hr]
  unfold Hp.ptr
  obtain ⟨g, hg⟩ : ∃ g, g = h.blk := ⟨_, rfl⟩
  rw [← hg] at c0 f0 hw1 ⊢
  have KM : Hid (∀ W h3, Did w h W h3 → h3.blk = g → h3.mu = 1 → W.cell? ⟨g, 0, none⟩ = some (.int .i32 1) ∧ W.frozen? ⟨g, 0, none⟩ = false) := fun W h3 D e1 e2 => D.mine0 g e1.symm e2
  have HI := hide I
  have HW1 := hide hw1
  have HR := hide hr
  have HG := hide hg
  have HD1 := hide D1
  clear I H hw1 hr hg D1
  have KMU := hide (KM.out _ _ HD1.out HG.out.symm rfl).1
  have KFR := hide (KM.out _ _ HD1.out HG.out.symm rfl).2
  have hcase : ¬ (0 ≤ b ∧ b ≤ 255) → r = (h.m, 1) := fun hn => by rw [HR.out]; exact if_neg hn
  cases h1 : decide (b < 0)
  · cases h2 : decide (255 < b)
    · have hb : 0 ≤ b ∧ b ≤ 255 := by simp at h1 h2; omega
      have HHO : Hid (Calls Tryz.prog 66 #[.pointer (some ⟨g, 4, none⟩), .int .i64 at_] w1 (HoldPost (locked h) at_ w1)) := by
        have := holder_any (locked h) at_ w1 HD1.out.rep HI.out.near
        unfold Hp.bptr at this
        rw [show (locked h).blk = g from HG.out.symm] at this
        exact this
      clear hcase
      go_enter_defers Tryz.func11, Tryz.ntmps11
      go_wp2_with (go_at_call 57; refine (Go.MuLone.lock_free muLib ⟨g, 0, none⟩ _ c0 f0).mono ?_; rintro e w' ⟨rfl, rfl⟩; rw [← HW1.out])
      refine HHO.out.mono ?_
      rintro e w2 ⟨hq2, (⟨ha, rfl⟩ | ⟨k, y, hy, hp, hbf, rfl⟩)⟩
      · have hr : r = (h.m, 9) := by
          rw [HR.out]
          exact storeM_none hb (hold_none (h := locked h) ha)
        have FIN0 : Hid (∀ W, Q w1 W → Act1 r w h (.returned (.int .i64 9)) (W.setCell ⟨g, 0, none⟩ (.int .i32 0))) := fun W hq => by
          rw [hr]
          exact (HD1.out.q hq).out1 (r := (h.m, 9)) g HG.out rfl
        have FIN := hide (FIN0.out _ (hq2.alloc (.cells #[.int .i64 0, .slice none 0 0] 111)))
        have KMU := hide (KM.out _ _ (HD1.out.q (hq2.alloc (.cells #[.int .i64 0, .slice none 0 0] 111))) HG.out.symm rfl).1
        have KFR := hide (KM.out _ _ (HD1.out.q (hq2.alloc (.cells #[.int .i64 0, .slice none 0 0] 111))) HG.out.symm rfl).2
        clear hr ha
        go_wp2_with fail
        refine leaves_cons (f := 58) (args := #[.pointer (some ⟨g, 0, none⟩)]) (by simp) (by simp [go_sem]) ?_
        refine (Go.MuLone.unlock_deferred muLib ⟨g, 0, none⟩ .returning _ KMU.out KFR.out).mono ?_
        rintro e u' w9 ⟨rfl, rfl, rfl⟩
        refine ⟨_, results_tmp rfl _ _ _, ?_⟩
        exact FIN.out
      · obtain ⟨e1, e2⟩ := hold_some (h := locked h) hy hp hbf
        obtain ⟨j, v, hj1, hj2, hj3, hv⟩ := inB_j hp
        have hm := List.mem_of_getElem? hy
        have hy10 := (HI.out.near.2 y hm).2.2
        obtain ⟨cB, fB, hrl⟩ := (HD1.out.q hq2).rep.byte hm hv
        have hr : r = ({ h.m with live := h.m.live.set k (putB y.pb j b) }, 0) := by
          rw [HR.out, storeM_some (m := h.m) hb e1 e2, hj2]
        have FIN0 : Hid (∀ o, Act1 r w h (.returned (.int .i64 0)) (((w2.setCell ⟨y.row, j, none⟩ (.int .i64 b)).alloc o).setCell ⟨g, 0, none⟩ (.int .i32 0)) ∧ ((w2.setCell ⟨y.row, j, none⟩ (.int .i64 b)).alloc o).cell? ⟨g, 0, none⟩ = some (.int .i32 1) ∧ ((w2.setCell ⟨y.row, j, none⟩ (.int .i64 b)).alloc o).frozen? ⟨g, 0, none⟩ = false) := fun o => by
          have D := ((HD1.out.q hq2).store k y hy j b).q ((Q.refl _).alloc o)
          refine ⟨?_, KM.out _ _ D HG.out.symm rfl⟩
          rw [hr]
          exact D.out1 (r := ({ h.m with live := h.m.live.set k (putB y.pb j b) }, 0)) g HG.out (m_store _ _ _ _ _)
        clear hr e1 e2 hm hp hbf hy hj2
        obtain ⟨⟨ya, yb⟩, row, cap⟩ := y
        unfold Bk.bv
        dsimp only at hj1 hj3 hv cB fB hrl FIN0 hy10 ⊢
        obtain ⟨n, hn⟩ : ∃ n, n = yb.length := ⟨_, rfl⟩
        rw [← hn] at hj3 hy10 ⊢
        have hwj : wrap64 (j : Int) = (j : Int) := by unfold wrap64; omega
        have hni : (n : Int) ≤ 10000 := by omega
        have hjn : (j : Int) < (n : Int) := by omega
        have hrn : ¬ row = w2.heap.size := by omega
        have FIN3 := FIN0.out (.cells #[.int .i64 ya, .slice (some ⟨row, 0, none⟩) n cap] 111)
        have FIN := hide FIN3.1
        have KMU := hide FIN3.2.1
        have KFR := hide FIN3.2.2
        clear FIN3 hv hn
        go_wp2_with fail
        refine leaves_cons (f := 58) (args := #[.pointer (some ⟨g, 0, none⟩)]) (by simp) (by simp [go_sem]) ?_
        refine (Go.MuLone.unlock_deferred muLib ⟨g, 0, none⟩ .returning _ KMU.out KFR.out).mono ?_
        rintro e u' w9 ⟨rfl, rfl, rfl⟩
        refine ⟨_, results_tmp rfl _ _ _, ?_⟩
        exact FIN.out
    · have hr := hcase (by simp at h2; omega)
      have FIN := hide (HD1.out.out1 (r := r) g HG.out (by rw [hr]; rfl))
      rw [hr] at FIN ⊢
      clear hcase hr HR
      go_enter_defers Tryz.func11, Tryz.ntmps11
      go_wp2_with (go_at_call 57; refine (Go.MuLone.lock_free muLib ⟨g, 0, none⟩ _ c0 f0).mono ?_; rintro e w' ⟨rfl, rfl⟩; rw [← HW1.out])
      refine leaves_cons (f := 58) (args := #[.pointer (some ⟨g, 0, none⟩)]) (by simp) (by simp [go_sem]) ?_
      refine (Go.MuLone.unlock_deferred muLib ⟨g, 0, none⟩ .returning _ KMU.out KFR.out).mono ?_
      rintro e u' w9 ⟨rfl, rfl, rfl⟩
      refine ⟨_, results_tmp rfl _ _ _, ?_⟩
      exact FIN.out
  · have hr := hcase (by simp at h1; omega)
    have FIN := hide (HD1.out.out1 (r := r) g HG.out (by rw [hr]; rfl))
    rw [hr] at FIN ⊢
    clear hcase hr HR
    go_enter_defers Tryz.func11, Tryz.ntmps11
    go_wp2_with (go_at_call 57; refine (Go.MuLone.lock_free muLib ⟨g, 0, none⟩ _ c0 f0).mono ?_; rintro e w' ⟨rfl, rfl⟩; rw [← HW1.out])
    refine leaves_cons (f := 58) (args := #[.pointer (some ⟨g, 0, none⟩)]) (by simp) (by simp [go_sem]) ?_
    refine (Go.MuLone.unlock_deferred muLib ⟨g, 0, none⟩ .returning _ KMU.out KFR.out).mono ?_
    rintro e u' w9 ⟨rfl, rfl, rfl⟩
    refine ⟨_, results_tmp rfl _ _ _, ?_⟩
    exact FIN.out
set_option maxHeartbeats 4000000 in
set_option maxRecDepth 100000 in
theorem load_act (h : Hp) (at_ : Int) (w : World) (H : HpR w h) (I : Inv h.m) (hmu : h.mu = 0) :
    Calls Tryz.prog 36 #[h.ptr, .int .i64 at_] w (Act2 (h.m, loadM h.m at_) w h) := by
  have c0 := H.mu0
  rw [hmu] at c0
  have f0 := H.free 0
  obtain ⟨w1, hw1⟩ : ∃ w1, w1 = w.setCell ⟨h.blk, 0, none⟩ (.int .i32 1) := ⟨_, rfl⟩
  have D1 : Did w h w1 (locked h) := by rw [hw1]; exact (Did.refl H).lock 1
  obtain ⟨r, hr⟩ : ∃ r, r = (h.m, loadM h.m at_) := ⟨_, rfl⟩
  rw [← hr]
  unfold Hp.ptr
  obtain ⟨g, hg⟩ : ∃ g, g = h.blk := ⟨_, rfl⟩
  rw [← hg] at c0 f0 hw1 ⊢
  have KM : Hid (∀ W h3, Did w h W h3 → h3.blk = g → h3.mu = 1 → W.cell? ⟨g, 0, none⟩ = some (.int .i32 1) ∧ W.frozen? ⟨g, 0, none⟩ = false) := fun W h3 D e1 e2 => D.mine0 g e1.symm e2
  have HI := hide I
  have HW1 := hide hw1
  have HR := hide hr
  have HG := hide hg
  have HD1 := hide D1
  clear I H hw1 hr hg D1
  have HHO : Hid (Calls Tryz.prog 66 #[.pointer (some ⟨g, 4, none⟩), .int .i64 at_] w1 (HoldPost (locked h) at_ w1)) := by
    have := holder_any (locked h) at_ w1 HD1.out.rep HI.out.near
    unfold Hp.bptr at this
    rw [show (locked h).blk = g from HG.out.symm] at this
    exact this
  have FIN0 : Hid (∀ W, Q w1 W → ∀ a b, r = (h.m, a, b) → Act2 r w h (.returned (.tuple #[.int .i64 a, .int .i64 b])) (W.setCell ⟨g, 0, none⟩ (.int .i32 0))) := fun W hq a b hr => by
    rw [hr]
    exact (HD1.out.q hq).out2 (r := (h.m, a, b)) g HG.out rfl
  go_enter_defers Tryz.func36, Tryz.ntmps36
  go_wp2_with (go_at_call 57; refine (Go.MuLone.lock_free muLib ⟨g, 0, none⟩ _ c0 f0).mono ?_; rintro e w' ⟨rfl, rfl⟩; rw [← HW1.out])
  refine HHO.out.mono ?_
  rintro e w2 ⟨hq2, (⟨ha, rfl⟩ | ⟨k, y, hy, hp, hbf, rfl⟩)⟩
  · have hr : r = (h.m, 0, 9) := by
      rw [HR.out]
      unfold loadM
      rw [show h.m.live.findIdx? (inB at_) = none from hold_none (h := locked h) ha]
    have FIN := hide (FIN0.out _ (hq2.alloc (.cells #[.int .i64 0, .slice none 0 0] 111)) 0 9 hr)
    have KMU := hide (KM.out _ _ (HD1.out.q (hq2.alloc (.cells #[.int .i64 0, .slice none 0 0] 111))) HG.out.symm rfl).1
    have KFR := hide (KM.out _ _ (HD1.out.q (hq2.alloc (.cells #[.int .i64 0, .slice none 0 0] 111))) HG.out.symm rfl).2
    clear hr ha
    go_wp2_with fail
    refine leaves_cons (f := 58) (args := #[.pointer (some ⟨g, 0, none⟩)]) (by simp) (by simp [go_sem]) ?_
    refine (Go.MuLone.unlock_deferred muLib ⟨g, 0, none⟩ .returning _ KMU.out KFR.out).mono ?_
    rintro e u' w9 ⟨rfl, rfl, rfl⟩
    refine ⟨_, results_tmp2 rfl _ _ _, ?_⟩
    exact FIN.out
  · obtain ⟨e1, e2⟩ := hold_some (h := locked h) hy hp hbf
    obtain ⟨j, v, hj1, hj2, hj3, hv⟩ := inB_j hp
    have hm := List.mem_of_getElem? hy
    have hy10 := (HI.out.near.2 y hm).2.2
    obtain ⟨cB, fB, hrl⟩ := (HD1.out.q hq2).rep.byte hm hv
    have hr0 : r = (h.m, if v = -1 then (0, 11) else (v, 0)) := by
      rw [HR.out]
      unfold loadM
      rw [show h.m.live.findIdx? (inB at_) = some k from e1]
      simp only
      rw [show h.m.live[k]? = some y.pb from e2, Option.bind_some, hj2, hv]
    clear e1 e2 hm hp hbf hy hj2
    obtain ⟨⟨ya, yb⟩, row, cap⟩ := y
    unfold Bk.bv
    dsimp only at hj1 hj3 hv cB fB hrl FIN0 hy10 ⊢
    obtain ⟨n, hn⟩ : ∃ n, n = yb.length := ⟨_, rfl⟩
    rw [← hn] at hj3 hy10 ⊢
    have hwj : wrap64 (j : Int) = (j : Int) := by unfold wrap64; omega
    have hni : (n : Int) ≤ 10000 := by omega
    have hjn : (j : Int) < (n : Int) := by omega
    have hrn : ¬ row = w2.heap.size := by omega
    have hqA := hq2.alloc (.cells #[.int .i64 ya, .slice (some ⟨row, 0, none⟩) n cap] 111)
    have KMU := hide (KM.out _ _ (HD1.out.q hqA) HG.out.symm rfl).1
    have KFR := hide (KM.out _ _ (HD1.out.q hqA) HG.out.symm rfl).2
    by_cases hv1 : v = -1
    · rw [if_pos hv1] at hr0
      subst hv1
      have FIN := hide (FIN0.out _ hqA 0 11 hr0)
      clear hr0 hv hn
      go_wp2_with fail
      refine leaves_cons (f := 58) (args := #[.pointer (some ⟨g, 0, none⟩)]) (by simp) (by simp [go_sem]) ?_
      refine (Go.MuLone.unlock_deferred muLib ⟨g, 0, none⟩ .returning _ KMU.out KFR.out).mono ?_
      rintro e u' w9 ⟨rfl, rfl, rfl⟩
      refine ⟨_, results_tmp2 rfl _ _ _, ?_⟩
      exact FIN.out
    · rw [if_neg hv1] at hr0
      have hv2 : (v != -1) = true := by simpa using hv1
      have FIN := hide (FIN0.out _ hqA v 0 hr0)
      clear hr0 hv hn
      go_wp2_with fail
      refine leaves_cons (f := 58) (args := #[.pointer (some ⟨g, 0, none⟩)]) (by simp) (by simp [go_sem]) ?_
      refine (Go.MuLone.unlock_deferred muLib ⟨g, 0, none⟩ .returning _ KMU.out KFR.out).mono ?_
      rintro e u' w9 ⟨rfl, rfl, rfl⟩
      refine ⟨_, results_tmp2 rfl _ _ _, ?_⟩
      exact FIN.out
end Go.Proofs.YtdaklffbfadghaaGreat

namespace Go.Proofs.YtdaklffbfadghaaGreat
open Go.RowKit HP
set_option linter.unusedVariables false
theorem El_pair : El Tryz.prog 33 64 2 16 := El.of (z := .agg #[.int .i64 0, .int .i64 0]) Tryz.underlying33 (by kernel_rfl) rfl (by omega) (by omega)
def shape (x : PB) : Int × Int := (x.1, (x.2.length : Int))
def encP (p : Int × Int) : List Value := [.int .i64 p.1, .int .i64 p.2]
def stretches (m : HM) : List (Int × Int) := m.live.map shape
def LivePost (w : World) (h : Hp) (e : Ending) (w' : World) : Prop :=
  ∃ v h', e = .returned v ∧ w'.ownsRow w.heap.size 64 2 v h.bks.length ((stretches h.m).flatMap encP) ∧ Did w h w' h' ∧ h'.mu = 0 ∧ h'.m = h.m
theorem flat_take {α β : Type} (f : α → List β) (l : List α) (k : Nat) (x : α) (h : l[k]? = some x) : (l.take (k + 1)).flatMap f = (l.take k).flatMap f ++ f x := by
  rw [List.take_add_one, h]
  simp
set_option maxHeartbeats 4000000 in
set_option maxRecDepth 100000 in
theorem live_act (h : Hp) (w : World) (H : HpR w h) (I : Inv h.m) (hmu : h.mu = 0) :
    Calls Tryz.prog 12 #[h.ptr] w (LivePost w h) := by
  have c0 := H.mu0
  rw [hmu] at c0
  have f0 := H.free 0
  obtain ⟨w1, hw1⟩ : ∃ w1, w1 = w.setCell ⟨h.blk, 0, none⟩ (.int .i32 1) := ⟨_, rfl⟩
  have D1 : Did w h w1 (locked h) := by rw [hw1]; exact (Did.refl H).lock 1
  obtain ⟨r, hr⟩ : ∃ r, r = stretches h.m := ⟨_, rfl⟩
  unfold Hp.ptr
  obtain ⟨g, hg⟩ : ∃ g, g = h.blk := ⟨_, rfl⟩
  rw [← hg] at c0 f0 hw1 ⊢
  have KM : Hid (∀ W h3, Did w h W h3 → h3.blk = g → h3.mu = 1 → W.cell? ⟨g, 0, none⟩ = some (.int .i32 1) ∧ W.frozen? ⟨g, 0, none⟩ = false) := fun W h3 D e1 e2 => D.mine0 g e1.symm e2
  have HI := hide I
  have HW1 := hide hw1
  have HR := hide hr
  have HG := hide hg
  have HD1 := hide D1
  clear I H hw1 hr hg D1
  obtain ⟨A, c, -, hS, k5, hb⟩ := HD1.out.rep.open_
  have hN2 := HI.out.near.2
  have hN1 := HI.out.near.1
  have hw1s : w1.heap.size = w.heap.size := by rw [HW1.out]; simp [World.setCell]
  have FIN0 : Hid (∀ W v, Q w1 W → W.ownsRow w1.heap.size 64 2 v h.bks.length (r.flatMap encP) → LivePost w h (.returned v) (W.setCell ⟨g, 0, none⟩ (.int .i32 0))) := fun W v hq ho => by
    have D := HD1.out.q hq
    refine ⟨v, unlocked (locked h), rfl, ?_, ?_, rfl, rfl⟩
    · have ho2 := own_low ho (Nat.le_of_eq hw1s.symm)
      rw [HR.out] at ho2
      refine own_same ho2 fun b hb => heap_setCell_other _ _ _ _ ?_
      obtain ⟨cs, e⟩ := own_blk ho hb
      have := D.rep.cells
      rw [show (locked h).blk = g from HG.out.symm] at this
      exact ty_ne e this (by decide)
    · have := D.lock 0
      rw [show (locked h).blk = g from HG.out.symm] at this
      rw [HG.out] at this ⊢
      exact this
  have hrl : Hid (∀ (k : Nat) (x : Bk), h.bks[k]? = some x → r[k]? = some (shape x.pb)) := fun k x hx => by
    rw [HR.out]
    show ((h.bks.map (·.pb)).map shape)[k]? = _
    rw [List.getElem?_map, List.getElem?_map, hx]
    rfl
  have hrn : Hid (r.length = h.bks.length) := by
    rw [HR.out]
    show ((h.bks.map (·.pb)).map shape).length = _
    rw [List.length_map, List.length_map]
  rw [show (locked h).blk = g from HG.out.symm] at k5 hb
  rw [show (locked h).bks = h.bks from rfl] at hS k5
  have HS := hide hS
  have HN2 := hide hN2
  obtain ⟨n, hn⟩ : ∃ n, n = h.bks.length := ⟨_, rfl⟩
  rw [← hn] at HS k5 hN1 FIN0 hrn
  have HNN := hide hn
  have hni : (n : Int) ≤ 100 := by omega
  clear hS hN2 hn HR
  go_enter_defers Tryz.func12, Tryz.ntmps12
  go_wp2_with (go_at_call 57; refine (Go.MuLone.lock_free muLib ⟨g, 0, none⟩ _ c0 f0).mono ?_; rintro e w' ⟨rfl, rfl⟩; rw [← HW1.out])
  go_loopw [3, 21] (fun v vi wr => ∃ k : Nat, k ≤ n ∧ vi = .int .i64 (k : Int) ∧ wr.ownsRow w1.heap.size 64 2 v k ((r.take k).flatMap encP) ∧ Q w1 wr) (fun _ vi _ => n - (intOf vi).toNat)
  case atStart => exact ⟨0, by omega, by go_num, World.ownsRow_nil _ _ _ _, Q.refl _⟩
  case round =>
    obtain ⟨k, hk, rfl, hown, hq⟩ := hrel
    have hsz := hq.size
    by_cases hlt : k < n
    · have hd1 : decide ((k : Int) < (n : Int)) = true := by simp; omega
      have hd0 : decide (k < n) = true := by simp; omega
      have hlti : (k : Int) < (n : Int) := by omega
      obtain ⟨b1, o1, ⟨⟨ya, yb⟩, row, cap⟩, rfl, hb1, g1, x1, x2⟩ := (HS.out.up hq).bk k hlt
      dsimp only at x1 x2
      have hr1 := hrl.out k _ g1
      have hyl := (HN2.out _ (List.mem_of_getElem? g1)).2.2
      dsimp only at hyl
      have HT : Hid ((r.take (k + 1)).flatMap encP = (r.take k).flatMap encP ++ [.int .i64 ya, .int .i64 (yb.length : Int)]) := flat_take encP r k _ hr1
      obtain ⟨m, hm⟩ : ∃ m, m = yb.length := ⟨_, rfl⟩
      rw [← hm] at x2 hyl HT
      have hmi : (m : Int) ≤ 10000 := by omega
      obtain ⟨Ao, co, eo, ho1, ho2, ho3, -⟩ := own_form hown
      subst eo
      clear ho3 hm g1 hr1
      go_wp2_with (at_builtin; refine wpList_app1 rfl El_pair _ _ rfl rfl (hown.alloc _) (by simp) rfl rfl ?_ ?_ ?_ ?_; (focus (simp [Value.oneCell'])); (focus omega); (focus (simp; omega)); intro v1 w5 hown5 hb5)
      go_roundw
      case rel => exact ⟨k + 1, by omega, by go_num, by rw [HT.out]; exact hown5, q_below (hq.alloc _) hb5 (Nat.le_refl _)⟩
      case measure => simp [intOf] <;> omega
    · have hd1 : decide ((k : Int) < (n : Int)) = false := by simp; omega
      have hd0 : decide (k < n) = false := by simp; omega
      obtain rfl : k = n := by omega
      have hall : r.take k = r := by rw [List.take_of_length_le (by rw [hrn.out]; exact Nat.le_refl _)]
      rw [hall] at hown
      have FIN := hide (FIN0.out wr _ hq hown)
      have KMU := hide (KM.out _ _ (HD1.out.q hq) HG.out.symm rfl).1
      have KFR := hide (KM.out _ _ (HD1.out.q hq) HG.out.symm rfl).2
      clear hown hall
      go_wp2_with fail
      refine leaves_cons (f := 58) (args := #[.pointer (some ⟨g, 0, none⟩)]) (by simp) (by simp [go_sem]) ?_
      refine (Go.MuLone.unlock_deferred muLib ⟨g, 0, none⟩ .returning _ KMU.out KFR.out).mono ?_
      rintro e u' w9 ⟨rfl, rfl, rfl⟩
      refine ⟨_, results_tmp rfl _ _ _, ?_⟩
      exact FIN.out
end Go.Proofs.YtdaklffbfadghaaGreat

namespace Go.Proofs.YtdaklffbfadghaaGreat
open Go.RowKit HP
set_option linter.unusedVariables false
namespace Ri
section
variable {P : Program} {R : Exit → Act → World → Prop} {o : Oper} {A : Act} {w : World}
theorem run_len {x : Operand} {t e : TypeId} {b : Option Addr} {n c : Nat} (ho : o.op = .call { callee := .builtin .len, args := #[x], argTypes := #[t] }) (hx : A.eval x = .slice b n c) (ht : P.underlying t = some (.slice e)) : (execOp A.eval o).run P w = .ok (.value (.int .i64 (n : Nat))) w := by
  unfold execOp
  simp only [ho, resolve, invoke, builtin, Sem.run_bind, Sem.run_pure, Result.andThen_ok, List.map_toArray, List.map_cons, List.map_nil, hx]
  simp [Builtin.len_, run_underlying ht, goInt]
theorem run_sub {x y : Operand} {t t' : TypeId} {p u : Int} (ho : o.op = .binOp .sub t x y t') (hx : A.eval x = .int .i64 p) (hy : A.eval y = .int .i64 u) (hu : P.underlying t = some (.int .i64)) (h0 : -9223372036854775808 ≤ p - u) (h1 : p - u ≤ 9223372036854775807) : (execOp A.eval o).run P w = .ok (.value (.int .i64 (p - u))) w := by
  have e : IntKind.i64.wrap (p - u) = p - u := by rw [IntKind.wrap_i64]; omega
  unfold execOp
  simp only [ho, hx, hy]
  simp [go_sem, e]
theorem run_eql {x y : Operand} {t t' : TypeId} {p u : Int} (ho : o.op = .binOp .eql t x y t') (hx : A.eval x = .int .i64 p) (hy : A.eval y = .int .i64 u) (hu : P.underlying t = some (.int .i64)) : (execOp A.eval o).run P w = .ok (.value (.bool (p == u))) w := by
  unfold execOp
  simp only [ho, hx, hy]
  simp [go_sem]
/-- a slice cut short -/
theorem run_cut {x hi : Operand} {t e : TypeId} {b n c : Nat} {m : Nat} (ho : o.op = .slice t x none (some hi) none) (hx : A.eval x = .slice (some ⟨b, 0, none⟩) n c) (hh : A.eval hi = .int .i64 (m : Int)) (hu : P.underlying t = some (.slice e)) {sz : Nat} (hs : (P.info? e).map (·.size) = some sz) (hm : m ≤ c) :
    (execOp A.eval o).run P w = .ok (.value (.slice (some ⟨b, 0, none⟩) m c)) w := by
  have hu' : P.underlying t = some (.slice (P.elem t)) := by
    have : P.elem t = e := by unfold Program.elem; simp [hu]
    rw [this]; exact hu
  have he : P.elem t = e := by unfold Program.elem; simp [hu]
  have hsz : (sizeOf e).run P w = .ok sz w := by
    cases hq : P.info? e with
    | none => simp [hq] at hs
    | some i => simp [hq] at hs; simp [sizeOf, typeInfo, hq, hs]
  unfold execOp
  simp only [ho, hx, Option.map_none, Option.map_some, hh]
  simp [run_sliceAt_slice _ _ _ _ _ _ hu', run_slice_h (P := P) w t _ n c hu' .i64 (m : Int) (by omega) (by omega), he, hsz, sliced]
  intro _
  exact addr_add b 0 0
/-- append of a slice's elements to a row of the call's own -/
theorem wp_appW {t e size bytes base : Nat} {v : Value} {n m c B : Nat} {xs news : List Value} {ad : Addr} {Post : Value → World → Prop} (E : El P t e size bytes) (s x : Operand) (ho : o.op = .call { callee := .builtin .append, args := #[s, x], argTypes := #[t, t] })
    (hs : A.eval s = v) (hown : w.ownsRow base e size v n xs) (hx : A.eval x = .slice (some ad) m c) (hl : news.length = m * size) (hr : Rd w B (some ad) news) (h1 : ∀ u ∈ news, u.oneCell' = true)
    (hb : (n + m) * bytes ≤ 140737488355328) (hbase : base ≤ w.heap.size) (h : ∀ v' w', w'.ownsRow base e size v' (n + m) (xs ++ news) → w.grownBy w' v.ownBlock → Post v' w') : o.wp P A w (fun a' w' => ∃ v, a' = A.put o.dst v ∧ Post v w') R := by
  obtain ⟨i, z, hi, hz, hsz, hby, hzs⟩ := E.inf
  have hle : n + m ≤ (n + m) * bytes := Nat.le_mul_of_pos_right _ E.bpos
  refine wp_append_own _ s x t ho base e i z size bytes E.und hi hz hsz hby hzs E.pos v n xs hs hown ad m c news hx hl (fun j u hu => ?_) h1 (by simp only [maxLen]; omega) hb hbase (fun v' w' h2 h3 _ => ⟨v', rfl, h v' w' h2 h3⟩)
  rcases hr with rfl | ⟨b, o, h2, _, h3⟩
  · simp at hu
  · obtain rfl := Option.some.inj h2
    rw [addr_add]
    exact h3 j u hu
end
end Ri
end Go.Proofs.YtdaklffbfadghaaGreat

namespace Go.Proofs.YtdaklffbfadghaaGreat
open Go.RowKit HP
set_option linter.unusedVariables false
theorem shape_fit {size : Int} {l l' : List PB} (h : Fit size l) (e : l'.map shape = l.map shape) : Fit size l' := by
  refine ⟨h.sz, fun x hx => ?_, ?_⟩
  · have : shape x ∈ l.map shape := by rw [← e]; exact List.mem_map_of_mem hx
    obtain ⟨y, hy, e2⟩ := List.mem_map.1 this
    have h1 := h.inn y hy
    unfold shape at e2
    injection e2 with e3 e4
    unfold pend at h1 ⊢
    omega
  · have h1 : (l.map shape).Pairwise fun a b => a.1 + a.2 ≤ b.1 := List.pairwise_map.2 h.ord
    rw [← e] at h1
    exact List.pairwise_map.1 h1
theorem shape_used : ∀ {l l' : List PB}, l'.map shape = l.map shape → used l' = used l
  | [], [], _ => rfl
  | [], _ :: _, h => by simp at h
  | _ :: _, [], h => by simp at h
  | x :: l, y :: l', h => by
    simp only [List.map_cons, List.cons.injEq] at h
    simp only [used]
    rw [shape_used h.2]
    have := h.1
    unfold shape at this
    injection this with _ e
    omega
theorem Inv.shape {m : HM} (I : Inv m) {l' : List PB} (e : l'.map shape = m.live.map shape) : Inv { m with live := l' } := by
  have hx : ∀ x ∈ l', ∃ y ∈ m.live, x.1 = y.1 ∧ x.2.length = y.2.length := fun x hx => by
    have : Go.Proofs.YtdaklffbfadghaaGreat.shape x ∈ m.live.map Go.Proofs.YtdaklffbfadghaaGreat.shape := by rw [← e]; exact List.mem_map_of_mem hx
    obtain ⟨y, hy, e2⟩ := List.mem_map.1 this
    unfold Go.Proofs.YtdaklffbfadghaaGreat.shape at e2
    injection e2 with e3 e4
    exact ⟨y, hy, e3.symm, by omega⟩
  refine ⟨I.kind, shape_fit I.fit e, ?_, I.top, fun hk x hm => ?_, I.piece, fun hk x hm => ?_, ⟨?_, I.peak.2⟩, I.failIn, I.calls⟩
  · show l'.length ≤ 64
    have := congrArg List.length e
    rw [List.length_map, List.length_map] at this
    rw [this]
    exact I.len
  · obtain ⟨y, hy, e1, e2⟩ := hx x hm
    have := I.bump hk y hy
    show pend x ≤ m.top
    unfold pend at this ⊢
    omega
  · obtain ⟨y, hy, e1, e2⟩ := hx x hm
    have := I.pool hk y hy
    show x.1 % m.piece = 0 ∧ x.1 + m.piece ≤ m.size ∧ (x.2.length : Int) ≤ m.piece
    rw [e1, e2]
    exact this
  · show used l' ≤ m.peak
    rw [shape_used e]
    exact I.peak.1
theorem store_inv {m : HM} (I : Inv m) (at_ b : Int) : Inv (storeM m at_ b).1 := by
  unfold storeM
  split
  · split
    · exact I
    · split
      · exact I
      · rename_i k _ x hx
        refine I.shape ?_
        rw [List.map_set]
        refine List.ext_getElem? fun i => ?_
        rw [List.getElem?_set]
        split
        · rename_i e
          subst e
          rw [List.getElem?_map, hx]
          have := (List.getElem?_eq_some_iff.1 hx).1
          simp [this, shape, putB]
        · rfl
  · exact I
end Go.Proofs.YtdaklffbfadghaaGreat
