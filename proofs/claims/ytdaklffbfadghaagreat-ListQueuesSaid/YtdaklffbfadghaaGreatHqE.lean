/- What holds of every heap stays behind Alloc and Free. No program. Conditions: as each theorem says. -/
import Derived.Test.YtdaklffbfadghaaGreatHqD
namespace Go.Proofs.YtdaklffbfadghaaGreat
open Go.RowKit HP
set_option linter.unusedVariables false
theorem used_perm {a b : List PB} (h : a.Perm b) : used a = used b := by
  induction h with
  | nil => rfl
  | cons x _ ih => simp only [used, ih]
  | swap x y l => simp only [used]; omega
  | trans _ _ h1 h2 => exact h1.trans h2
theorem used_ins (l : List PB) (k : Nat) (x : PB) : used (insAt l k [x]) = used l + (x.2.length : Int) := by
  rw [used_perm (insAt_perm l k x)]
  simp only [used]
  omega
theorem used_del (l : List PB) (k : Nat) (x : PB) (h : l[k]? = some x) : used (delAt l k 1) + (x.2.length : Int) = used l := by
  have hk := (List.getElem?_eq_some_iff.1 h).1
  have e : l = l.take (k + 1) ++ l.drop (k + 1) := (List.take_append_drop _ _).symm
  have h1 := used_take_succ l k x h
  have h2 := used_append (l.take (k + 1)) (l.drop (k + 1))
  rw [← e] at h2
  unfold delAt
  rw [used_append]
  omega
/-- two blocks, none over the other -/
def Apart (x y : PB) : Prop := pend x ≤ y.1 ∨ pend y ≤ x.1
theorem Fit.insert {size : Int} {l : List PB} (h : Fit size l) {x : PB} (h0 : 0 ≤ x.1) (h1 : 1 ≤ x.2.length) (h2 : pend x ≤ size) (hap : ∀ y ∈ l, Apart x y) : Fit size (insAt l (below l x.1) [x]) := by
  obtain ⟨b1, b2⟩ := below_spec h x.1
  refine ⟨h.sz, fun y hy => ?_, ?_⟩
  · rcases insAt_mem.1 hy with rfl | hy
    · exact ⟨h0, h1, h2⟩
    · exact h.inn y hy
  · have hs := h.ord
    have e : l = l.take (below l x.1) ++ l.drop (below l x.1) := (List.take_append_drop _ _).symm
    have hp : ∀ y : PB, y ∈ l → y.1 < pend y := fun y hy => by have := (h.inn y hy).2.1; unfold pend; omega
    have hx : x.1 < pend x := by unfold pend; omega
    have hA : ∀ y ∈ l.take (below l x.1), pend y ≤ x.1 := fun y hy => by
      obtain ⟨j, hj, rfl⟩ := List.getElem_of_mem hy
      rw [List.length_take] at hj
      have hm : (l.take (below l x.1))[j] ∈ l := List.mem_of_mem_take hy
      have := b1 j (l.take (below l x.1))[j] (by omega) (by rw [List.getElem_take]; exact List.getElem?_eq_getElem (by omega))
      rcases hap _ hm with h3 | h3
      · omega
      · exact h3
    have hB : ∀ y ∈ l.drop (below l x.1), pend x ≤ y.1 := fun y hy => by
      obtain ⟨j, hj, rfl⟩ := List.getElem_of_mem hy
      rw [List.length_drop] at hj
      have hm : (l.drop (below l x.1))[j] ∈ l := List.mem_of_mem_drop hy
      have := b2 (below l x.1 + j) (l.drop (below l x.1))[j] (by omega) (by rw [List.getElem_drop]; exact List.getElem?_eq_getElem (by omega))
      rcases hap _ hm with h3 | h3
      · exact h3
      · have := hp _ hm; omega
    unfold sorted at hs ⊢
    rw [e] at hs
    obtain ⟨s1, s2, s3⟩ := List.pairwise_append.1 hs
    unfold insAt
    refine List.pairwise_append.2 ⟨s1, ?_, ?_⟩
    · rw [List.singleton_append]
      exact List.pairwise_cons.2 ⟨hB, s2⟩
    · intro y hy z hz
      rw [List.singleton_append] at hz
      rcases List.mem_cons.1 hz with rfl | hz
      · exact hA y hy
      · exact s3 y hy z hz
theorem Fit.delete {size : Int} {l : List PB} (h : Fit size l) (k : Nat) : Fit size (delAt l k 1) :=
  ⟨h.sz, fun y hy => h.inn y (delAt_mem hy), h.ord.sublist (delAt_sub l k 1)⟩
theorem freeB_apart {size : Int} {l : List PB} (h : Fit size l) {a b : Int} (hf : freeB size l a b (-1) = true) : b ≤ size ∧ ∀ y ∈ l, b ≤ y.1 ∨ pend y ≤ a := by
  unfold freeB at hf
  simp only [Bool.and_eq_true, Bool.not_eq_true', decide_eq_false_iff_not] at hf
  refine ⟨by omega, fun y hy => ?_⟩
  have h1 := List.any_eq_false.1 hf.2 y hy
  have h0 := (h.inn y hy).1
  unfold clash at h1
  simp only [Bool.and_eq_true, decide_eq_true_eq] at h1
  rcases Int.lt_or_le y.1 b with h2 | h2
  · rcases Int.lt_or_le a (pend y) with h3 | h3
    · exact absurd ⟨by omega, h2, h3⟩ h1
    · exact .inr h3
  · exact .inl h2
theorem scan_spec (p : Int → Bool) (lim step : Int) (hst : 1 ≤ step) : ∀ (f : Nat) (a0 a : Int), 0 ≤ a0 → a0 % step = 0 → scanF p lim step f a0 = some a → 0 ≤ a ∧ a ≤ lim ∧ p a = true ∧ a % step = 0
  | 0, a0, a, _, _, h => by simp [scanF] at h
  | f + 1, a0, a, h0, hm, h => by
    unfold scanF at h
    split at h
    · cases h
    · split at h
      · cases h; rename_i h1 h2; exact ⟨h0, by omega, h2, hm⟩
      · exact scan_spec p lim step hst f _ _ (by omega) (by rw [Int.add_emod_right]; exact hm) h
theorem upTo_ge (t m : Int) (hm : 1 ≤ m) : t ≤ upTo t m ∧ upTo t m % m = 0 := by
  unfold upTo
  refine ⟨?_, Int.mul_emod_left _ _⟩
  have h1 := Int.mul_ediv_add_emod (t + m - 1) m
  have h2 := Int.emod_lt_of_pos (t + m - 1) (show 0 < m by omega)
  rw [Int.mul_comm] at h1
  omega
theorem room_spec {m : HM} (I : Inv m) {n al a : Int} (hn : 1 ≤ n) (hal : 1 ≤ al) (h : roomM m n al = some a) :
    0 ≤ a ∧ a + n ≤ m.size ∧ (∀ y ∈ m.live, a + n ≤ y.1 ∨ pend y ≤ a) ∧ (m.kind = 1 ∨ m.kind = 2 → m.top ≤ a) ∧ (m.kind = 3 → a % m.piece = 0 ∧ a + m.piece ≤ m.size ∧ n ≤ m.piece) ∧ a % al = 0 := by
  unfold roomM at h
  split at h
  · rename_i hk
    obtain ⟨h1, h2, h3, h4⟩ := scan_spec _ _ _ hal _ _ _ (Int.le_refl _) (Int.zero_emod _) h
    obtain ⟨h5, h6⟩ := freeB_apart I.fit h3
    exact ⟨h1, h5, h6, fun e => by omega, fun e => by omega, h4⟩
  · split at h
    · rename_i hk
      have hp := I.piece hk
      split at h
      · rename_i hnp
        obtain ⟨h1, h2, h3, h4⟩ := scan_spec _ _ _ hp.1 _ _ _ (Int.le_refl _) (Int.zero_emod _) h
        unfold poolP at h3
        simp only [Bool.and_eq_true, decide_eq_true_eq] at h3
        obtain ⟨h5, h6⟩ := freeB_apart I.fit h3.2
        exact ⟨h1, by omega, fun y hy => by have := h6 y hy; omega, fun e => by omega, fun _ => ⟨h4, h5, hnp⟩, h3.1⟩
      · cases h
    · split at h
      · rename_i hk0 hk3 hfit
        cases h
        obtain ⟨h1, h2⟩ := upTo_ge m.top al hal
        have hk : m.kind = 1 ∨ m.kind = 2 := by have := I.kind; omega
        have := I.top.1
        exact ⟨by omega, hfit, fun y hy => .inr (by have := I.bump hk y hy; omega), fun _ => h1, fun e => absurd e hk3, h2⟩
      · cases h
theorem used_bound {m : HM} (hF : Fit m.size m.live) (hl : m.live.length ≤ 65) : used m.live ≤ 300000 := by
  have h1 := used_le m.live 4096 (fun x hx => by
    have := hF.inn x hx
    have := hF.sz
    unfold pend at *
    omega)
  omega
/-- a new block, and whatever peak -/
theorem Inv.put {m : HM} (I : Inv m) (x : PB) (hl : m.live.length < 64) (h0 : 0 ≤ x.1) (h1 : 1 ≤ x.2.length) (h2 : pend x ≤ m.size) (hap : ∀ y ∈ m.live, Apart x y) (hb : m.kind = 1 ∨ m.kind = 2 → m.top ≤ x.1)
    (hp : m.kind = 3 → x.1 % m.piece = 0 ∧ x.1 + m.piece ≤ m.size ∧ (x.2.length : Int) ≤ m.piece) : ∀ p, used (putM m x).live ≤ p → p ≤ 1000000 → Inv { putM m x with peak := p } := fun p hu hp2 => by
  have hlen : (putM m x).live.length = m.live.length + 1 := insAt_len _ _ _ (below_le _ _)
  have hx : x.1 < pend x := by unfold pend; omega
  refine ⟨I.kind, Fit.insert I.fit h0 h1 h2 hap, ?_, ?_, ?_, I.piece, ?_, ⟨hu, hp2⟩, I.failIn, I.calls⟩
  · show (putM m x).live.length ≤ 64
    omega
  · show 0 ≤ takenM m x ∧ takenM m x ≤ m.size
    unfold takenM
    split
    · exact ⟨by omega, h2⟩
    · exact I.top
  · intro e y hy
    show pend y ≤ takenM m x
    have e : m.kind = 1 ∨ m.kind = 2 := e
    unfold takenM
    rw [if_pos e]
    rcases insAt_mem.1 hy with rfl | hy
    · exact Int.le_refl _
    · have := I.bump e y hy
      have := hb e
      omega
  · intro e y hy
    rcases insAt_mem.1 hy with rfl | hy
    · exact hp e
    · exact I.pool e y hy
theorem Inv.peaked {m : HM} {p q : Int} (I : Inv { m with peak := p }) (h1 : used m.live ≤ q) (h2 : q ≤ 1000000) : Inv { m with peak := q } :=
  ⟨I.kind, I.fit, I.len, I.top, I.bump, I.piece, I.pool, ⟨h1, h2⟩, I.failIn, I.calls⟩
theorem Inv.take {m : HM} (I : Inv m) (k : Nat) (x : PB) (h : m.live[k]? = some x) : Inv (takeM m k x) := by
  have hk := (List.getElem?_eq_some_iff.1 h).1
  have hx := I.fit.inn x (List.mem_of_getElem? h)
  refine ⟨I.kind, Fit.delete I.fit k, ?_, ?_, ?_, I.piece, fun e y hy => I.pool e y (delAt_mem hy), ⟨?_, I.peak.2⟩, I.failIn, I.calls⟩
  · show (delAt m.live k 1).length ≤ 64
    have := delAt_len m.live k 1 (by omega)
    have := I.len
    omega
  · show 0 ≤ goneM (cutM m k) x ∧ goneM (cutM m k) x ≤ m.size
    unfold goneM
    split
    · refine ⟨hx.1, ?_⟩
      have := hx.2.2
      unfold pend at this
      omega
    · exact I.top
  · intro e y hy
    show pend y ≤ goneM (cutM m k) x
    have hy : y ∈ delAt m.live k 1 := hy
    unfold goneM
    split
    · rename_i hc
      have h1 := List.any_eq_false.1 hc.2 y hy
      simp only [decide_eq_true_eq] at h1
      obtain ⟨j, hj, rfl⟩ := List.getElem_of_mem hy
      have hj' : (delAt m.live k 1)[j]? = some (delAt m.live k 1)[j] := List.getElem?_eq_getElem hj
      rw [delAt_get _ _ _ (by omega)] at hj'
      split at hj'
      · exact (I.fit.lt hj' h (by omega)).2
      · have := (I.fit.lt h hj' (by omega)).1
        omega
    · exact I.bump e y (delAt_mem hy)
  · show used (delAt m.live k 1) ≤ m.peak
    have := used_del m.live k x h
    have := I.peak.1
    omega
theorem Inv.note {m : HM} {p : Int} (I : Inv { m with peak := p }) (hp : m.peak ≤ 1000000) : Inv (noteM m) := by
  have h1 := used_bound (m := m) I.fit (by have := I.len; show m.live.length ≤ 65; have e : m.live.length ≤ 64 := this; omega)
  exact I.peaked (Int.le_max_right _ _) (by omega)
theorem undef_pend (a : Int) (n : Nat) : pend (a, undefs n) = a + n := by unfold pend; rw [undefs_len]
theorem alloc_inv {m : HM} (I : Inv m) (n al : Int) : Inv (allocM m n al).1 := by
  unfold allocM
  split
  · exact I
  · rename_i hc
    split
    · exact I.count
    · rename_i hf
      split
      · exact I.count
      · rename_i a hr
        have hnal : 1 ≤ n ∧ 1 ≤ al := by
          unfold sizeB alignB at hc
          simp at hc
          omega
        obtain ⟨h1, h2, h3, h4, h5, h6⟩ := room_spec I.count hnal.1 hnal.2 hr
        have hp : pend (a, undefs n.toNat) = a + n := by rw [undef_pend]; omega
        have hl : m.live.length < 64 := by have := I.len; omega
        have I2 := I.count.put (a, undefs n.toNat) hl h1 (by rw [undefs_len]; omega) (by rw [hp]; exact h2) (fun y hy => by unfold Apart; rw [hp]; exact h3 y hy) h4 (fun e => ⟨(h5 e).1, (h5 e).2.1, by rw [undefs_len]; have := (h5 e).2.2; omega⟩) 1000000 (by
          show used (insAt m.live _ _) ≤ _
          rw [used_ins, undefs_len]
          have h7 := used_bound (m := m) I.fit (by omega)
          have h8 := I.fit.sz
          have h2 : a + n ≤ m.size := h2
          omega) (Int.le_refl _)
        exact I2.note I.peak.2
theorem alloc_ok {m : HM} (I : Inv m) {n al : Int} (h : (allocM m n al).2.2 = 0) : (allocM m n al).2.1 % al = 0 ∧ al ≠ 0 := by
  unfold allocM at h ⊢
  split at h
  · cases h
  · rename_i hc
    rw [if_neg hc]
    split at h
    · cases h
    · rename_i hf
      rw [if_neg hf]
      have hnal : 1 ≤ n ∧ 1 ≤ al := by
        unfold sizeB alignB at hc
        simp at hc
        omega
      split at h
      · cases h
      · rename_i a hr
        exact ⟨(room_spec I.count hnal.1 hnal.2 hr).2.2.2.2.2, by omega⟩
theorem free_inv {m : HM} (I : Inv m) (at_ : Int) : Inv (freeM m at_).1 := by
  unfold freeM
  split
  · exact I
  · rename_i h
    obtain ⟨x, hx, _, e⟩ := at_eq I.fit (by simpa using h)
    rw [e]
    exact I.take _ _ hx
end Go.Proofs.YtdaklffbfadghaaGreat
