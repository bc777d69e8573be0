/- Merge sort of a list, the number of its exchanges, ranks: plain laws. Conditions: as each theorem says. -/
import Derived.KernelRfl
namespace Go.Proofs.Ytfiopjgpokdnoaa.PO
set_option linter.unusedVariables false
variable {α : Type}
def mrg (lt : α → α → Bool) : Nat → List α → List α → List α × Nat
  | 0, _, _ => ([], 0)
  | _ + 1, [], [] => ([], 0)
  | f + 1, [], y :: b => (y :: (mrg lt f [] b).1, (mrg lt f [] b).2)
  | f + 1, x :: a, [] => (x :: (mrg lt f a []).1, (mrg lt f a []).2)
  | f + 1, x :: a, y :: b => if lt y x = true then (y :: (mrg lt f (x :: a) b).1, (mrg lt f (x :: a) b).2 + (a.length + 1)) else (x :: (mrg lt f a (y :: b)).1, (mrg lt f a (y :: b)).2)
def ms (lt : α → α → Bool) : Nat → List α → List α × Nat
  | 0, l => (l, 0)
  | f + 1, l => if l.length < 2 then (l, 0) else
    ((mrg lt l.length (ms lt f (l.take (l.length / 2))).1 (ms lt f (l.drop (l.length / 2))).1).1,
     (ms lt f (l.take (l.length / 2))).2 + (ms lt f (l.drop (l.length / 2))).2 + (mrg lt l.length (ms lt f (l.take (l.length / 2))).1 (ms lt f (l.drop (l.length / 2))).1).2)
theorem mrg_perm (lt : α → α → Bool) : ∀ (f : Nat) (a b : List α), a.length + b.length ≤ f → (mrg lt f a b).1.Perm (a ++ b)
  | 0, [], [], _ => .refl _
  | 0, _ :: _, _, h => by simp at h
  | 0, [], _ :: _, h => by simp at h
  | _ + 1, [], [], _ => .refl _
  | f + 1, [], y :: b, h => (mrg_perm lt f [] b (by simpa using h)).cons y
  | f + 1, x :: a, [], h => (mrg_perm lt f a [] (by simpa using h)).cons x
  | f + 1, x :: a, y :: b, h => by
    rw [mrg]
    split
    · have := (mrg_perm lt f (x :: a) b (by simp at h ⊢; omega)).cons y
      exact this.trans (List.perm_middle (l₁ := x :: a) (l₂ := b) (a := y)).symm
    · exact (mrg_perm lt f a (y :: b) (by simp at h ⊢; omega)).cons x
theorem ms_perm (lt : α → α → Bool) : ∀ (f : Nat) (l : List α), (ms lt f l).1.Perm l
  | 0, l => .refl _
  | f + 1, l => by
    rw [ms]
    split
    · exact .refl _
    · have h1 := ms_perm lt f (l.take (l.length / 2))
      have h2 := ms_perm lt f (l.drop (l.length / 2))
      refine (mrg_perm lt _ _ _ (by rw [h1.length_eq, h2.length_eq, List.length_take, List.length_drop]; omega)).trans ?_
      refine (h1.append h2).trans ?_
      rw [List.take_append_drop]
theorem ms_length (lt : α → α → Bool) (f : Nat) (l : List α) : (ms lt f l).1.length = l.length := (ms_perm lt f l).length_eq
theorem mrg_le (lt : α → α → Bool) : ∀ (f : Nat) (a b : List α), (mrg lt f a b).2 ≤ a.length * b.length
  | 0, _, _ => Nat.zero_le _
  | _ + 1, [], [] => Nat.zero_le _
  | f + 1, [], y :: b => by have := mrg_le lt f [] b; simp at this; simp [mrg, this]
  | f + 1, x :: a, [] => by have := mrg_le lt f a []; simp at this; simp [mrg, this]
  | f + 1, x :: a, y :: b => by
    rw [mrg]
    split
    · have := mrg_le lt f (x :: a) b
      simp only [List.length_cons] at this ⊢
      rw [Nat.mul_succ]
      omega
    · have := mrg_le lt f a (y :: b)
      simp only [List.length_cons] at this ⊢
      rw [Nat.succ_mul]
      omega
theorem ms_le (lt : α → α → Bool) : ∀ (f : Nat) (l : List α), (ms lt f l).2 ≤ l.length * l.length
  | 0, l => Nat.zero_le _
  | f + 1, l => by
    rw [ms]
    split
    · exact Nat.zero_le _
    · have h1 := ms_le lt f (l.take (l.length / 2))
      have h2 := ms_le lt f (l.drop (l.length / 2))
      have h3 := mrg_le lt l.length (ms lt f (l.take (l.length / 2))).1 (ms lt f (l.drop (l.length / 2))).1
      rw [ms_length, ms_length] at h3
      dsimp only
      rw [List.length_take, Nat.min_eq_left (by omega)] at h1 h3
      rw [List.length_drop] at h2 h3
      obtain ⟨k, hk⟩ : ∃ k, l.length = l.length / 2 + k := ⟨l.length - l.length / 2, by omega⟩
      generalize l.length / 2 = h at *
      rw [hk, Nat.add_sub_cancel_left] at h2 h3
      rw [hk, Nat.add_mul, Nat.mul_add, Nat.mul_add, Nat.mul_comm k h]
      omega
/-- a relation R such that an element of the first list stands before one of the second if that is not less -/
theorem mrg_pair (lt : α → α → Bool) (R : α → α → Prop) : ∀ (f : Nat) (a b : List α), a.length + b.length ≤ f → a.Pairwise R → b.Pairwise R →
    (∀ x ∈ a, ∀ y ∈ b, lt y x = true → R y x) → (∀ x ∈ a, ∀ y ∈ b, lt y x = false → R x y) → (∀ x y z, R x y → R y z → R x z) → (mrg lt f a b).1.Pairwise R
  | 0, [], [], _, _, _, _, _, _ => .nil
  | 0, _ :: _, _, h, _, _, _, _, _ => by simp at h
  | 0, [], _ :: _, h, _, _, _, _, _ => by simp at h
  | _ + 1, [], [], _, _, _, _, _, _ => .nil
  | f + 1, [], y :: b, h, ha, hb, h1, h2, ht => by
    have hp := mrg_perm lt f [] b (by simpa using h)
    refine List.pairwise_cons.2 ⟨fun z hz => ?_, mrg_pair lt R f [] b (by simpa using h) .nil (List.pairwise_cons.1 hb).2 (fun x hx => by simp at hx) (fun x hx => by simp at hx) ht⟩
    have := hp.mem_iff.1 hz
    exact (List.pairwise_cons.1 hb).1 z (by simpa using this)
  | f + 1, x :: a, [], h, ha, hb, h1, h2, ht => by
    have hp := mrg_perm lt f a [] (by simpa using h)
    refine List.pairwise_cons.2 ⟨fun z hz => ?_, mrg_pair lt R f a [] (by simpa using h) (List.pairwise_cons.1 ha).2 .nil (fun x _ y hy => by simp at hy) (fun x _ y hy => by simp at hy) ht⟩
    have := hp.mem_iff.1 hz
    exact (List.pairwise_cons.1 ha).1 z (by simpa using this)
  | f + 1, x :: a, y :: b, h, ha, hb, h1, h2, ht => by
    have hA := List.pairwise_cons.1 ha
    have hB := List.pairwise_cons.1 hb
    rw [mrg]
    split
    · rename_i hl
      have hp := mrg_perm lt f (x :: a) b (by simp at h ⊢; omega)
      have hyx := h1 x (by simp) y (by simp) hl
      refine List.pairwise_cons.2 ⟨fun z hz => ?_, mrg_pair lt R f (x :: a) b (by simp at h ⊢; omega) ha hB.2 (fun u hu v hv => h1 u hu v (by simp [hv])) (fun u hu v hv => h2 u hu v (by simp [hv])) ht⟩
      have hz := hp.mem_iff.1 hz
      rcases List.mem_append.1 hz with hz | hz
      · rcases List.mem_cons.1 hz with rfl | hz
        · exact hyx
        · exact ht _ _ _ hyx (hA.1 z hz)
      · exact hB.1 z hz
    · rename_i hl
      have hl : lt y x = false := by simpa using hl
      have hp := mrg_perm lt f a (y :: b) (by simp at h ⊢; omega)
      have hxy := h2 x (by simp) y (by simp) hl
      refine List.pairwise_cons.2 ⟨fun z hz => ?_, mrg_pair lt R f a (y :: b) (by simp at h ⊢; omega) hA.2 hb (fun u hu v hv => h1 u (by simp [hu]) v hv) (fun u hu v hv => h2 u (by simp [hu]) v hv) ht⟩
      have hz := hp.mem_iff.1 hz
      rcases List.mem_append.1 hz with hz | hz
      · exact hA.1 z hz
      · rcases List.mem_cons.1 hz with rfl | hz
        · exact hxy
        · exact ht _ _ _ hxy (hB.1 z hz)
/-- places that stand in ascending order are sorted by their keys, equal ones by their places -/
theorem ms_pair (lt : α → α → Bool) (R lo : α → α → Prop) (ht : ∀ x y z, R x y → R y z → R x z) (h1 : ∀ x y, lt y x = true → R y x) (h2 : ∀ x y, lo x y → lt y x = false → R x y) :
    ∀ (f : Nat) (l : List α), l.length ≤ f → l.Pairwise lo → (ms lt f l).1.Pairwise R
  | 0, [], _, _ => .nil
  | 0, _ :: _, h, _ => by simp at h
  | f + 1, l, h, hp => by
    rw [ms]
    split
    · rename_i hl
      match l, hl with
      | [], _ => exact .nil
      | [x], _ => exact List.pairwise_singleton _ _
      | _ :: _ :: _, hl => simp at hl; omega
    · rename_i hl
      have p1 := ms_perm lt f (l.take (l.length / 2))
      have p2 := ms_perm lt f (l.drop (l.length / 2))
      have hh := hp
      rw [← List.take_append_drop (l.length / 2) l] at hh
      obtain ⟨ha, hb, hab⟩ := List.pairwise_append.1 hh
      refine mrg_pair lt R _ _ _ (by rw [p1.length_eq, p2.length_eq, List.length_take, List.length_drop]; omega)
        (ms_pair lt R lo ht h1 h2 f _ (by rw [List.length_take]; omega) ha) (ms_pair lt R lo ht h1 h2 f _ (by rw [List.length_drop]; omega) hb)
        (fun x _ y _ hl => h1 x y hl) (fun x hx y hy hl => h2 x y (hab x (p1.mem_iff.1 hx) y (p2.mem_iff.1 hy)) hl) ht
/-- in a list that stands in order, an element stands behind as many as come ahead of it -/
theorem rank_of (R : α → α → Prop) [DecidableRel R] (hi : ∀ x, ¬ R x x) (ht : ∀ x y z, R x y → R y z → R x z) (L M : List α) (hp : L.Perm M) (hs : L.Pairwise R) (p : Nat) (hpl : p < L.length) :
    M.countP (fun y => decide (R y L[p])) = p := by
  rw [← hp.countP_eq]
  have e : L = L.take p ++ L[p] :: L.drop (p + 1) := by
    conv => lhs; rw [← List.take_append_drop p L, List.drop_eq_getElem_cons hpl]
  have hs2 := hs
  rw [e] at hs2
  obtain ⟨h1, h2, h3⟩ := List.pairwise_append.1 hs2
  obtain ⟨h4, h5⟩ := List.pairwise_cons.1 h2
  have hx : ∀ z, z = L[p] → (L.take p ++ z :: L.drop (p + 1)).countP (fun y => decide (R y z)) = p := by
    intro z hz
    subst hz
    rw [List.countP_append, List.countP_cons]
    have c1 : (L.take p).countP (fun y => decide (R y L[p])) = p := by
      have : (L.take p).countP (fun y => decide (R y L[p])) = (L.take p).length := List.countP_eq_length.2 (fun y hy => by simpa using h3 y hy L[p] (List.mem_cons_self ..))
      rw [this, List.length_take]
      omega
    have c2 : (L.drop (p + 1)).countP (fun y => decide (R y L[p])) = 0 := List.countP_eq_zero.2 (fun y hy => by
      have := h4 y hy
      simp
      intro hr
      exact hi _ (ht _ _ _ this hr))
    rw [c1, c2]
    simp [hi]
  have := hx L[p] rfl
  rw [← e] at this
  exact this
/-! The number of pairs that stand the wrong way round. -/
def inv (lt : α → α → Bool) : List α → Nat
  | [] => 0
  | x :: l => l.countP (fun y => lt y x) + inv lt l
def cross (lt : α → α → Bool) : List α → List α → Nat
  | [], _ => 0
  | x :: a, b => b.countP (fun y => lt y x) + cross lt a b
theorem inv_append (lt : α → α → Bool) (b : List α) : ∀ a, inv lt (a ++ b) = inv lt a + inv lt b + cross lt a b
  | [] => by simp [inv, cross]
  | x :: a => by
    rw [List.cons_append, inv, inv, cross, inv_append lt b a, List.countP_append]
    omega
theorem cross_right (lt : α → α → Bool) {b b' : List α} (h : b.Perm b') : ∀ a, cross lt a b = cross lt a b'
  | [] => rfl
  | x :: a => by rw [cross, cross, cross_right lt h a, h.countP_eq]
theorem cross_left (lt : α → α → Bool) (b : List α) {a a' : List α} (h : a.Perm a') : cross lt a b = cross lt a' b := by
  induction h with
  | nil => rfl
  | cons x _ ih => rw [cross, cross, ih]
  | swap x y l => simp only [cross]; omega
  | trans _ _ ih1 ih2 => rw [ih1, ih2]
theorem cross_nil (lt : α → α → Bool) : ∀ a : List α, cross lt a [] = 0
  | [] => rfl
  | x :: a => by rw [cross, cross_nil lt a]; simp
theorem cross_cons (lt : α → α → Bool) (y : α) (b : List α) : ∀ a, cross lt a (y :: b) = a.countP (fun x => lt y x) + cross lt a b
  | [] => by simp [cross]
  | x :: a => by
    rw [cross, cross, cross_cons lt y b a, List.countP_cons, List.countP_cons]
    omega
structure Ord (lt : α → α → Bool) : Prop where
  irr : ∀ x, lt x x = false
  tr : ∀ x y z, lt x y = true → lt y z = true → lt x z = true
  tot : ∀ x y, lt x y = false → lt y x = false → x = y
theorem Ord.le_tr {lt : α → α → Bool} (h : Ord lt) {x y z : α} (h1 : lt y x = false) (h2 : lt z y = false) : lt z x = false := by
  cases hz : lt z x with
  | false => rfl
  | true =>
    cases hx : lt x y with
    | true => have := h.tr z x y hz hx; rw [this] at h2; cases h2
    | false => have := h.tot x y hx h1; subst this; rw [hz] at h2; cases h2
theorem mrg_count {lt : α → α → Bool} (ho : Ord lt) : ∀ (f : Nat) (a b : List α), a.length + b.length ≤ f → a.Pairwise (fun x y => lt y x = false) → b.Pairwise (fun x y => lt y x = false) → (mrg lt f a b).2 = cross lt a b
  | 0, [], [], _, _, _ => rfl
  | 0, _ :: _, _, h, _, _ => by simp at h
  | 0, [], _ :: _, h, _, _ => by simp at h
  | _ + 1, [], [], _, _, _ => rfl
  | f + 1, [], y :: b, h, ha, hb => by
    rw [mrg, mrg_count ho f [] b (by simpa using h) .nil (List.pairwise_cons.1 hb).2]
    rfl
  | f + 1, x :: a, [], h, ha, hb => by
    rw [mrg, mrg_count ho f a [] (by simpa using h) (List.pairwise_cons.1 ha).2 .nil]
    simp [cross_nil]
  | f + 1, x :: a, y :: b, h, ha, hb => by
    have hA := List.pairwise_cons.1 ha
    have hB := List.pairwise_cons.1 hb
    rw [mrg]
    split
    · rename_i hl
      rw [mrg_count ho f (x :: a) b (by simp at h ⊢; omega) ha hB.2, cross_cons]
      have : (x :: a).countP (fun u => lt y u) = (x :: a).length := List.countP_eq_length.2 (fun u hu => by
        rcases List.mem_cons.1 hu with rfl | hu
        · exact hl
        · have h1 := hA.1 u hu
          cases hyu : lt y u with
          | true => rfl
          | false =>
            have := ho.le_tr (x := x) (y := u) (z := y) h1 hyu
            rw [hl] at this
            cases this)
      rw [this]
      simp
      omega
    · rename_i hl
      have hl : lt y x = false := by simpa using hl
      rw [mrg_count ho f a (y :: b) (by simp at h ⊢; omega) hA.2 hb, cross]
      have : (y :: b).countP (fun u => lt u x) = 0 := List.countP_eq_zero.2 (fun u hu => by
        rcases List.mem_cons.1 hu with rfl | hu
        · simp [hl]
        · have h1 := hB.1 u hu
          have := ho.le_tr (x := x) (y := y) (z := u) hl h1
          simp [this])
      rw [this, Nat.zero_add]
theorem ms_sorted {lt : α → α → Bool} (ho : Ord lt) (f : Nat) (l : List α) (h : l.length ≤ f) : (ms lt f l).1.Pairwise (fun x y => lt y x = false) :=
  ms_pair lt (fun x y => lt y x = false) (fun _ _ => True) (fun x y z h1 h2 => ho.le_tr h1 h2) (fun x y hl => by
    cases hx : lt x y with
    | false => rfl
    | true => have := ho.tr _ _ _ hl hx; rw [ho.irr] at this; cases this) (fun x y _ hl => hl) f l h (List.pairwise_of_forall_mem_list (fun _ _ _ _ => trivial))
theorem ms_count {lt : α → α → Bool} (ho : Ord lt) : ∀ (f : Nat) (l : List α), l.length ≤ f → (ms lt f l).2 = inv lt l
  | 0, [], _ => rfl
  | 0, _ :: _, h => by simp at h
  | f + 1, l, h => by
    rw [ms]
    split
    · rename_i hl
      match l, hl with
      | [], _ => rfl
      | [x], _ => simp [inv]
      | _ :: _ :: _, hl => simp at hl; omega
    · rename_i hl
      have p1 := ms_perm lt f (l.take (l.length / 2))
      have p2 := ms_perm lt f (l.drop (l.length / 2))
      have h1 : (l.take (l.length / 2)).length ≤ f := by rw [List.length_take]; omega
      have h2 : (l.drop (l.length / 2)).length ≤ f := by rw [List.length_drop]; omega
      dsimp only
      rw [mrg_count ho _ _ _ (by rw [p1.length_eq, p2.length_eq, List.length_take, List.length_drop]; omega) (ms_sorted ho f _ h1) (ms_sorted ho f _ h2), ms_count ho f _ h1, ms_count ho f _ h2,
        cross_left lt _ p1, cross_right lt p2]
      conv => rhs; rw [← List.take_append_drop (l.length / 2) l]
      rw [inv_append]
theorem inv_zero (lt : α → α → Bool) : ∀ l, inv lt l = 0 ↔ l.Pairwise (fun x y => lt y x = false)
  | [] => by simp [inv]
  | x :: l => by
    rw [inv, List.pairwise_cons, ← inv_zero lt l, Nat.add_eq_zero_iff, List.countP_eq_zero]
    simp
/-- lists in order that have the same elements are the same -/
theorem sorted_eq {R : α → α → Prop} (hanti : ∀ x y, R x y → R y x → x = y) : ∀ (a b : List α), a.Perm b → a.Pairwise R → b.Pairwise R → a = b
  | [], b, h, _, _ => (List.Perm.nil_eq h)
  | x :: a, [], h, _, _ => by have := h.length_eq; simp at this
  | x :: a, y :: b, h, ha, hb => by
    have hA := List.pairwise_cons.1 ha
    have hB := List.pairwise_cons.1 hb
    have e : x = y := by
      have hx : x ∈ y :: b := h.mem_iff.1 (by simp)
      have hy : y ∈ x :: a := h.mem_iff.2 (by simp)
      rcases List.mem_cons.1 hx with e | hx
      · exact e
      · rcases List.mem_cons.1 hy with e | hy
        · exact e.symm
        · exact hanti _ _ (hA.1 y hy) (hB.1 x hx)
    subst e
    rw [sorted_eq hanti a b (List.Perm.cons_inv h) hA.2 hB.2]
/-- sorting goes along with a map -/
theorem mrg_map {β : Type} (g : β → α) (lt : α → α → Bool) : ∀ (f : Nat) (a b : List β), mrg lt f (a.map g) (b.map g) = ((mrg (fun x y => lt (g x) (g y)) f a b).1.map g, (mrg (fun x y => lt (g x) (g y)) f a b).2)
  | 0, _, _ => rfl
  | _ + 1, [], [] => rfl
  | f + 1, [], y :: b => by
    have := mrg_map g lt f [] b
    simp only [List.map_nil] at this
    simp only [List.map_nil, List.map_cons, mrg, this]
  | f + 1, x :: a, [] => by
    have := mrg_map g lt f a []
    simp only [List.map_nil] at this
    simp only [List.map_nil, List.map_cons, mrg, this]
  | f + 1, x :: a, y :: b => by
    have h1 := mrg_map g lt f (x :: a) b
    have h2 := mrg_map g lt f a (y :: b)
    simp only [List.map_cons] at h1 h2
    simp only [List.map_cons, mrg, h1, h2, List.length_map]
    split <;> simp
theorem ms_map {β : Type} (g : β → α) (lt : α → α → Bool) : ∀ (f : Nat) (l : List β), ms lt f (l.map g) = ((ms (fun x y => lt (g x) (g y)) f l).1.map g, (ms (fun x y => lt (g x) (g y)) f l).2)
  | 0, _ => rfl
  | f + 1, l => by
    rw [ms, ms, List.length_map]
    split
    · rfl
    · rw [← List.map_take, ← List.map_drop, ms_map g lt f, ms_map g lt f, mrg_map]
end Go.Proofs.Ytfiopjgpokdnoaa.PO
