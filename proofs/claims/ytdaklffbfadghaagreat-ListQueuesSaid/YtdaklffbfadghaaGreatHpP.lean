/- A heap in plain Lean: its live blocks in ascending order, and what is looked up among them. No program. Conditions: as each theorem says. -/
import Derived.ProofKit
namespace Go.Proofs.YtdaklffbfadghaaGreat.HP
set_option linter.unusedVariables false
/-- a live block: where it begins, and its bytes (-1: not defined) -/
abbrev PB := Int × List Int
def pend (x : PB) : Int := x.1 + (x.2.length : Int)
/-- no byte from 'a' up to below 'b' is in a live block but one -/
def clash (a b but : Int) (x : PB) : Bool := decide (x.1 ≠ but) && (decide (x.1 < b) && decide (a < pend x))
def freeB (size : Int) (l : List PB) (a b but : Int) : Bool := !decide (size < b) && !(l.any (clash a b but))
def used : List PB → Int
  | [] => 0
  | x :: r => (x.2.length : Int) + used r
theorem used_append : ∀ (a b : List PB), used (a ++ b) = used a + used b
  | [], b => by simp [used]
  | x :: a, b => by simp [used, used_append a b]; omega
theorem used_nonneg : ∀ l : List PB, 0 ≤ used l
  | [] => by simp [used]
  | x :: r => by have := used_nonneg r; simp only [used]; omega
theorem used_le : ∀ (l : List PB) (M : Int), (∀ x ∈ l, (x.2.length : Int) ≤ M) → used l ≤ l.length * M
  | [], M, _ => by simp [used]
  | x :: r, M, h => by
    have h1 := h x (by simp)
    have h2 := used_le r M (fun y hy => h y (by simp [hy]))
    simp only [used, List.length_cons]
    have : ((r.length + 1 : Nat) : Int) * M = r.length * M + M := by push_cast; rw [Int.add_mul]; omega
    omega
theorem used_take_succ (l : List PB) (k : Nat) (x : PB) (h : l[k]? = some x) : used (l.take (k + 1)) = used (l.take k) + (x.2.length : Int) := by
  rw [List.take_add_one, h, used_append]
  simp [used]
theorem used_take_le (l : List PB) (k : Nat) : used (l.take k) ≤ used l := by
  have := used_append (l.take k) (l.drop k)
  rw [List.take_append_drop] at this
  have := used_nonneg (l.drop k)
  omega
/-- in ascending order, none over another one -/
def sorted (l : List PB) : Prop := l.Pairwise fun x y => pend x ≤ y.1
/-- how many begin below a place -/
def below (l : List PB) (at_ : Int) : Nat := l.countP fun x => decide (x.1 < at_)
def has (l : List PB) (at_ : Int) : Bool := l.any fun x => x.1 == at_
/-- every block is of the heap -/
structure Fit (size : Int) (l : List PB) : Prop where
  sz : 1 ≤ size ∧ size ≤ 4096
  inn : ∀ x ∈ l, 0 ≤ x.1 ∧ 1 ≤ x.2.length ∧ pend x ≤ size
  ord : sorted l
theorem Fit.nil {size : Int} (h : 1 ≤ size ∧ size ≤ 4096) : Fit size [] := ⟨h, (fun x hx => by cases hx), List.Pairwise.nil⟩
theorem Fit.lt {size : Int} {l : List PB} (h : Fit size l) {i j : Nat} {x y : PB} (hx : l[i]? = some x) (hy : l[j]? = some y) (hij : i < j) : x.1 < y.1 ∧ pend x ≤ y.1 := by
  obtain ⟨hi, rfl⟩ := List.getElem?_eq_some_iff.1 hx
  obtain ⟨hj, rfl⟩ := List.getElem?_eq_some_iff.1 hy
  have h1 := (List.pairwise_iff_getElem.1 h.ord) i j hi hj hij
  have h2 := h.inn l[i] (List.getElem_mem hi)
  refine ⟨?_, h1⟩
  unfold pend at h1
  omega
/-- where the blocks that begin below a place end -/
theorem below_eq {size : Int} {l : List PB} (h : Fit size l) (at_ : Int) (k : Nat) (hk : k ≤ l.length) (h1 : ∀ j x, j < k → l[j]? = some x → x.1 < at_) (h2 : ∀ j x, k ≤ j → l[j]? = some x → at_ ≤ x.1) : below l at_ = k := by
  have e : l = l.take k ++ l.drop k := (List.take_append_drop k l).symm
  unfold below
  rw [e, List.countP_append]
  have a1 : (l.take k).countP (fun x => decide (x.1 < at_)) = (l.take k).length := by
    rw [List.countP_eq_length]
    intro x hx
    obtain ⟨j, hj, rfl⟩ := List.getElem_of_mem hx
    have hj' := hj
    rw [List.length_take] at hj
    simpa using h1 j l[j] (by omega) (List.getElem?_eq_getElem (by omega))
  have a2 : (l.drop k).countP (fun x => decide (x.1 < at_)) = 0 := by
    rw [List.countP_eq_zero]
    intro x hx
    obtain ⟨j, hj, rfl⟩ := List.getElem_of_mem hx
    rw [List.length_drop] at hj
    have := h2 (k + j) l[k + j] (by omega) (List.getElem?_eq_getElem (by omega))
    simp
    omega
  rw [a1, a2, List.length_take]
  omega
theorem below_le (l : List PB) (at_ : Int) : below l at_ ≤ l.length := List.countP_le_length
theorem Fit.tail {size : Int} {x : PB} {l : List PB} (h : Fit size (x :: l)) : Fit size l := ⟨h.sz, fun y hy => h.inn y (by simp [hy]), (List.pairwise_cons.1 h.ord).2⟩
theorem below_spec {size : Int} : ∀ {l : List PB} (h : Fit size l) (at_ : Int), (∀ (j : Nat) (x : PB), j < below l at_ → l[j]? = some x → x.1 < at_) ∧ (∀ (j : Nat) (x : PB), below l at_ ≤ j → l[j]? = some x → at_ ≤ x.1)
  | [], _, _ => ⟨fun j x _ h => by simp at h, fun j x _ h => by simp at h⟩
  | y :: r, h, at_ => by
    obtain ⟨i1, i2⟩ := below_spec h.tail at_
    by_cases hy : y.1 < at_
    · have e : below (y :: r) at_ = below r at_ + 1 := by unfold below; rw [List.countP_cons]; simp [hy]
      rw [e]
      refine ⟨fun j x hj hx => ?_, fun j x hj hx => ?_⟩
      · cases j with
        | zero => simp at hx; subst hx; exact hy
        | succ j => exact i1 j x (by omega) (by simpa using hx)
      · cases j with
        | zero => omega
        | succ j => exact i2 j x (by omega) (by simpa using hx)
    · have hall : ∀ x ∈ r, at_ ≤ x.1 := fun x hx => by
        have h1 := (List.pairwise_cons.1 h.ord).1 x hx
        have h2 := h.inn y (by simp)
        unfold pend at h1
        omega
      have e : below (y :: r) at_ = 0 := by
        unfold below
        rw [List.countP_eq_zero]
        intro x hx
        rcases List.mem_cons.1 hx with rfl | hx
        · simpa using hy
        · have := hall x hx
          simp
          omega
      rw [e]
      refine ⟨fun j x hj => by omega, fun j x _ hx => ?_⟩
      cases j with
      | zero => simp at hx; subst hx; omega
      | succ j => exact hall x (List.mem_of_getElem? (by simpa using hx))
theorem has_iff {size : Int} {l : List PB} (h : Fit size l) (at_ : Int) : has l at_ = true ↔ ∃ x, l[below l at_]? = some x ∧ x.1 = at_ := by
  obtain ⟨h1, h2⟩ := below_spec h at_
  unfold has
  rw [List.any_eq_true]
  constructor
  · rintro ⟨x, hx, he⟩
    have he : x.1 = at_ := by simpa using he
    obtain ⟨j, hj, rfl⟩ := List.getElem_of_mem hx
    have hge : below l at_ ≤ j := by
      rcases Nat.lt_or_ge j (below l at_) with h3 | h3
      · have := h1 j _ h3 (List.getElem?_eq_getElem hj)
        omega
      · exact h3
    rcases Nat.lt_or_eq_of_le hge with h3 | h3
    · have hb : below l at_ < l.length := by omega
      have h4 := h2 (below l at_) l[below l at_] (Nat.le_refl _) (List.getElem?_eq_getElem hb)
      have h5 := (h.lt (List.getElem?_eq_getElem hb) (List.getElem?_eq_getElem hj) h3).1
      omega
    · exact ⟨_, by rw [h3]; exact List.getElem?_eq_getElem hj, he⟩
  · rintro ⟨x, hx, he⟩
    exact ⟨x, List.mem_of_getElem? hx, by simpa using he⟩
end Go.Proofs.YtdaklffbfadghaaGreat.HP
