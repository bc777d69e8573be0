/- Which objects are needed, in plain Lean. Conditions: as each theorem says. -/
import Derived.Test.YtjdioilkhbpmoaaLinkDa
namespace Go.Proofs.Ytjdioilkhbpmoaa
open Go.RowKit LK
set_option linter.unusedVariables false
abbrev Tab := List (ByteArray × Int × Int)
/-- the names that object j wants -/
def wantsAt (os : List OV) (j : Nat) : List ByteArray := match os[j]? with | some o => o.2.2.xs.map (·.2.2) | none => []
def objAt (T : Tab) (nm : ByteArray) : Option Nat := (lookS T nm).map fun p => p.1.toNat
inductive Reach (os : List OV) (T : Tab) (rs : List ByteArray) : Nat → Prop
  | root {nm : ByteArray} {k : Nat} : nm ∈ rs → objAt T nm = some k → Reach os T rs k
  | want {j : Nat} {nm : ByteArray} {k : Nat} : Reach os T rs j → nm ∈ wantsAt os j → objAt T nm = some k → Reach os T rs k
/-- numbers that stand for false -/
def dropL (N : List Bool) : List Int := ((List.range N.length).filter fun j => N[j]? == some false).map Int.ofNat
def dropTo (N : List Bool) (k : Nat) : List Int := ((List.range k).filter fun j => N[j]? == some false).map Int.ofNat
theorem dropTo_succ (N : List Bool) (k : Nat) (b : Bool) (h : N[k]? = some b) : dropTo N (k + 1) = if b then dropTo N k else dropTo N k ++ [(k : Int)] := by
  unfold dropTo
  rw [List.range_succ, List.filter_append, List.map_append]
  simp only [List.filter_cons, List.filter_nil, h]
  cases b <;> simp
theorem dropTo_len (N : List Bool) (k : Nat) : (dropTo N k).length ≤ k := by
  unfold dropTo
  rw [List.length_map]
  exact Nat.le_trans (List.length_filter_le _ _) (by simp)
/-- a list of marks that marks just the reachable ones -/
def Marks (os : List OV) (T : Tab) (rs : List ByteArray) (N : List Bool) : Prop := N.length = os.length ∧ ∀ k, N[k]? = some true ↔ Reach os T rs k
theorem Marks.eq {os : List OV} {T : Tab} {rs : List ByteArray} {N M : List Bool} (h : Marks os T rs N) (k : Marks os T rs M) : N = M := by
  apply List.ext_getElem?
  intro i
  by_cases hi : i < os.length
  · have a1 := List.getElem?_eq_getElem (l := N) (i := i) (by rw [h.1]; exact hi)
    have a2 := List.getElem?_eq_getElem (l := M) (i := i) (by rw [k.1]; exact hi)
    have h1 := h.2 i
    have k1 := k.2 i
    rw [a1] at h1 ⊢
    rw [a2] at k1 ⊢
    have h2 := h1.trans k1.symm
    cases e1 : N[i]'(by rw [h.1]; exact hi) <;> cases e2 : M[i]'(by rw [k.1]; exact hi) <;> simp_all
  · rw [List.getElem?_eq_none (by rw [h.1]; omega), List.getElem?_eq_none (by rw [k.1]; omega)]
theorem lookS_mem {T : Tab} {nm : ByteArray} {p : Int × Int} (h : lookS T nm = some p) : ∃ x, (x, p) ∈ T := by
  unfold lookS at h
  obtain ⟨y, hy, rfl⟩ := Option.map_eq_some_iff.1 h
  exact ⟨y.1, List.mem_of_find?_eq_some hy⟩
theorem tabF_range : ∀ (os : List OV) (k0 a0 : Nat) (x : ByteArray) (p : Int × Int), (x, p) ∈ tabF k0 a0 os → (k0 : Int) ≤ p.1 ∧ p.1 < (k0 : Int) + (os.length : Int)
  | [], _, _, _, _, h => by cases h
  | o :: r, k0, a0, x, p, h => by
    rw [tabF, List.mem_append] at h
    rcases h with h | h
    · obtain ⟨y, _, e⟩ := List.mem_map.1 h
      cases e
      simp
      omega
    · have := tabF_range r (k0 + 1) _ x p h
      rw [List.length_cons]
      omega
theorem look_range {os : List OV} {nm : ByteArray} {p q : Int} (h : lookS (tabF 0 0 os) nm = some (p, q)) : 0 ≤ p ∧ p < (os.length : Int) := by
  obtain ⟨x, hx⟩ := lookS_mem h
  have := tabF_range os 0 0 x _ hx
  simpa using this
/-- the state behind one name -/
def nextN (T : Tab) (N : List Bool) (nm : ByteArray) : List Bool := match objAt T nm with | some k => N.set k true | none => N
def nextR (T : Tab) (N : List Bool) (rest : List Int) (nm : ByteArray) : List Int := match objAt T nm with | some k => if N[k]? = some true then rest else rest ++ [(k : Int)] | none => rest
theorem nextN_len (T : Tab) (N : List Bool) (nm : ByteArray) : (nextN T N nm).length = N.length := by
  unfold nextN
  split <;> simp
theorem nextN_mono {T : Tab} {N : List Bool} {nm : ByteArray} {k : Nat} (h : N[k]? = some true) : (nextN T N nm)[k]? = some true := by
  unfold nextN
  split
  · rename_i j _
    rw [List.getElem?_set]
    have := (List.getElem?_eq_some_iff.1 h).1
    split <;> simp_all
  · exact h
theorem nextN_hit {T : Tab} {N : List Bool} {nm : ByteArray} {k : Nat} (h : objAt T nm = some k) (hk : k < N.length) : (nextN T N nm)[k]? = some true := by
  unfold nextN
  rw [h]
  simp [List.getElem?_set, hk]
theorem nextN_inv {T : Tab} {N : List Bool} {nm : ByteArray} {k : Nat} (h : (nextN T N nm)[k]? = some true) : N[k]? = some true ∨ objAt T nm = some k := by
  unfold nextN at h
  split at h
  · rename_i j hj
    by_cases e : j = k
    · subst e; exact .inr hj
    · rw [List.getElem?_set_ne e] at h
      exact .inl h
  · exact .inl h
theorem set_true_same {N : List Bool} {k : Nat} (h : N[k]? = some true) : N.set k true = N := by
  obtain ⟨hk, e⟩ := List.getElem?_eq_some_iff.1 h
  rw [← e]
  exact List.set_getElem_self hk
theorem count_set {N : List Bool} {k : Nat} (h : N[k]? = some false) : (N.set k true).count false + 1 = N.count false := by
  induction N generalizing k with
  | nil => simp at h
  | cons b r ih =>
    rcases k with _ | k
    · simp at h
      subst h
      simp
    · rw [List.set_cons_succ, List.count_cons, List.count_cons]
      have := ih (k := k) (by simpa using h)
      omega
/-- the list of marks beside the numbers that wait -/
theorem next_count {T : Tab} {N : List Bool} {rest : List Int} {nm : ByteArray} (hr : ∀ k, objAt T nm = some k → k < N.length) : (nextR T N rest nm).length + (nextN T N nm).count false = rest.length + N.count false := by
  unfold nextR nextN
  split
  · rename_i k hk
    split
    · rename_i h
      rw [set_true_same h]
    · rename_i h
      have hlt := hr k hk
      have hf : N[k]? = some false := by
        rw [List.getElem?_eq_getElem hlt] at h ⊢
        cases e : N[k] <;> simp_all
      have := count_set hf
      simp only [List.length_append, List.length_singleton]
      omega
  · rfl
/-- every name of the list is done -/
def Done (T : Tab) (N : List Bool) (names : List ByteArray) : Prop := ∀ nm ∈ names, ∀ k, objAt T nm = some k → N[k]? = some true
theorem Done.next {T : Tab} {N : List Bool} {names : List ByteArray} (h : Done T N names) (nm : ByteArray) : Done T (nextN T N nm) names := fun x hx k hk => nextN_mono (h x hx k hk)
theorem Done.snoc {T : Tab} {N : List Bool} {names : List ByteArray} {nm : ByteArray} (h : Done T N names) (hr : ∀ k, objAt T nm = some k → k < N.length) : Done T (nextN T N nm) (names ++ [nm]) := by
  intro x hx k hk
  rcases List.mem_append.1 hx with hx | hx
  · exact nextN_mono (h x hx k hk)
  · simp at hx
    subst hx
    exact nextN_hit hk (hr k hk)
/-- marks that are closed -/
theorem marks_of {os : List OV} {T : Tab} {rs : List ByteArray} {N : List Bool} (hl : N.length = os.length) (hs : ∀ k, N[k]? = some true → Reach os T rs k) (hr : Done T N rs) (hc : ∀ j, N[j]? = some true → Done T N (wantsAt os j)) : Marks os T rs N := by
  refine ⟨hl, fun k => ⟨hs k, fun h => ?_⟩⟩
  induction h with
  | root h1 h2 => exact hr _ h1 _ h2
  | want _ h2 h3 ih => exact hc _ ih _ h2 _ h3
end Go.Proofs.Ytjdioilkhbpmoaa
