/- Resize in plain Lean; a live block's bytes exchanged. Conditions: as each theorem says. -/
import Derived.Test.YtdaklffbfadghaaGreatHqP
namespace Go.Proofs.YtdaklffbfadghaaGreat
open Go.RowKit HP
set_option linter.unusedVariables false
theorem shape_fit {size : Int} {l l' : List PB} (h : Fit size l) (e : l'.map shape = l.map shape) : Fit size l' := by
  refine ⟨h.sz, fun x hx => ?_, ?_⟩
  · have : shape x ∈ l.map shape := by rw [← e]; exact List.mem_map_of_mem hx
    obtain ⟨y, hy, e2⟩ := List.mem_map.1 this
    have h1 := h.inn y hy
    unfold shape at e2
    injection e2 with e3 e4
    unfold pend at h1 ⊢
    omega
  · have h1 : (l.map shape).Pairwise fun a b => a.1 + a.2 ≤ b.1 := List.pairwise_map.2 h.ord
    rw [← e] at h1
    exact List.pairwise_map.1 h1
theorem shape_used : ∀ {l l' : List PB}, l'.map shape = l.map shape → used l' = used l
  | [], [], _ => rfl
  | [], _ :: _, h => by simp at h
  | _ :: _, [], h => by simp at h
  | x :: l, y :: l', h => by
    simp only [List.map_cons, List.cons.injEq] at h
    simp only [used]
    rw [shape_used h.2]
    have := h.1
    unfold shape at this
    injection this with _ e
    omega
theorem Inv.shape {m : HM} (I : Inv m) {l' : List PB} (e : l'.map shape = m.live.map shape) : Inv { m with live := l' } := by
  have hx : ∀ x ∈ l', ∃ y ∈ m.live, x.1 = y.1 ∧ x.2.length = y.2.length := fun x hx => by
    have : Go.Proofs.YtdaklffbfadghaaGreat.shape x ∈ m.live.map Go.Proofs.YtdaklffbfadghaaGreat.shape := by rw [← e]; exact List.mem_map_of_mem hx
    obtain ⟨y, hy, e2⟩ := List.mem_map.1 this
    unfold Go.Proofs.YtdaklffbfadghaaGreat.shape at e2
    injection e2 with e3 e4
    exact ⟨y, hy, e3.symm, by omega⟩
  refine ⟨I.kind, shape_fit I.fit e, ?_, I.top, fun hk x hm => ?_, I.piece, fun hk x hm => ?_, ⟨?_, I.peak.2⟩, I.failIn, I.calls⟩
  · show l'.length ≤ 64
    have := congrArg List.length e
    rw [List.length_map, List.length_map] at this
    rw [this]
    exact I.len
  · obtain ⟨y, hy, e1, e2⟩ := hx x hm
    have := I.bump hk y hy
    show pend x ≤ m.top
    unfold pend at this ⊢
    omega
  · obtain ⟨y, hy, e1, e2⟩ := hx x hm
    have := I.pool hk y hy
    show x.1 % m.piece = 0 ∧ x.1 + m.piece ≤ m.size ∧ (x.2.length : Int) ≤ m.piece
    rw [e1, e2]
    exact this
  · show used l' ≤ m.peak
    rw [shape_used e]
    exact I.peak.1
theorem store_inv {m : HM} (I : Inv m) (at_ b : Int) : Inv (storeM m at_ b).1 := by
  unfold storeM
  split
  · split
    · exact I
    · split
      · exact I
      · rename_i k _ x hx
        refine I.shape ?_
        rw [List.map_set]
        refine List.ext_getElem? fun i => ?_
        rw [List.getElem?_set]
        split
        · rename_i e
          subst e
          rw [List.getElem?_map, hx]
          have := (List.getElem?_eq_some_iff.1 hx).1
          simp [this, shape, putB]
        · rfl
  · exact I
end Go.Proofs.YtdaklffbfadghaaGreat
