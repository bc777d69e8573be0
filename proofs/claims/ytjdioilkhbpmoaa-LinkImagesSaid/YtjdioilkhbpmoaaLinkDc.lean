/- What holds while Drop's queue is worked off. Conditions: as each theorem says. -/
import Derived.Test.YtjdioilkhbpmoaaLinkDb
namespace Go.Proofs.Ytjdioilkhbpmoaa
open Go.RowKit LK
set_option linter.unusedVariables false
structure PI (os : List OV) (T : Tab) (rs : List ByteArray) (N : List Bool) (rest : List Int) (ko : Option Nat) : Prop where
  len : N.length = os.length
  cnt : rest.length + N.count false ≤ os.length
  sound : ∀ k, N[k]? = some true → Reach os T rs k
  mem : ∀ x ∈ rest, ∃ j : Nat, x = (j : Int) ∧ N[j]? = some true
  cov : ∀ j : Nat, N[j]? = some true → (j : Int) ∈ rest ∨ Done T N (wantsAt os j) ∨ some j = ko
theorem PI.start (os : List OV) (T : Tab) (rs : List ByteArray) : PI os T rs (List.replicate os.length false) [] none := by
  have hno : ∀ k, (List.replicate os.length false)[k]? = some true → False := fun k h => by
    have := List.mem_of_getElem? h
    simp at this
  exact ⟨by simp, by simp, fun k h => (hno k h).elim, fun x h => (by cases h), fun j h => (hno j h).elim⟩
theorem PI.next {os : List OV} {T : Tab} {rs : List ByteArray} {N : List Bool} {rest : List Int} {ko : Option Nat} (h : PI os T rs N rest ko) {nm : ByteArray} (hr : ∀ k, objAt T nm = some k → k < os.length) (hs : ∀ k, objAt T nm = some k → Reach os T rs k) : PI os T rs (nextN T N nm) (nextR T N rest nm) ko := by
  refine ⟨by rw [nextN_len]; exact h.len, ?_, ?_, ?_, ?_⟩
  · rw [next_count (fun k hk => by rw [h.len]; exact hr k hk)]
    exact h.cnt
  · intro k hk
    rcases nextN_inv hk with h1 | h1
    · exact h.sound k h1
    · exact hs k h1
  · intro x hx
    unfold nextR at hx
    split at hx
    · rename_i k hk
      split at hx
      · obtain ⟨j, e, hj⟩ := h.mem x hx
        exact ⟨j, e, nextN_mono hj⟩
      · rcases List.mem_append.1 hx with hx | hx
        · obtain ⟨j, e, hj⟩ := h.mem x hx
          exact ⟨j, e, nextN_mono hj⟩
        · simp at hx
          exact ⟨k, hx, nextN_hit hk (by rw [h.len]; exact hr k hk)⟩
    · obtain ⟨j, e, hj⟩ := h.mem x hx
      exact ⟨j, e, nextN_mono hj⟩
  · intro j hj
    have keep : N[j]? = some true → (j : Int) ∈ nextR T N rest nm ∨ Done T (nextN T N nm) (wantsAt os j) ∨ some j = ko := fun hj => by
      rcases h.cov j hj with h1 | h1 | h1
      · left
        unfold nextR
        split
        · split
          · exact h1
          · exact List.mem_append_left _ h1
        · exact h1
      · exact .inr (.inl (h1.next nm))
      · exact .inr (.inr h1)
    by_cases hN : N[j]? = some true
    · exact keep hN
    · rcases nextN_inv hj with h1 | h1
      · exact keep h1
      · left
        unfold nextR
        rw [h1]
        dsimp only
        rw [if_neg hN]
        simp
theorem PI.pop {os : List OV} {T : Tab} {rs : List ByteArray} {N : List Bool} {x : Int} {rest : List Int} (h : PI os T rs N (x :: rest) none) : ∃ j : Nat, x = (j : Int) ∧ j < os.length ∧ Reach os T rs j ∧ PI os T rs N rest (some j) := by
  obtain ⟨j, rfl, hj⟩ := h.mem x (by simp)
  have hlt : j < os.length := by have := (List.getElem?_eq_some_iff.1 hj).1; have := h.len; omega
  have hc := h.cnt
  rw [List.length_cons] at hc
  refine ⟨j, rfl, hlt, h.sound j hj, h.len, by omega, h.sound, fun y hy => h.mem y (by simp [hy]), fun i hi => ?_⟩
  rcases h.cov i hi with h1 | h1 | h1
  · rcases List.mem_cons.1 h1 with h1 | h1
    · right; right
      have : i = j := by omega
      rw [this]
    · exact .inl h1
  · exact .inr (.inl h1)
  · cases h1
theorem PI.close {os : List OV} {T : Tab} {rs : List ByteArray} {N : List Bool} {rest : List Int} {j : Nat} (h : PI os T rs N rest (some j)) (hd : Done T N (wantsAt os j)) : PI os T rs N rest none := by
  refine ⟨h.len, h.cnt, h.sound, h.mem, fun i hi => ?_⟩
  rcases h.cov i hi with h1 | h1 | h1
  · exact .inl h1
  · exact .inr (.inl h1)
  · cases h1
    exact .inr (.inl hd)
theorem PI.marks {os : List OV} {T : Tab} {rs : List ByteArray} {N : List Bool} (h : PI os T rs N [] none) (hd : Done T N rs) : Marks os T rs N := by
  refine marks_of h.len h.sound hd fun j hj => ?_
  rcases h.cov j hj with h1 | h1 | h1
  · cases h1
  · exact h1
  · cases h1
def DropPost (w : World) (os : List OV) (rs : List ByteArray) (e : Ending) (w' : World) : Prop :=
  Q w w' ∧ ((listedO os ≠ 0 ∧ e = .returned (.tuple #[.slice none 0 0, .int .i64 (listedO os : Nat)])) ∨
    (listedO os = 0 ∧ (∃ r ∈ rs, objAt (tabF 0 0 os) r = none) ∧ e = .returned (.tuple #[.slice none 0 0, .int .i64 4])) ∨
    (listedO os = 0 ∧ (∀ r ∈ rs, objAt (tabF 0 0 os) r ≠ none) ∧ ∃ N v, Marks os (tabF 0 0 os) rs N ∧ e = .returned (.tuple #[v, .int .i64 0]) ∧ w'.ownsRow w.heap.size 3 1 v (dropL N).length ((dropL N).map (Value.int .i64))))
theorem objAt_range {os : List OV} {nm : ByteArray} {k : Nat} (h : objAt (tabF 0 0 os) nm = some k) : k < os.length := by
  unfold objAt at h
  obtain ⟨⟨p, q⟩, hp, e⟩ := Option.map_eq_some_iff.1 h
  have := look_range hp
  dsimp only at e
  omega
theorem objAt_none {T : Tab} {nm : ByteArray} : objAt T nm = none ↔ lookS T nm = none := by
  unfold objAt
  exact Option.map_eq_none_iff
end Go.Proofs.Ytjdioilkhbpmoaa
