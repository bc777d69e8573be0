/- A packed text in plain Lean: its items one by one. Conditions: none. -/
import Derived.KernelRfl
import Derived.Laws.BitsAllLaws
namespace Go.Proofs.Ytfiopjgpokdnoaa.PP

def cpS (d : Nat) (o : List Nat) : List Nat := o ++ [o.getD (o.length - d) 0]
def cp (d : Nat) (o : List Nat) : Nat → List Nat
  | 0 => o
  | m + 1 => cpS d (cp d o m)
theorem cp_length (d : Nat) (o : List Nat) : ∀ m, (cp d o m).length = o.length + m
  | 0 => rfl
  | m + 1 => by show (cpS d (cp d o m)).length = _; simp [cpS, cp_length d o m]; omega
/-- one item: what is left, and what has come -/
def item (b out : List Nat) : Option (List Nat × List Nat) :=
  if b.getD 0 0 < 128 then
    (if b.length < b.getD 0 0 + 2 then none else some (b.drop (b.getD 0 0 + 2), out ++ (b.drop 1).take (b.getD 0 0 + 1)))
  else if b.length < 3 then none
  else if b.getD 1 0 + 256 * b.getD 2 0 < 1 ∨ out.length < b.getD 1 0 + 256 * b.getD 2 0 then none
  else some (b.drop 3, cp (b.getD 1 0 + 256 * b.getD 2 0) out (b.getD 0 0 - 125))
def items : Nat → List Nat → List Nat → Nat → Option (Nat × List Nat)
  | 0, _, _, _ => none
  | f + 1, b, out, n => if b.length = 0 then some (n, out) else match item b out with
    | none => none
    | some (b', out') => items f b' out' (n + 1)
def itemsF (b : List Nat) : Option (Nat × List Nat) := items (b.length + 1) b [] 0
/-- the bytes, how many items, and the error -/
def unpackF (b : List Nat) : List Nat × Nat × Nat :=
  if 8192 < b.length then ([], 0, 3) else match itemsF b with
    | none => ([], 0, 11)
    | some (n, out) => if 4096 < out.length then ([], 0, 3) else (out, n, 0)
theorem items_end {f : Nat} {b out : List Nat} {n : Nat} (hf : 0 < f) (hb : b.length = 0) : items f b out n = some (n, out) := by
  obtain ⟨f, rfl⟩ : ∃ g, f = g + 1 := ⟨f - 1, by omega⟩
  unfold items
  rw [if_pos hb]
theorem items_none {f : Nat} {b out : List Nat} {n : Nat} (hf : 0 < f) (hb : b.length ≠ 0) (h : item b out = none) : items f b out n = none := by
  obtain ⟨f, rfl⟩ : ∃ g, f = g + 1 := ⟨f - 1, by omega⟩
  unfold items
  rw [if_neg hb, h]
theorem items_some {f : Nat} {b out b' out' : List Nat} {n : Nat} (hf : 0 < f) (hb : b.length ≠ 0) (h : item b out = some (b', out')) : items f b out n = items (f - 1) b' out' (n + 1) := by
  obtain ⟨f, rfl⟩ : ∃ g, f = g + 1 := ⟨f - 1, by omega⟩
  rw [items, if_neg hb, h]
  rfl
theorem item_plain {b out : List Nat} (h : b.getD 0 0 < 128) (hl : b.getD 0 0 + 2 ≤ b.length) : item b out = some (b.drop (b.getD 0 0 + 2), out ++ (b.drop 1).take (b.getD 0 0 + 1)) := by
  unfold item; rw [if_pos h, if_neg (by omega)]
theorem item_short {b out : List Nat} (h : b.getD 0 0 < 128) (hl : b.length < b.getD 0 0 + 2) : item b out = none := by
  unfold item; rw [if_pos h, if_pos hl]
theorem item_short3 {b out : List Nat} (h : 128 ≤ b.getD 0 0) (hl : b.length < 3) : item b out = none := by
  unfold item; rw [if_neg (by omega), if_pos hl]
theorem item_far {b out : List Nat} (h : 128 ≤ b.getD 0 0) (hl : 3 ≤ b.length) (hd : b.getD 1 0 + 256 * b.getD 2 0 < 1 ∨ out.length < b.getD 1 0 + 256 * b.getD 2 0) : item b out = none := by
  unfold item; rw [if_neg (by omega), if_neg (by omega), if_pos hd]
theorem item_copy {b out : List Nat} (h : 128 ≤ b.getD 0 0) (hl : 3 ≤ b.length) (hd : 1 ≤ b.getD 1 0 + 256 * b.getD 2 0) (hd2 : b.getD 1 0 + 256 * b.getD 2 0 ≤ out.length) :
    item b out = some (b.drop 3, cp (b.getD 1 0 + 256 * b.getD 2 0) out (b.getD 0 0 - 125)) := by
  unfold item; rw [if_neg (by omega), if_neg (by omega), if_neg (by omega)]
/-! ### what comes out are bytes -/
theorem cp_small {d : Nat} {o : List Nat} (h : ∀ x ∈ o, x < 256) : ∀ m, ∀ x ∈ cp d o m, x < 256
  | 0 => h
  | m + 1 => by
    intro x hx
    have ih := cp_small (d := d) h m
    change x ∈ cpS d (cp d o m) at hx
    unfold cpS at hx
    rw [List.mem_append] at hx
    rcases hx with hx | hx
    · exact ih x hx
    · simp only [List.mem_singleton] at hx
      subst hx
      rw [List.getD_eq_getElem?_getD]
      rcases hg : (cp d o m)[(cp d o m).length - d]? with _ | y
      · simp
      · exact ih _ (List.mem_of_getElem? hg)
theorem items_small : ∀ (f : Nat) (b out : List Nat) (n : Nat) (r : Nat × List Nat), (∀ x ∈ b, x < 256) → (∀ x ∈ out, x < 256) → items f b out n = some r → ∀ x ∈ r.2, x < 256
  | 0, _, _, _, _, _, _, h => by simp [items] at h
  | f + 1, b, out, n, r, hb, ho, h => by
    rw [items] at h
    split at h
    · obtain rfl := Option.some.inj h
      exact ho
    · split at h
      · cases h
      · rename_i b' out' hi
        unfold item at hi
        have key : (∀ x ∈ b', x < 256) ∧ (∀ x ∈ out', x < 256) := by
          split at hi
          · split at hi
            · cases hi
            · obtain ⟨rfl, rfl⟩ := Prod.mk.inj (Option.some.inj hi)
              refine ⟨fun x hx => hb x (List.mem_of_mem_drop hx), fun x hx => ?_⟩
              rw [List.mem_append] at hx
              rcases hx with hx | hx
              · exact ho x hx
              · exact hb x (List.mem_of_mem_drop (List.mem_of_mem_take hx))
          · split at hi
            · cases hi
            · split at hi
              · cases hi
              · obtain ⟨rfl, rfl⟩ := Prod.mk.inj (Option.some.inj hi)
                exact ⟨fun x hx => hb x (List.mem_of_mem_drop hx), cp_small ho _⟩
        exact items_small f b' out' (n + 1) r key.1 key.2 h
theorem unpackF_small {b : List Nat} (hb : ∀ x ∈ b, x < 256) : ∀ x ∈ (unpackF b).1, x < 256 := by
  unfold unpackF
  split
  · simp
  · split
    · simp
    · rename_i n out hi
      have := items_small _ b [] 0 _ hb (by simp) hi
      split
      · simp
      · exact this
end Go.Proofs.Ytfiopjgpokdnoaa.PP
