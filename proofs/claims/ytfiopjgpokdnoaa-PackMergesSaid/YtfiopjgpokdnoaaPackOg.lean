/- The order of a list, by ranks: plain laws. Conditions: as each theorem says. -/
import Derived.Test.YtfiopjgpokdnoaaPackOb
namespace Go.Proofs.Ytfiopjgpokdnoaa.PO
set_option linter.unusedVariables false
variable {α β : Type}
/-- does place k come ahead of place i -/
def tst (lt : α → α → Bool) (beq : α → α → Bool) (d : α) (ls : List α) (i k : Nat) : Bool := lt (ls.getD k d) (ls.getD i d) || (beq (ls.getD k d) (ls.getD i d) && decide (k < i))
def rank (lt : α → α → Bool) (beq : α → α → Bool) (d : α) (ls : List α) (m i : Nat) : Nat := (List.range m).countP (tst lt beq d ls i)
def rk (lt : α → α → Bool) (beq : α → α → Bool) (d : α) (ls : List α) (i : Nat) : Nat := rank lt beq d ls ls.length i
/-- the places in order -/
def ordL (lt : α → α → Bool) (d : α) (ls : List α) : List Nat := (ms (fun a b => lt (ls.getD a d) (ls.getD b d)) ls.length (List.range ls.length)).1
theorem ordL_perm (lt : α → α → Bool) (d : α) (ls : List α) : (ordL lt d ls).Perm (List.range ls.length) := ms_perm _ _ _
theorem ordL_length (lt : α → α → Bool) (d : α) (ls : List α) : (ordL lt d ls).length = ls.length := by rw [(ordL_perm lt d ls).length_eq]; simp
def RO (lt : α → α → Bool) (d : α) (ls : List α) (a b : Nat) : Prop := lt (ls.getD a d) (ls.getD b d) = true ∨ (ls.getD a d = ls.getD b d ∧ a < b)
theorem RO.irr {lt : α → α → Bool} (h : Ord lt) (d : α) (ls : List α) (a : Nat) : ¬ RO lt d ls a a := by
  rintro (h1 | ⟨_, h1⟩)
  · rw [h.irr] at h1; cases h1
  · omega
theorem RO.tr {lt : α → α → Bool} (h : Ord lt) (d : α) (ls : List α) (a b c : Nat) (h1 : RO lt d ls a b) (h2 : RO lt d ls b c) : RO lt d ls a c := by
  rcases h1 with h1 | ⟨e1, h1⟩
  · rcases h2 with h2 | ⟨e2, h2⟩
    · exact .inl (h.tr _ _ _ h1 h2)
    · exact .inl (e2 ▸ h1)
  · rcases h2 with h2 | ⟨e2, h2⟩
    · exact .inl (e1 ▸ h2)
    · exact .inr ⟨e1.trans e2, by omega⟩
theorem ordL_pair {lt : α → α → Bool} (h : Ord lt) (d : α) (ls : List α) : (ordL lt d ls).Pairwise (RO lt d ls) :=
  ms_pair _ (RO lt d ls) (· < ·) (RO.tr h d ls) (fun x y hl => .inl hl) (fun x y hlo hl => by
    cases hx : lt (ls.getD x d) (ls.getD y d) with
    | true => exact .inl hx
    | false => exact .inr ⟨h.tot _ _ hx hl, hlo⟩) _ _ (by simp) List.pairwise_lt_range
theorem tst_iff {lt : α → α → Bool} (beq : α → α → Bool) (hb : ∀ x y, beq x y = true ↔ x = y) (d : α) (ls : List α) (i k : Nat) : tst lt beq d ls i k = true ↔ RO lt d ls k i := by
  unfold tst RO
  simp [hb]
theorem rk_ordL {lt : α → α → Bool} (h : Ord lt) (beq : α → α → Bool) (hb : ∀ x y, beq x y = true ↔ x = y) (d : α) (ls : List α) (p : Nat) (hp : p < (ordL lt d ls).length) : rk lt beq d ls (ordL lt d ls)[p] = p := by
  classical
  have := rank_of (RO lt d ls) (RO.irr h d ls) (RO.tr h d ls) (ordL lt d ls) (List.range ls.length) (ordL_perm lt d ls) (ordL_pair h d ls) p hp
  unfold rk rank
  refine Eq.trans ?_ this
  congr 1
  funext k
  rw [Bool.eq_iff_iff, tst_iff beq hb]
  simp
theorem ordL_ex (lt : α → α → Bool) (d : α) (ls : List α) (i : Nat) (hi : i < ls.length) : ∃ p, ∃ hp : p < (ordL lt d ls).length, (ordL lt d ls)[p] = i := by
  have : i ∈ ordL lt d ls := (ordL_perm lt d ls).mem_iff.2 (by simpa using hi)
  obtain ⟨p, hp, e⟩ := List.getElem_of_mem this
  exact ⟨p, hp, e⟩
theorem rk_lt {lt : α → α → Bool} (h : Ord lt) (beq : α → α → Bool) (hb : ∀ x y, beq x y = true ↔ x = y) (d : α) (ls : List α) (i : Nat) (hi : i < ls.length) : rk lt beq d ls i < ls.length := by
  obtain ⟨p, hp, e⟩ := ordL_ex lt d ls i hi
  have := rk_ordL h beq hb d ls p hp
  rw [e] at this
  rw [ordL_length] at hp
  omega
/-- the list that the reference fills: after i places -/
def outL (r : Nat → Nat) (val : Nat → β) (z : List β) : Nat → List β
  | 0 => z
  | i + 1 => (outL r val z i).set (r i) (val i)
theorem outL_length (r : Nat → Nat) (val : Nat → β) (z : List β) : ∀ i, (outL r val z i).length = z.length
  | 0 => rfl
  | i + 1 => by rw [outL, List.length_set, outL_length r val z i]
theorem outL_ordL {lt : α → α → Bool} (h : Ord lt) (beq : α → α → Bool) (hb : ∀ x y, beq x y = true ↔ x = y) (d : α) (ls : List α) (val : Nat → β) (z : List β) (hz : z.length = ls.length) :
    ∀ i, i ≤ ls.length → ∀ p, (hp : p < (ordL lt d ls).length) → (ordL lt d ls)[p] < i → (outL (rk lt beq d ls) val z i)[p]? = some (val (ordL lt d ls)[p])
  | 0, _, p, hp, hlt => by omega
  | i + 1, hi, p, hp, hlt => by
    have hpl := hp
    rw [ordL_length] at hpl
    rw [outL]
    obtain ⟨q, hq, e⟩ := ordL_ex lt d ls i (by omega)
    have hr := rk_ordL h beq hb d ls q hq
    rw [e] at hr
    rw [hr]
    by_cases hpq : q = p
    · subst hpq
      rw [List.getElem?_set_self (by rw [outL_length, hz]; omega), e]
    · rw [List.getElem?_set_ne hpq]
      refine outL_ordL h beq hb d ls val z hz i (by omega) p hp ?_
      have : (ordL lt d ls)[p] ≠ i := fun e2 => hpq (by
        have h2 := rk_ordL h beq hb d ls p hp
        rw [e2] at h2
        omega)
      omega
theorem outL_all {lt : α → α → Bool} (h : Ord lt) (beq : α → α → Bool) (hb : ∀ x y, beq x y = true ↔ x = y) (d : α) (ls : List α) (val : Nat → β) (z : List β) (hz : z.length = ls.length) :
    outL (rk lt beq d ls) val z ls.length = (ordL lt d ls).map val := by
  refine List.ext_getElem? fun p => ?_
  by_cases hp : p < (ordL lt d ls).length
  · have hm : (ordL lt d ls)[p] < ls.length := by simpa using (ordL_perm lt d ls).mem_iff.1 (List.getElem_mem hp)
    rw [outL_ordL h beq hb d ls val z hz _ (Nat.le_refl _) p hp hm, List.getElem?_map, List.getElem?_eq_getElem hp]
    rfl
  · rw [List.getElem?_eq_none (by rw [outL_length, hz]; rw [ordL_length] at hp; omega), List.getElem?_eq_none (by rw [List.length_map]; omega)]
/-- what the program sorts, in these words -/
theorem getD_range (d : α) (ls : List α) : (List.range ls.length).map (fun i => ls.getD i d) = ls := by
  refine List.ext_getElem? fun i => ?_
  rw [List.getElem?_map]
  by_cases h : i < ls.length
  · simp [List.getElem?_range, h, List.getD]
  · simp [h]
theorem ms_ordL (lt : α → α → Bool) (d : α) (ls : List α) : (ms lt ls.length ls).1 = (ordL lt d ls).map (fun i => ls.getD i d) := by
  have := ms_map (fun i => ls.getD i d) lt ls.length (List.range ls.length)
  rw [getD_range] at this
  rw [this]
  rfl
theorem ms_ordK (ls : List Int) : (ms (ltK ls) ls.length ((List.range ls.length).map Int.ofNat)).1 = (ordL ltI 0 ls).map Int.ofNat := by
  rw [ms_map]
  rfl
/-- the reference's count of pairs, row by row -/
def invTo (lt : α → α → Bool) (d : α) (ls : List α) (i : Nat) : Nat := ((List.range i).map fun k => (ls.drop (k + 1)).countP (fun y => lt y (ls.getD k d))).sum
theorem invTo_succ (lt : α → α → Bool) (d : α) (ls : List α) (i : Nat) : invTo lt d ls (i + 1) = invTo lt d ls i + (ls.drop (i + 1)).countP (fun y => lt y (ls.getD i d)) := by
  unfold invTo
  rw [List.range_succ, List.map_append, List.sum_append]
  simp
theorem inv_invTo (lt : α → α → Bool) (d : α) (ls : List α) : ∀ i, i ≤ ls.length → inv lt ls = invTo lt d ls i + inv lt (ls.drop i)
  | 0, _ => by simp [invTo]
  | i + 1, h => by
    rw [inv_invTo lt d ls i (by omega), invTo_succ, List.drop_eq_getElem_cons (show i < ls.length by omega), inv]
    have e : ls.getD i d = ls[i]'(by omega) := by simp [List.getD, List.getElem?_eq_getElem (show i < ls.length by omega)]
    rw [e]
    omega
theorem inv_all (lt : α → α → Bool) (d : α) (ls : List α) : inv lt ls = invTo lt d ls ls.length := by
  rw [inv_invTo lt d ls ls.length (Nat.le_refl _), List.drop_length]
  simp [inv]
theorem inv_le {lt : α → α → Bool} (h : Ord lt) (ls : List α) : inv lt ls ≤ ls.length * ls.length := by
  rw [← ms_count h ls.length ls (Nat.le_refl _)]
  exact ms_le lt _ ls
/-- the count within a row -/
def partI (lt : α → α → Bool) (d : α) (ls : List α) (i m : Nat) : Nat := invTo lt d ls i + ((ls.drop (i + 1)).take m).countP (fun y => lt y (ls.getD i d))
theorem partI_zero (lt : α → α → Bool) (d : α) (ls : List α) (i : Nat) : partI lt d ls i 0 = invTo lt d ls i := by simp [partI]
theorem partI_succ (lt : α → α → Bool) (d : α) (ls : List α) (i m : Nat) (h : i + 1 + m < ls.length) : partI lt d ls i (m + 1) = partI lt d ls i m + if lt (ls.getD (i + 1 + m) d) (ls.getD i d) = true then 1 else 0 := by
  unfold partI
  have e : (ls.drop (i + 1))[m]? = some (ls.getD (i + 1 + m) d) := by
    rw [List.getElem?_drop]
    simp [List.getD, List.getElem?_eq_getElem h]
  rw [List.take_add_one, e, List.countP_append]
  simp [List.countP_cons, Nat.add_assoc]
theorem partI_all (lt : α → α → Bool) (d : α) (ls : List α) (i m : Nat) (h : ls.length ≤ i + 1 + m) : partI lt d ls i m = invTo lt d ls (i + 1) := by
  unfold partI
  rw [invTo_succ, List.take_of_length_le (by rw [List.length_drop]; omega)]
theorem partI_le (lt : α → α → Bool) (d : α) (ls : List α) (i m : Nat) (h : i < ls.length) : partI lt d ls i m ≤ inv lt ls := by
  rw [inv_invTo lt d ls (i + 1) h, invTo_succ]
  unfold partI
  have := List.Sublist.countP_le (p := fun y => lt y (ls.getD i d)) (List.take_sublist m (ls.drop (i + 1)))
  omega
def strAt (ls : List ByteArray) (i : Nat) : ByteArray := ls.getD i ByteArray.empty
/-- the places are in order just if no pair stands the wrong way round -/
theorem ordL_id {lt : α → α → Bool} (h : Ord lt) (d : α) (ls : List α) : ordL lt d ls = List.range ls.length ↔ inv lt ls = 0 := by
  have hrange : (List.range ls.length).Pairwise (RO lt d ls) ↔ inv lt ls = 0 := by
    rw [inv_zero, List.pairwise_iff_getElem, List.pairwise_iff_getElem]
    constructor
    · intro hp i j hi hj hij
      have := hp i j (by simpa using hi) (by simpa using hj) hij
      simp only [List.getElem_range] at this
      have ei : ls.getD i d = ls[i] := by simp [List.getD, List.getElem?_eq_getElem hi]
      have ej : ls.getD j d = ls[j] := by simp [List.getD, List.getElem?_eq_getElem hj]
      rcases this with h1 | ⟨h1, _⟩
      · rw [ei, ej] at h1
        cases h2 : lt ls[j] ls[i] with
        | false => rfl
        | true => have := h.tr _ _ _ h1 h2; rw [h.irr] at this; cases this
      · rw [ei, ej] at h1
        rw [h1, h.irr]
    · intro hp i j hi hj hij
      simp only [List.getElem_range]
      simp at hi hj
      have ei : ls.getD i d = ls[i] := by simp [List.getD, List.getElem?_eq_getElem hi]
      have ej : ls.getD j d = ls[j] := by simp [List.getD, List.getElem?_eq_getElem hj]
      have := hp i j hi hj hij
      unfold RO
      rw [ei, ej]
      cases h2 : lt ls[i] ls[j] with
      | true => exact .inl rfl
      | false => exact .inr ⟨h.tot _ _ h2 this, hij⟩
  rw [← hrange]
  constructor
  · intro e; rw [← e]; exact ordL_pair h d ls
  · intro hp
    exact sorted_eq (fun x y h1 h2 => absurd (RO.tr h d ls x y x h1 h2) (RO.irr h d ls x)) _ _ (ordL_perm lt d ls) (ordL_pair h d ls) hp
end Go.Proofs.Ytfiopjgpokdnoaa.PO
