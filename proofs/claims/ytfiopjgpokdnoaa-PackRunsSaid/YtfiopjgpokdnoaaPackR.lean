/- Bytes as pairs of a byte and how often it stands in a row, in plain Lean. Conditions: none. -/
import Derived.KernelRfl
import Derived.WalkKit
namespace Go.Proofs.Ytfiopjgpokdnoaa.PP
def runS (rs : List (Nat × Nat)) (c : Nat) : List (Nat × Nat) :=
  match rs.getLast? with
  | some (b, k) => if b = c then rs.dropLast ++ [(b, k + 1)] else rs ++ [(c, 1)]
  | none => rs ++ [(c, 1)]
def runsF (l : List Nat) : List (Nat × Nat) := l.foldl runS []
def expand (rs : List (Nat × Nat)) : List Nat := rs.flatMap fun p => List.replicate p.2 p.1
def pcells (p : Nat × Nat) : List Value := [.int .i64 (p.1 : Int), .int .i64 (p.2 : Int)]
def flat (rs : List (Nat × Nat)) : List Value := rs.flatMap pcells
theorem runS_nil (c : Nat) : runS [] c = [(c, 1)] := rfl
theorem runS_same (ini : List (Nat × Nat)) (b k : Nat) : runS (ini ++ [(b, k)]) b = ini ++ [(b, k + 1)] := by
  unfold runS
  simp
theorem runS_new (ini : List (Nat × Nat)) (b k c : Nat) (h : b ≠ c) : runS (ini ++ [(b, k)]) c = (ini ++ [(b, k)]) ++ [(c, 1)] := by
  unfold runS
  simp [h]
theorem runsF_snoc (l : List Nat) (c : Nat) : runsF (l ++ [c]) = runS (runsF l) c := by
  unfold runsF
  rw [List.foldl_append]
  rfl
theorem expand_append (a b : List (Nat × Nat)) : expand (a ++ b) = expand a ++ expand b := by simp [expand]
theorem expand_one (b k : Nat) : expand [(b, k)] = List.replicate k b := by simp [expand]
theorem expand_runS (rs : List (Nat × Nat)) (c : Nat) : expand (runS rs c) = expand rs ++ [c] := by
  rcases List.eq_nil_or_concat rs with rfl | ⟨ini, ⟨b, k⟩, rfl⟩
  · rfl
  · rw [List.concat_eq_append]
    by_cases h : b = c
    · subst h
      rw [runS_same, expand_append, expand_append, expand_one, expand_one, List.append_assoc, List.replicate_succ']
    · rw [runS_new _ _ _ _ h, expand_append, expand_one]
      rfl
theorem expand_runsF (l : List Nat) : expand (runsF l) = l := by
  have : ∀ (l : List Nat) (rs : List (Nat × Nat)), expand (l.foldl runS rs) = expand rs ++ l := by
    intro l
    induction l with
    | nil => intro rs; simp
    | cons c l ih => intro rs; rw [List.foldl_cons, ih, expand_runS]; simp
  simpa [runsF, expand] using this l []
theorem flat_append (a b : List (Nat × Nat)) : flat (a ++ b) = flat a ++ flat b := by simp [flat]
theorem flat_length (rs : List (Nat × Nat)) : (flat rs).length = rs.length * 2 := by
  induction rs with
  | nil => rfl
  | cons p rs ih =>
    have : flat (p :: rs) = pcells p ++ flat rs := rfl
    rw [this, List.length_append, ih]
    simp [pcells]
    omega
theorem flat_snoc_get (ini : List (Nat × Nat)) (b k : Nat) : (flat (ini ++ [(b, k)]))[ini.length * 2]? = some (.int .i64 (b : Int)) ∧ (flat (ini ++ [(b, k)]))[ini.length * 2 + 1]? = some (.int .i64 (k : Int)) := by
  rw [flat_append]
  constructor
  · rw [List.getElem?_append_right (by rw [flat_length]; omega), flat_length, Nat.sub_self]; rfl
  · rw [List.getElem?_append_right (by rw [flat_length]; omega), flat_length, show ini.length * 2 + 1 - ini.length * 2 = 1 by omega]; rfl
theorem flat_snoc_set (ini : List (Nat × Nat)) (b k m : Nat) : (flat (ini ++ [(b, k)])).set (ini.length * 2 + 1) (.int .i64 (m : Int)) = flat (ini ++ [(b, m)]) := by
  rw [flat_append, flat_append, List.set_append_right _ _ (by rw [flat_length]; omega), flat_length, show ini.length * 2 + 1 - ini.length * 2 = 1 by omega]
  rfl
theorem flat_get (rs : List (Nat × Nat)) (i b k : Nat) (h : rs[i]? = some (b, k)) : (flat rs)[i * 2]? = some (.int .i64 (b : Int)) ∧ (flat rs)[i * 2 + 1]? = some (.int .i64 (k : Int)) := by
  induction rs generalizing i with
  | nil => simp at h
  | cons p rs ih =>
    have e : flat (p :: rs) = pcells p ++ flat rs := rfl
    rcases i with _ | i
    · simp at h
      subst h
      exact ⟨rfl, rfl⟩
    · have := ih i (by simpa using h)
      rw [e, List.getElem?_append_right (by simp [pcells]; omega), List.getElem?_append_right (by simp [pcells]; omega)]
      rw [show (i + 1) * 2 - (pcells p).length = i * 2 by simp [pcells]; omega, show (i + 1) * 2 + 1 - (pcells p).length = i * 2 + 1 by simp [pcells]; omega]
      exact this
theorem expand_length_le (rs : List (Nat × Nat)) (i b k : Nat) (h : rs[i]? = some (b, k)) : k ≤ (expand rs).length := by
  induction rs generalizing i with
  | nil => simp at h
  | cons p rs ih =>
    have e : expand (p :: rs) = List.replicate p.2 p.1 ++ expand rs := rfl
    rw [e, List.length_append, List.length_replicate]
    rcases i with _ | i
    · simp at h; subst h; simp
    · have := ih i (by simpa using h)
      omega
theorem runS_length (rs : List (Nat × Nat)) (c : Nat) : (runS rs c).length ≤ rs.length + 1 := by
  rcases List.eq_nil_or_concat rs with rfl | ⟨ini, ⟨b, k⟩, rfl⟩
  · simp [runS]
  · rw [List.concat_eq_append]
    by_cases h : b = c
    · subst h; rw [runS_same]; simp
    · rw [runS_new _ _ _ _ h]; simp
theorem runsF_length (l : List Nat) : (runsF l).length ≤ l.length := by
  have : ∀ (l : List Nat) (rs : List (Nat × Nat)), (l.foldl runS rs).length ≤ rs.length + l.length := by
    intro l
    induction l with
    | nil => intro rs; simp
    | cons c l ih => intro rs; have h1 := ih (runS rs c); have h2 := runS_length rs c; simp only [List.foldl_cons, List.length_cons]; omega
  simpa [runsF] using this l []
theorem runsF_small (l : List Nat) (h : ∀ x ∈ l, x < 256) (i b k : Nat) (hg : (runsF l)[i]? = some (b, k)) (hk : 0 < k) : b < 256 := by
  have hb : b ∈ expand (runsF l) := by
    unfold expand
    rw [List.mem_flatMap]
    exact ⟨(b, k), List.mem_of_getElem? hg, by simp; omega⟩
  rw [expand_runsF] at hb
  exact h b hb
theorem runsF_pos (l : List Nat) (i b k : Nat) (hg : (runsF l)[i]? = some (b, k)) : 0 < k := by
  have : ∀ (l : List Nat) (rs : List (Nat × Nat)), (∀ p ∈ rs, 0 < p.2) → ∀ p ∈ l.foldl runS rs, 0 < p.2 := by
    intro l
    induction l with
    | nil => exact fun rs h => h
    | cons c l ih =>
      intro rs h
      refine ih _ ?_
      rcases List.eq_nil_or_concat rs with rfl | ⟨ini, ⟨b, k⟩, rfl⟩
      · intro p hp; simp [runS] at hp; subst hp; simp
      · rw [List.concat_eq_append] at h ⊢
        intro p hp
        by_cases hc : b = c
        · subst hc
          rw [runS_same, List.mem_append] at hp
          rcases hp with hp | hp
          · exact h p (List.mem_append_left _ hp)
          · simp at hp; subst hp; simp
        · rw [runS_new _ _ _ _ hc, List.mem_append] at hp
          rcases hp with hp | hp
          · exact h p hp
          · simp at hp; subst hp; simp
  exact this l [] (by simp) (b, k) (List.mem_of_getElem? hg)
/-- the last pair is of the last byte -/
theorem runsF_last (l : List Nat) (c : Nat) : ∃ ini k, runsF (l ++ [c]) = ini ++ [(c, k)] := by
  rw [runsF_snoc]
  rcases List.eq_nil_or_concat (runsF l) with h | ⟨ini, ⟨b, k⟩, h⟩
  · exact ⟨[], 1, by rw [h]; rfl⟩
  · rw [h, List.concat_eq_append]
    by_cases hc : b = c
    · subst hc; exact ⟨ini, k + 1, runS_same _ _ _⟩
    · exact ⟨_, 1, runS_new _ _ _ _ hc⟩
end Go.Proofs.Ytfiopjgpokdnoaa.PP
