/- What an edit leaves of the tokens, in plain Lean: those that end before it, and those behind a blank that follows it. Conditions: none. -/
import Derived.Test.YtofigpjabamnhaaDoorLexPlain
namespace Go.Proofs.YtofigpjabamnhaaDoor.LX
set_option linter.unusedVariables false
theorem runL_congr : ∀ (r r' : List Nat), runL r + 1 ≤ r.length → r.take (runL r + 1) = r'.take (runL r + 1) → runL r' = runL r
  | [], r', h, _ => by simp at h
  | c :: r, r', h, e => by
    rcases r' with _ | ⟨c', r'⟩
    · simp at e
    · rw [List.take_succ_cons, List.take_succ_cons] at e
      have e2 := List.cons.inj e
      clear e
      obtain ⟨rfl, e⟩ := e2
      by_cases hc : 2 ≤ clsN c
      · have h1 : runL (c :: r) = runL r + 1 := by rw [runL, if_pos hc]
        have h2 : runL (c :: r') = runL r' + 1 := by rw [runL, if_pos hc]
        rw [h1] at h e
        rw [h1, h2, runL_congr r r' (by simpa using h) e]
      · rw [runL, runL, if_neg hc, if_neg hc]
theorem runL_get : ∀ (l : List Nat) (j : Nat), j < runL l → 2 ≤ clsN (l.getD j 0)
  | [], j, h => by simp [runL] at h
  | c :: r, j, h => by
    unfold runL at h
    split at h
    · rename_i hc
      rcases j with _ | j
      · exact hc
      · simpa using runL_get r j (by omega)
    · omega
theorem sgn_small (m : List Nat) (h : isSgn m = true) : ∀ x ∈ m, clsN x ≠ 1 ∧ x ≠ 64 := by
  unfold isSgn at h
  rw [List.contains_iff_mem] at h
  have : ∀ m ∈ signsL, ∀ x ∈ m, clsN x ≠ 1 ∧ x ≠ 64 := by decide +kernel
  exact this m h
theorem firstL_64 {r : List Nat} (h : ¬ (0 < r.length ∧ clsN (r.getD 0 0) = 2)) : firstL (64 :: r) = (0, 0) := by
  have hs : ∀ n, 0 < n → isSgn ((64 :: r).take n) = false := fun n hn => by
    cases hb : isSgn ((64 :: r).take n)
    · rfl
    · obtain ⟨n, rfl⟩ : ∃ k, n = k + 1 := ⟨n - 1, by omega⟩
      have := (sgn_small _ hb 64 (by simp)).2
      exact absurd rfl this
  unfold firstL
  dsimp only
  rw [if_neg (by decide), if_neg (by decide), if_neg (fun ⟨_, h1⟩ => h h1), hs 2 (by omega), hs 1 (by omega)]
  simp
/-- a token hangs on its bytes and the next one alone -/
theorem first_congr {l l' : List Nat} (hn : (firstL l).2 ≠ 0) (hl : (firstL l).2 + 1 ≤ l.length) (he : l.take ((firstL l).2 + 1) = l'.take ((firstL l).2 + 1)) : firstL l' = firstL l := by
  rcases l with _ | ⟨c, r⟩
  · simp at hl
  rcases l' with _ | ⟨c', r'⟩
  · simp at he
  rw [List.take_succ_cons, List.take_succ_cons] at he
  have he2 := List.cons.inj he
  clear he
  obtain ⟨rfl, he⟩ := he2
  have hl' : (firstL (c :: r)).2 ≤ r.length := by simpa using hl
  by_cases c2 : clsN c = 2
  · have e1 : ∀ x, firstL (c :: x) = (0, runL (c :: x)) := fun x => by unfold firstL; simp [c2]
    have e2 : ∀ x, runL (c :: x) = runL x + 1 := fun x => by rw [runL, if_pos (by omega)]
    rw [e1, e2] at hl' he hn
    rw [e1, e1, e2, e2, runL_congr r r' hl' he]
  by_cases c3 : clsN c = 3
  · have e1 : ∀ x, firstL (c :: x) = (1, runL (c :: x)) := fun x => by unfold firstL; simp [c3]
    have e2 : ∀ x, runL (c :: x) = runL x + 1 := fun x => by rw [runL, if_pos (by omega)]
    rw [e1, e2] at hl' he hn
    rw [e1, e1, e2, e2, runL_congr r r' hl' he]
  by_cases c64 : c = 64
  · subst c64
    by_cases ha : 0 < r.length ∧ clsN (r.getD 0 0) = 2
    · have e1 : ∀ x : List Nat, 0 < x.length → clsN (x.getD 0 0) = 2 → firstL (64 :: x) = (3, 1 + runL x) := fun x h1 h2 => by
        unfold firstL
        dsimp only
        rw [if_neg (by decide), if_neg (by decide), if_pos ⟨rfl, h1, h2⟩]
      rw [e1 r ha.1 ha.2] at hl' he hn
      dsimp only at hl' he hn
      rw [Nat.add_comm] at hl' he
      have hr := runL_congr r r' hl' he
      have h0 : r'.getD 0 0 = r.getD 0 0 := by
        have := congrArg (fun m => m.getD 0 0) he
        simp only [List.getD_eq_getElem?_getD, List.getElem?_take, show 0 < runL r + 1 by omega, if_true] at this
        rw [List.getD_eq_getElem?_getD, List.getD_eq_getElem?_getD, this]
      have h1 : 0 < r'.length := by
        have := congrArg List.length he
        simp at this
        omega
      rw [e1 r ha.1 ha.2, e1 r' h1 (by rw [h0]; exact ha.2), hr]
    · rw [firstL_64 ha] at hn
      simp at hn
  · have e1 : ∀ x, firstL (c :: x) = if 2 ≤ (c :: x).length ∧ isSgn ((c :: x).take 2) = true then (2, 2) else if isSgn ((c :: x).take 1) = true then (2, 1) else (0, 0) := fun x => by
      unfold firstL
      dsimp only
      rw [if_neg c2, if_neg c3, if_neg (fun h => c64 h.1)]
    have ht1 : ∀ x : List Nat, (c :: x).take 1 = [c] := fun x => by simp
    rw [e1] at hn hl' he
    rw [e1, e1]
    by_cases h2 : 2 ≤ (c :: r).length ∧ isSgn ((c :: r).take 2) = true
    · rw [if_pos h2] at hl' he hn ⊢
      dsimp only at hl' he
      have hlen := congrArg List.length he
      simp at hlen
      have hte : (c :: r').take 2 = (c :: r).take 2 := by
        rw [List.take_succ_cons, List.take_succ_cons]
        have := congrArg (fun m => m.take 1) he
        simp only [List.take_take] at this
        simpa using this.symm
      rw [if_pos ⟨by simp; omega, by rw [hte]; exact h2.2⟩]
    · rw [if_neg h2] at hl' he hn ⊢
      by_cases h1 : isSgn ((c :: r).take 1) = true
      · rw [if_pos h1] at hl' he hn ⊢
        dsimp only at hl' he
        have hlen := congrArg List.length he
        simp at hlen
        have hte : (c :: r').take 2 = (c :: r).take 2 := by
          rw [List.take_succ_cons, List.take_succ_cons]
          simpa using he.symm
        rw [if_neg (fun h => h2 ⟨by simp; omega, by rw [← hte]; exact h.2⟩), ht1, ← ht1 r, if_pos h1]
      · rw [if_neg h1] at hn
        simp at hn
/-- no byte of a token is a blank -/
theorem first_solid (l : List Nat) (j : Nat) (hj : j < (firstL l).2) : clsN (l.getD j 0) ≠ 1 := by
  rcases l with _ | ⟨c, r⟩
  · simp [firstL] at hj
  by_cases c2 : clsN c = 2
  · have e1 : firstL (c :: r) = (0, runL (c :: r)) := by unfold firstL; simp [c2]
    rw [e1] at hj
    have := runL_get (c :: r) j hj
    omega
  by_cases c3 : clsN c = 3
  · have e1 : firstL (c :: r) = (1, runL (c :: r)) := by unfold firstL; simp [c3]
    rw [e1] at hj
    have := runL_get (c :: r) j hj
    omega
  by_cases c64 : c = 64
  · subst c64
    by_cases ha : 0 < r.length ∧ clsN (r.getD 0 0) = 2
    · have e1 : firstL (64 :: r) = (3, 1 + runL r) := by
        unfold firstL
        dsimp only
        rw [if_neg (by decide), if_neg (by decide), if_pos ⟨rfl, ha.1, ha.2⟩]
      rw [e1] at hj
      rcases j with _ | j
      · show clsN 64 ≠ 1
        decide
      · have := runL_get r j (by dsimp only at hj; omega)
        simp only [List.getD_cons_succ]
        omega
    · rw [firstL_64 ha] at hj
      simp at hj
  · have e1 : firstL (c :: r) = if 2 ≤ (c :: r).length ∧ isSgn ((c :: r).take 2) = true then (2, 2) else if isSgn ((c :: r).take 1) = true then (2, 1) else (0, 0) := by
      unfold firstL
      dsimp only
      rw [if_neg c2, if_neg c3, if_neg (fun h => c64 h.1)]
    rw [e1] at hj
    have key : ∀ n, j < n → n ≤ (c :: r).length → isSgn ((c :: r).take n) = true → clsN ((c :: r).getD j 0) ≠ 1 := fun n h1 h2 h3 => by
      refine (sgn_small _ h3 _ ?_).1
      rw [List.getD_eq_getElem?_getD, List.getElem?_eq_getElem (by omega)]
      exact List.mem_iff_getElem.2 ⟨j, by simp at h2 ⊢; omega, by simp⟩
    split at hj
    · rename_i h
      exact key 2 hj h.1 h.2
    · split at hj
      · rename_i h
        exact key 1 hj (by simp) h
      · simp at hj
theorem toks_fuel : ∀ (f f' : Nat) (l : List Nat) (p : Nat), l.length < f → l.length < f' → toks f l p = toks f' l p
  | 0, _, l, _, h, _ => by omega
  | _, 0, l, _, _, h => by omega
  | f + 1, f' + 1, l, p, h, h' => by
    rw [toks, toks]
    split
    · rfl
    · split
      · exact toks_fuel f f' _ _ (by rw [List.length_drop]; omega) (by rw [List.length_drop]; omega)
      · split
        · rfl
        · rw [toks_fuel f f' _ _ (by rw [List.length_drop]; omega) (by rw [List.length_drop]; omega)]
theorem toks_lo : ∀ (f : Nat) (l : List Nat) (p : Nat), ∀ t ∈ (toks f l p).1, p ≤ t.2.1 ∧ 0 < t.2.2
  | 0, l, p => by simp [toks]
  | f + 1, l, p => by
    rw [toks]
    split
    · simp
    · split
      · intro t ht
        have := toks_lo f _ _ t ht
        omega
      · split
        · simp
        · intro t ht
          rcases List.mem_cons.1 ht with rfl | ht
          · dsimp only; omega
          · have := toks_lo f _ _ t ht
            omega
def shT (d : Nat) (t : Tok) : Tok := (t.1, t.2.1 + d, t.2.2)
theorem toks_shift : ∀ (f : Nat) (l : List Nat) (p d : Nat), (toks f l (p + d)).1 = (toks f l p).1.map (shT d)
  | 0, l, p, d => by simp [toks]
  | f + 1, l, p, d => by
    rw [toks, toks]
    split
    · simp
    · split
      · rw [show p + d + 1 = p + 1 + d by omega]
        exact toks_shift f _ _ _
      · split
        · simp
        · rw [show p + d + (firstL l).2 = p + (firstL l).2 + d by omega]
          simp [toks_shift f, shT]
theorem drop_congr {l l' : List Nat} {p F n : Nat} (h : l.take F = l'.take F) (hp : p + n ≤ F) : (l.drop p).take n = (l'.drop p).take n := by
  rw [List.take_drop, List.take_drop]
  have := congrArg (fun m => (m.take (p + n)).drop p) h
  simp only [List.take_take, Nat.min_eq_left hp] at this
  simpa [Nat.add_comm] using this
theorem toks_head (F : Nat) (l l' : List Nat) (hF : F ≤ l.length) (hF' : F ≤ l'.length) (he : l.take F = l'.take F) :
    ∀ (f f' p : Nat), (l.drop p).length < f → (l'.drop p).length < f' → ∃ A B B', (toks f (l.drop p) p).1 = A ++ B ∧ (toks f' (l'.drop p) p).1 = A ++ B' ∧ (∀ t ∈ A, t.2.1 + t.2.2 < F) ∧ (∀ t ∈ B, F ≤ t.2.1 + t.2.2)
  | 0, f', p, h, _ => by omega
  | f + 1, 0, p, _, h => by omega
  | f + 1, f' + 1, p, h, h' => by
    by_cases hp : F ≤ p
    · exact ⟨[], _, _, rfl, rfl, by simp, fun t ht => by have := toks_lo _ _ _ t ht; omega⟩
    · have hg : (l'.drop p).getD 0 0 = (l.drop p).getD 0 0 := by
        have := drop_congr he (p := p) (n := 1) (by omega)
        have := congrArg (fun m => m.getD 0 0) this
        simp only [List.getD_eq_getElem?_getD, List.getElem?_take, show 0 < 1 by omega, if_true] at this
        rw [List.getD_eq_getElem?_getD, List.getD_eq_getElem?_getD, this]
      have hl : 0 < (l.drop p).length := by rw [List.length_drop]; omega
      have hl' : 0 < (l'.drop p).length := by rw [List.length_drop]; omega
      by_cases hb : clsN ((l.drop p).getD 0 0) = 1
      · rw [toks_blank h hl hb, toks_blank h' hl' (by rw [hg]; exact hb), List.drop_drop, List.drop_drop]
        exact toks_head F l l' hF hF' he f f' (p + 1) (by rw [List.length_drop] at h ⊢; omega) (by rw [List.length_drop] at h' ⊢; omega)
      · by_cases hn : (firstL (l.drop p)).2 = 0
        · rw [toks_none h hl hb hn]
          exact ⟨[], [], _, rfl, rfl, by simp, by simp⟩
        · rw [toks_tok h hl hb hn]
          by_cases hend : p + (firstL (l.drop p)).2 < F
          · have hc := first_congr (l := l.drop p) (l' := l'.drop p) hn (by rw [List.length_drop]; omega) (drop_congr he (by omega))
            rw [toks_tok h' hl' (by rw [hg]; exact hb) (by rw [hc]; exact hn), hc, List.drop_drop, List.drop_drop]
            obtain ⟨A, B, B', e1, e2, e3, e4⟩ := toks_head F l l' hF hF' he f f' (p + (firstL (l.drop p)).2) (by rw [List.length_drop] at h ⊢; omega) (by rw [List.length_drop] at h' ⊢; omega)
            refine ⟨_ :: A, B, B', by rw [Nat.add_sub_cancel, e1]; rfl, by rw [Nat.add_sub_cancel, e2]; rfl, fun t ht => ?_, e4⟩
            rcases List.mem_cons.1 ht with rfl | ht
            · exact hend
            · exact e3 t ht
          · refine ⟨[], _, _, rfl, rfl, by simp, fun t ht => ?_⟩
            rcases List.mem_cons.1 ht with rfl | ht
            · dsimp only; omega
            · have := toks_lo _ _ _ t ht
              omega
/-- at a blank the tokens part -/
theorem toks_part (l : List Nat) (q : Nat) (hq : q ≤ l.length) (hb : q = l.length ∨ clsN (l.getD q 0) = 1) :
    ∀ (f p : Nat), (l.drop p).length < f → p ≤ q → (toks f (l.drop p) p).2 = none → ∃ A, (toks f (l.drop p) p).1 = A ++ (toks ((l.drop q).length + 1) (l.drop q) q).1 ∧ ∀ t ∈ A, t.2.1 + t.2.2 ≤ q
  | 0, p, h, _, _ => by omega
  | f + 1, p, h, hpq, hnone => by
    by_cases e : p = q
    · subst e
      exact ⟨[], by rw [toks_fuel (f + 1) ((l.drop p).length + 1) _ _ h (by omega)]; rfl, by simp⟩
    · have hl : 0 < (l.drop p).length := by rw [List.length_drop]; omega
      by_cases hbl : clsN ((l.drop p).getD 0 0) = 1
      · rw [toks_blank h hl hbl, List.drop_drop] at hnone ⊢
        exact toks_part l q hq hb f (p + 1) (by rw [List.length_drop] at h ⊢; omega) (by omega) hnone
      · by_cases hn : (firstL (l.drop p)).2 = 0
        · rw [toks_none h hl hbl hn] at hnone
          cases hnone
        · rw [toks_tok h hl hbl hn] at hnone ⊢
          have hle := firstL_le (l.drop p)
          rw [List.length_drop] at hle
          have hpn : p + (firstL (l.drop p)).2 ≤ q := by
            by_cases hh : p + (firstL (l.drop p)).2 ≤ q
            · exact hh
            · rcases hb with hb | hb
              · omega
              · have := first_solid (l.drop p) (q - p) (by omega)
                rw [List.getD_eq_getElem?_getD, List.getElem?_drop, show p + (q - p) = q by omega, ← List.getD_eq_getElem?_getD] at this
                exact absurd hb this
          rw [List.drop_drop] at hnone ⊢
          obtain ⟨A, e1, e2⟩ := toks_part l q hq hb f (p + (firstL (l.drop p)).2) (by rw [List.length_drop] at h ⊢; omega) hpn hnone
          refine ⟨_ :: A, by rw [Nat.add_sub_cancel, e1]; rfl, fun t ht => ?_⟩
          rcases List.mem_cons.1 ht with rfl | ht
          · exact hpn
          · exact e2 t ht
end Go.Proofs.YtofigpjabamnhaaDoor.LX
