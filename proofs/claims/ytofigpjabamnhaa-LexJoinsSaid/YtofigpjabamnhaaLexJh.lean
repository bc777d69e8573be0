/- The plain law of LexJoins: tokens joined by blanks read as these tokens. Conditions: none. -/
import Derived.Test.YtofigpjabamnhaaLexQ
import Derived.Test.YtofigpjabamnhaaLexJg
namespace Go.Proofs.Ytofigpjabamnhaa
open Go.RowKit LX
set_option linter.unusedVariables false
theorem runL_blank (r : List Nat) : ∀ x : List Nat, runL (x ++ 32 :: r) = runL x
  | [] => by
    have h : runL (32 :: r) = 0 := by unfold runL; exact if_neg (by decide)
    rw [List.nil_append, h]
    rfl
  | c :: x => by
    rw [List.cons_append, runL, runL, runL_blank r x]
theorem first_blank (x r : List Nat) (k : Nat) (h : firstL x = (k, x.length)) (h0 : x ≠ []) : firstL (x ++ 32 :: r) = (k, x.length) := by
  rcases x with _ | ⟨c, x⟩
  · exact absurd rfl h0
  by_cases c2 : clsN c = 2
  · have e1 : ∀ y, firstL (c :: y) = (0, runL (c :: y)) := fun y => by unfold firstL; simp [c2]
    rw [e1] at h
    rw [List.cons_append, e1, ← List.cons_append, runL_blank, h]
  by_cases c3 : clsN c = 3
  · have e1 : ∀ y, firstL (c :: y) = (1, runL (c :: y)) := fun y => by unfold firstL; simp [c3]
    rw [e1] at h
    rw [List.cons_append, e1, ← List.cons_append, runL_blank, h]
  by_cases c64 : c = 64
  · subst c64
    by_cases ha : 0 < x.length ∧ clsN (x.getD 0 0) = 2
    · have e1 : ∀ y : List Nat, 0 < y.length → clsN (y.getD 0 0) = 2 → firstL (64 :: y) = (3, 1 + runL y) := fun y h1 h2 => by
        unfold firstL
        dsimp only
        rw [if_neg (by decide), if_neg (by decide), if_pos ⟨rfl, h1, h2⟩]
      rw [e1 x ha.1 ha.2] at h
      rcases x with _ | ⟨d, x⟩
      · simp at ha
      · rw [List.cons_append, e1 _ (by simp) (by simpa using ha.2), runL_blank, h]
    · rw [firstL_64 ha] at h
      simp at h
  · have e1 : ∀ y, firstL (c :: y) = if 2 ≤ (c :: y).length ∧ isSgn ((c :: y).take 2) = true then (2, 2) else if isSgn ((c :: y).take 1) = true then (2, 1) else (0, 0) := fun y => by
      unfold firstL
      dsimp only
      rw [if_neg c2, if_neg c3, if_neg (fun h => c64 h.1)]
    rw [e1] at h
    rw [List.cons_append, e1]
    by_cases h2 : 2 ≤ (c :: x).length ∧ isSgn ((c :: x).take 2) = true
    · rw [if_pos h2] at h
      rcases x with _ | ⟨d, _ | ⟨d', x⟩⟩
      · simp at h
      · rw [if_pos ⟨by simp, by simpa using h2.2⟩]
        exact h
      · simp at h
    · rw [if_neg h2] at h
      by_cases h1 : isSgn ((c :: x).take 1) = true
      · rw [if_pos h1] at h
        rcases x with _ | ⟨d, x⟩
        · rw [if_neg, if_pos (by simpa using h1)]
          · exact h
          · rintro ⟨_, hs⟩
            have := (sgn_small _ hs 32 (by simp)).1
            exact this (by decide)
        · simp at h
      · rw [if_neg h1] at h
        simp at h
theorem tok_first {k : Int} {t : ByteArray} (h : isTokB k t = true) : ∃ k' : Nat, (k' : Int) = k ∧ firstL (nat t) = (k', t.size) ∧ 0 < t.size ∧ clsN ((nat t).getD 0 0) ≠ 1 := by
  unfold isTokB at h
  have hT : toksF (nat t) = toks ((nat t).length + 1) (nat t) 0 := rfl
  have hle := firstL_le (nat t)
  have hn := nat_length t
  rw [hn] at hle
  have hlo := toks_lo ((nat t).length + 1) (nat t) 0
  split at h
  · rename_i x hx
    simp only [Bool.and_eq_true, beq_iff_eq] at h
    obtain ⟨h1, h2⟩ := h
    rw [hT] at hx
    rw [hx] at hlo
    have hx0 := hlo x (by simp)
    have hsz : min x.2.2 (t.size - x.2.1) = t.size := by
      have := congrArg List.length h2
      simpa [ByteArray.toList_eq, Lib.extract_data] using this
    have ht : 0 < t.size := by
      rcases Nat.eq_zero_or_pos t.size with h0 | h0
      · rw [toks_end (by rw [hn, h0])] at hx
        simp at hx
      · exact h0
    have hp : x.2.1 = 0 := by omega
    by_cases hb : clsN ((nat t).getD 0 0) = 1
    · rw [toks_blank (by omega) (by omega) hb] at hx
      have := toks_lo ((nat t).length + 1 - 1) ((nat t).drop 1) (0 + 1) x (by rw [hx]; simp)
      omega
    · by_cases hz : (firstL (nat t)).2 = 0
      · rw [toks_none (by omega) (by omega) hb hz] at hx
        simp at hx
      · rw [toks_tok (by omega) (by omega) hb hz] at hx
        have e := congrArg (fun r => r.1.head?) hx
        simp at e
        subst e
        refine ⟨(firstL (nat t)).1, h1, Prod.ext rfl ?_, ht, hb⟩
        simp only at hsz ⊢
        omega
  · simp at h
/-- the texts with a blank between them -/
def JN : List G → List Nat
  | [] => []
  | [g] => nat g.2.2
  | g :: h :: r => nat g.2.2 ++ 32 :: JN (h :: r)
theorem toks_JN : ∀ (ks : List G) (f p : Nat), (∀ g ∈ ks, isTokB g.1 g.2.2 = true) → (JN ks).length < f →
    ∃ ts, toks f (JN ks) p = (ts, none) ∧ ts.length = ks.length ∧ ∀ (j : Nat) (g : G) (x : Tok), ks[j]? = some g → ts[j]? = some x → (x.1 : Int) = g.1 ∧ p ≤ x.2.1 ∧ ((JN ks).drop (x.2.1 - p)).take x.2.2 = nat g.2.2
  | [], f, p, _, hf => ⟨[], toks_end rfl, rfl, fun j g x h => by simp at h⟩
  | [g], f, p, ha, hf => by
    obtain ⟨k', h1, h2, h3, h4⟩ := tok_first (ha g (by simp))
    have hn := nat_length g.2.2
    have hf' : (nat g.2.2).length < f := hf
    have e := toks_tok (f := f) (l := nat g.2.2) (p := p) hf' (by omega) h4 (by rw [h2]; simp only; omega)
    rw [h2] at e
    simp only at e
    rw [toks_end (f := f - 1) (l := (nat g.2.2).drop g.2.2.size) (by rw [List.length_drop]; omega)] at e
    refine ⟨[(k', p, g.2.2.size)], e, rfl, fun j g' x hg hx => ?_⟩
    rcases j with _ | j
    · simp at hg hx
      subst hg hx
      refine ⟨h1, Nat.le_refl _, ?_⟩
      show ((nat g.2.2).drop (p - p)).take g.2.2.size = nat g.2.2
      rw [Nat.sub_self, List.drop_zero, List.take_of_length_le (by omega)]
    · simp at hg
  | g :: h :: r, f, p, ha, hf => by
    obtain ⟨k', h1, h2, h3, h4⟩ := tok_first (ha g (by simp))
    have hn := nat_length g.2.2
    have hl : (JN (g :: h :: r)).length = g.2.2.size + (JN (h :: r)).length + 1 := by simp [JN, hn]; omega
    have eJ : JN (g :: h :: r) = nat g.2.2 ++ 32 :: JN (h :: r) := rfl
    have hfb := first_blank (nat g.2.2) (JN (h :: r)) k' (by rw [h2, hn]) (fun e => by rw [e] at hn; simp at hn; omega)
    have hg0 : (nat g.2.2 ++ 32 :: JN (h :: r)).getD 0 0 = (nat g.2.2).getD 0 0 := by
      rw [List.getD_eq_getElem?_getD, List.getD_eq_getElem?_getD, List.getElem?_append_left (by omega)]
    obtain ⟨ts, i1, i2, i3⟩ := toks_JN (h :: r) (f - 1 - 1) (p + g.2.2.size + 1) (fun x hx => ha x (List.mem_cons_of_mem _ hx)) (by omega)
    have e := toks_tok (f := f) (l := JN (g :: h :: r)) (p := p) hf (by omega) (by rw [eJ, hg0]; exact h4) (by rw [eJ, hfb]; simp only; omega)
    rw [eJ, hfb] at e
    simp only at e
    rw [List.drop_left, hn] at e
    rw [toks_blank (f := f - 1) (l := 32 :: JN (h :: r)) (by simp; omega) (by simp) (by simp [clsN]), List.drop_succ_cons, List.drop_zero, i1] at e
    refine ⟨(k', p, g.2.2.size) :: ts, by rw [eJ]; exact e, by simp [i2], fun j g' x hg hx => ?_⟩
    rcases j with _ | j
    · simp at hg hx
      subst hg hx
      refine ⟨h1, Nat.le_refl _, ?_⟩
      simp only
      rw [Nat.sub_self, List.drop_zero, eJ, ← hn, List.take_left]
    · obtain ⟨a1, a2, a3⟩ := i3 j g' x (by simpa using hg) (by simpa using hx)
      refine ⟨a1, by omega, ?_⟩
      rw [← a3, eJ, List.drop_append, List.drop_eq_nil_of_le (by omega), List.nil_append, hn, show x.2.1 - p - g.2.2.size = (x.2.1 - (p + g.2.2.size + 1)) + 1 by omega, List.drop_succ_cons]
/-- the joined text -/
def joinS (ks : List G) : ByteArray := ⟨(joinL ks).toArray⟩
theorem nat_joinS (ks : List G) : nat (joinS ks) = JN ks := by
  show (joinL ks).map UInt8.toNat = JN ks
  unfold joinL txs
  induction ks with
  | nil => rfl
  | cons g r ih =>
    rcases r with _ | ⟨h, r⟩
    · simp [Lib.join_one, JN, nat]
    · simp only [List.map_cons, join_cons2] at ih ⊢
      rw [List.map_append, ih]
      simp [JN, nat]
theorem joinS_size (ks : List G) : (joinS ks).size ≤ sumG ks + ks.length := by
  have := joinL_length ks
  simpa [joinS, ByteArray.size] using this
theorem join_back (ks : List G) (ha : allTok ks = true) :
    (lexF (nat (joinS ks))).2.2 = 3 ∨ ((lexF (nat (joinS ks))).2.2 = 0 ∧ sameB ((lexF (nat (joinS ks))).1.map (gOf (joinS ks))) ks = true) := by
  have ht : ∀ g ∈ ks, isTokB g.1 g.2.2 = true := fun g hg => by
    have h := ha
    unfold allTok at h
    exact List.all_eq_true.1 h g hg
  have hN := nat_joinS ks
  obtain ⟨ts, h1, h2, h3⟩ := toks_JN ks ((JN ks).length + 1) 0 ht (by omega)
  have hT : toksF (nat (joinS ks)) = (ts, none) := by rw [hN]; exact h1
  unfold lexF
  by_cases h4 : 4000 < (nat (joinS ks)).length
  · rw [if_pos h4]; exact .inl rfl
  · rw [if_neg h4, hT]
    dsimp only
    by_cases h5 : 1000 < ts.length
    · rw [if_pos h5]; exact .inl rfl
    · rw [if_neg h5]
      refine .inr ⟨rfl, sameB_true _ _ (by simp [h2]) (fun i a b hx hy => ?_)⟩
      obtain ⟨x, hx1, rfl⟩ : ∃ x, ts[i]? = some x ∧ gOf (joinS ks) x = a := by
        rw [List.getElem?_map] at hx
        cases e : ts[i]? with
        | none => rw [e] at hx; simp at hx
        | some x => rw [e] at hx; exact ⟨x, rfl, by simpa using hx⟩
      obtain ⟨c1, c2, c3⟩ := h3 i b x hy hx1
      have e2 : (joinS ks).extract x.2.1 (x.2.1 + x.2.2) = b.2.2 := nat_inj (by
        rw [nat_extract, hN, Nat.add_sub_cancel_left]
        simpa using c3)
      unfold sameG gOf
      simp [c1, e2]
end Go.Proofs.Ytofigpjabamnhaa
