/- Which texts are words, in plain Lean. Conditions: none. -/
import Derived.Test.YtofigpjabamnhaaDoorLexJb
import Derived.Test.YtofigpjabamnhaaDoorLexQ
namespace Go.Proofs.YtofigpjabamnhaaDoor
open Go.RowKit LX
set_option linter.unusedVariables false
theorem tok_first1 {k : Int} {t : ByteArray} (h : isTokB k t = true) : ∃ k' : Nat, (k' : Int) = k ∧ firstL (nat t) = (k', t.size) ∧ 0 < t.size ∧ clsN ((nat t).getD 0 0) ≠ 1 := by
  unfold isTokB at h
  have hT : toksF (nat t) = toks ((nat t).length + 1) (nat t) 0 := rfl
  have hle := firstL_le (nat t)
  have hn := nat_length t
  rw [hn] at hle
  have hlo := toks_lo ((nat t).length + 1) (nat t) 0
  split at h
  · rename_i x hx
    simp only [Bool.and_eq_true, beq_iff_eq] at h
    obtain ⟨h1, h2⟩ := h
    rw [hT] at hx
    rw [hx] at hlo
    have hx0 := hlo x (by simp)
    have hsz : min x.2.2 (t.size - x.2.1) = t.size := by
      have := congrArg List.length h2
      simpa [ByteArray.toList_eq, Lib.extract_data] using this
    have ht : 0 < t.size := by
      rcases Nat.eq_zero_or_pos t.size with h0 | h0
      · rw [toks_end (by rw [hn, h0])] at hx
        simp at hx
      · exact h0
    have hp : x.2.1 = 0 := by omega
    by_cases hb : clsN ((nat t).getD 0 0) = 1
    · rw [toks_blank (by omega) (by omega) hb] at hx
      have := toks_lo ((nat t).length + 1 - 1) ((nat t).drop 1) (0 + 1) x (by rw [hx]; simp)
      omega
    · by_cases hz : (firstL (nat t)).2 = 0
      · rw [toks_none (by omega) (by omega) hb hz] at hx
        simp at hx
      · rw [toks_tok (by omega) (by omega) hb hz] at hx
        have e := congrArg (fun r => r.1.head?) hx
        simp at e
        subst e
        refine ⟨(firstL (nat t)).1, h1, Prod.ext rfl ?_, ht, hb⟩
        simp only at hsz ⊢
        omega
  · simp at h
/-- a letter first, letters and digits to the end -/
def wordB (s : ByteArray) : Bool := match nat s with
  | [] => false
  | c :: r => decide (clsN c = 2) && decide (runL (c :: r) = s.size)
theorem extract_all (s : ByteArray) : (s.extract 0 (0 + s.size)).toList = s.toList := by
  rw [Lib.toList_data, Lib.toList_data, Lib.extract_data]
  simp only [Nat.zero_add, Nat.sub_zero, List.drop_zero]
  exact List.take_of_length_le (by simp)
theorem word_tok {s : ByteArray} {c : Nat} {r : List Nat} (h : nat s = c :: r) (hc : clsN c = 2) (hr : runL (c :: r) = s.size) : isTokB 0 s = true := by
  have hf : firstL (nat s) = (0, s.size) := by
    rw [h]
    unfold firstL
    dsimp only
    rw [if_pos hc, hr]
  have hl := nat_length s
  have hpos : 0 < s.size := by rw [← hl, h]; simp
  have ht : toksF (nat s) = ([(0, 0, s.size)], none) := by
    unfold toksF
    rw [toks_tok (by omega) (by omega) (by rw [h]; simp [hc]) (fun e => by rw [hf] at e; dsimp only at e; omega), hf]
    dsimp only
    rw [toks_end (by rw [List.length_drop, hl]; omega)]
  unfold isTokB
  rw [ht]
  dsimp only
  rw [extract_all]
  simp
theorem isWord_eq (s : ByteArray) : isTokB 0 s = wordB s := by
  unfold wordB
  cases hn : nat s with
  | nil =>
    dsimp only
    cases hb : isTokB 0 s with
    | false => rfl
    | true =>
      obtain ⟨_, _, _, h0, _⟩ := tok_first1 hb
      have := nat_length s
      rw [hn] at this
      simp at this
      omega
  | cons c r =>
    dsimp only
    by_cases h : clsN c = 2 ∧ runL (c :: r) = s.size
    · rw [word_tok hn h.1 h.2]
      simp [h.1, h.2]
    · cases hb : isTokB 0 s with
      | false =>
        by_cases h1 : clsN c = 2
        · have h2 : ¬ runL (c :: r) = s.size := fun e => h ⟨h1, e⟩
          simp [h2]
        · simp [h1]
      | true =>
        exfalso
        obtain ⟨k', hk, hf, h0, _⟩ := tok_first1 hb
        have hk0 : k' = 0 := by omega
        subst hk0
        rw [hn] at hf
        unfold firstL at hf
        dsimp only at hf
        split at hf
        · rename_i hc
          exact h ⟨hc, by have := congrArg Prod.snd hf; simpa using this⟩
        · split at hf
          · have := congrArg Prod.fst hf; simp at this
          · split at hf
            · have := congrArg Prod.fst hf; simp at this
            · split at hf
              · have := congrArg Prod.fst hf; simp at this
              · split at hf
                · have := congrArg Prod.fst hf; simp at this
                · have := congrArg Prod.snd hf; simp at this; omega
end Go.Proofs.YtofigpjabamnhaaDoor
