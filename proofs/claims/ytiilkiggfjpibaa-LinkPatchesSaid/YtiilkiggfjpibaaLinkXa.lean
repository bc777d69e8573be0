/- Stretches that lie apart are told by what they cover; merging makes such; so does the reading of runs off a row of marks. Conditions: as each theorem says. -/
import Derived.Test.YtiilkiggfjpibaaLinkVo
namespace Go.Proofs.Ytiilkiggfjpibaa
open Go.RowKit LK
set_option linter.unusedVariables false
set_option linter.unusedSimpArgs false
/-- stretches that lie apart, none of them empty, in ascending order -/
def Sep (l : List St) : Prop := l.Pairwise (fun a b => a.2.val < b.1.val) ∧ ∀ s ∈ l, s.1.val < s.2.val
theorem Sep.tail {x : St} {r : List St} (h : Sep (x :: r)) : Sep r := ⟨(List.pairwise_cons.1 h.1).2, fun s hs => h.2 s (List.mem_cons_of_mem _ hs)⟩
theorem sep_first {x : St} {r : List St} (h : Sep (x :: r)) {n : Nat} (hc : Cov (x :: r) n) : x.1.val ≤ n := by
  obtain ⟨s, hs, h1, h2⟩ := hc
  have hx := h.2 x (List.mem_cons_self ..)
  rcases List.mem_cons.1 hs with rfl | hs
  · exact h1
  · have := (List.pairwise_cons.1 h.1).1 s hs
    omega
theorem sep_gap {x : St} {r : List St} (h : Sep (x :: r)) : ¬ Cov (x :: r) x.2.val := by
  rintro ⟨s, hs, h1, h2⟩
  rcases List.mem_cons.1 hs with rfl | hs
  · omega
  · have := (List.pairwise_cons.1 h.1).1 s hs
    omega
theorem sep_rest {x : St} {r : List St} (h : Sep (x :: r)) (n : Nat) : Cov r n ↔ Cov (x :: r) n ∧ x.2.val < n := by
  constructor
  · rintro ⟨s, hs, h1, h2⟩
    have := (List.pairwise_cons.1 h.1).1 s hs
    exact ⟨⟨s, List.mem_cons_of_mem _ hs, h1, h2⟩, by omega⟩
  · rintro ⟨⟨s, hs, h1, h2⟩, h3⟩
    rcases List.mem_cons.1 hs with rfl | hs
    · omega
    · exact ⟨s, hs, h1, h2⟩
theorem st_ext {x y : St} (h1 : x.1.val = y.1.val) (h2 : x.2.val = y.2.val) : x = y := by
  obtain ⟨⟨a, ha⟩, ⟨b, hb⟩⟩ := x
  obtain ⟨⟨c, hc⟩, ⟨d, hd⟩⟩ := y
  dsimp only at h1 h2
  subst h1
  subst h2
  rfl
theorem sep_unique : ∀ {a b : List St}, Sep a → Sep b → (∀ n, Cov a n ↔ Cov b n) → a = b
  | [], [], _, _, _ => rfl
  | [], y :: t, _, hb, h => by
    have hy := hb.2 y (List.mem_cons_self ..)
    obtain ⟨s, hs, -⟩ := (h y.1.val).2 ⟨y, List.mem_cons_self .., Nat.le_refl _, hy⟩
    cases hs
  | x :: r, [], ha, _, h => by
    have hx := ha.2 x (List.mem_cons_self ..)
    obtain ⟨s, hs, -⟩ := (h x.1.val).1 ⟨x, List.mem_cons_self .., Nat.le_refl _, hx⟩
    cases hs
  | x :: r, y :: t, ha, hb, h => by
    have hx := ha.2 x (List.mem_cons_self ..)
    have hy := hb.2 y (List.mem_cons_self ..)
    have e1 : x.1.val = y.1.val := by
      have h1 := sep_first hb ((h x.1.val).1 ⟨x, List.mem_cons_self .., Nat.le_refl _, hx⟩)
      have h2 := sep_first ha ((h y.1.val).2 ⟨y, List.mem_cons_self .., Nat.le_refl _, hy⟩)
      omega
    have e2 : x.2.val = y.2.val := by
      rcases Nat.lt_trichotomy x.2.val y.2.val with h3 | h3 | h3
      · exact absurd ((h x.2.val).2 ⟨y, List.mem_cons_self .., by omega, h3⟩) (sep_gap ha)
      · exact h3
      · exact absurd ((h y.2.val).1 ⟨x, List.mem_cons_self .., by omega, h3⟩) (sep_gap hb)
    have e3 : r = t := sep_unique ha.tail hb.tail fun n => by rw [sep_rest ha, sep_rest hb, h n, e2]
    rw [st_ext e1 e2, e3]
theorem sep_snoc {init : List St} {l : St} : Sep (init ++ [l]) ↔ Sep init ∧ l.1.val < l.2.val ∧ ∀ s ∈ init, s.2.val < l.1.val := by
  unfold Sep
  rw [List.pairwise_append]
  constructor
  · rintro ⟨⟨h1, -, h2⟩, h3⟩
    exact ⟨⟨h1, fun s hs => h3 s (List.mem_append_left _ hs)⟩, h3 l (by simp), fun s hs => h2 s hs l (by simp)⟩
  · rintro ⟨⟨h1, h2⟩, h3, h4⟩
    refine ⟨⟨h1, List.pairwise_singleton .., fun s hs t ht => ?_⟩, fun s hs => ?_⟩
    · rw [List.mem_singleton] at ht; rw [ht]; exact h4 s hs
    · rcases List.mem_append.1 hs with h5 | h5
      · exact h2 s h5
      · rw [List.mem_singleton] at h5; rw [h5]; exact h3
theorem sep_step {init : List St} {l x : St} (h : Sep (init ++ [l])) (hx : l.1.val ≤ x.1.val) (hn : x.1.val < x.2.val) : Sep (stepM (init ++ [l]) x) := by
  obtain ⟨h1, h2, h3⟩ := sep_snoc.1 h
  rw [stepM_some (l := l) (by simp)]
  split
  · rw [List.dropLast_concat]
    refine sep_snoc.2 ⟨h1, ?_, h3⟩
    dsimp only
    split
    · omega
    · exact h2
  · rename_i h4
    refine sep_snoc.2 ⟨h, hn, fun s hs => ?_⟩
    rcases List.mem_append.1 hs with h5 | h5
    · have := h3 s h5; omega
    · rw [List.mem_singleton] at h5; rw [h5]; omega
theorem sep_fold : ∀ {ts init : List St} {l : St}, Sep (init ++ [l]) → (l :: ts).Pairwise (fun a b => a.1.val ≤ b.1.val) → (∀ s ∈ ts, s.1.val < s.2.val) → Sep (ts.foldl stepM (init ++ [l]))
  | [], init, l, h, _, _ => h
  | x :: r, init, l, h, hp, hn => by
    rw [List.pairwise_cons] at hp
    obtain ⟨h1, h2⟩ := hp
    have hlx := h1 x (List.mem_cons_self ..)
    have hs := sep_step h hlx (hn x (List.mem_cons_self ..))
    obtain ⟨init', l', e, hl'⟩ := step_last (init := init) hlx
    rw [List.foldl_cons, e]
    rw [e] at hs
    refine sep_fold hs ?_ fun s hs => hn s (List.mem_cons_of_mem _ hs)
    rw [List.pairwise_cons] at h2 ⊢
    exact ⟨fun y hy => Nat.le_trans hl' (h2.1 y hy), h2.2⟩
theorem sep_merge {ts : List St} (hp : ts.Pairwise (fun a b => a.1.val ≤ b.1.val)) (hn : ∀ s ∈ ts, s.1.val < s.2.val) : Sep (mergeS ts) := by
  cases ts with
  | nil => exact ⟨List.Pairwise.nil, fun s hs => by cases hs⟩
  | cons z tl =>
    refine sep_fold (init := []) ?_ hp fun s hs => hn s (List.mem_cons_of_mem _ hs)
    exact sep_snoc.2 ⟨⟨List.Pairwise.nil, fun s hs => by cases hs⟩, hn z (List.mem_cons_self ..), fun s hs => by cases hs⟩
/-- the runs of marks, read up to a place -/
def runStep (M : Nat → Bool) (out : List St) (i : Nat) : List St :=
  if M i = true then (if i = 0 ∨ M (i - 1) = false then out ++ [mkSt i (i + 1)] else match out.getLast? with
    | some l => out.dropLast ++ [(l.1, (mkSt i (i + 1)).2)]
    | none => out) else out
def runsTo (M : Nat → Bool) : Nat → List St
  | 0 => []
  | i + 1 => runStep M (runsTo M i) i
/-- what is read so far: apart, within the place, covering the marks; its last one ends at the place if that is marked -/
structure RunI (M : Nat → Bool) (i : Nat) (out : List St) : Prop where
  sep : Sep out
  cov : ∀ n, Cov out n ↔ n < i ∧ M n = true
  on : 0 < i → M (i - 1) = true → ∃ init l, out = init ++ [l] ∧ l.2.val = i
  off : 0 < i → M (i - 1) = false → ∀ s ∈ out, s.2.val < i
theorem runI {M : Nat → Bool} : ∀ i, i < 65535 → RunI M i (runsTo M i)
  | 0, _ => ⟨⟨List.Pairwise.nil, fun s hs => (by cases hs)⟩, fun n => ⟨(fun ⟨s, hs, _⟩ => (by cases hs)), fun h => absurd h.1 (by omega)⟩, fun h => absurd h (by omega), fun h => absurd h (by omega)⟩
  | i + 1, hi => by
    have ih := runI (M := M) i (by omega)
    obtain ⟨v1, v2⟩ := mk_val (a := i) (b := i + 1) (by omega) (by omega)
    have hle : ∀ s ∈ runsTo M i, s.2.val ≤ i := fun s hs => by
      have h1 := ih.sep.2 s hs
      have h2 := (ih.cov (s.2.val - 1)).1 ⟨s, hs, by omega, by omega⟩
      omega
    unfold runsTo runStep
    by_cases hm : M i = true
    · rw [if_pos hm]
      by_cases hp : i = 0 ∨ M (i - 1) = false
      · rw [if_pos hp]
        have hlt : ∀ s ∈ runsTo M i, s.2.val < i := fun s hs => by
          rcases Nat.eq_zero_or_pos i with h0 | h0
          · have h1 := ih.sep.2 s hs
            have := hle s hs
            omega
          · rcases hp with h1 | h1
            · omega
            · exact ih.off h0 h1 s hs
        refine ⟨sep_snoc.2 ⟨ih.sep, by rw [v1, v2]; omega, fun s hs => by rw [v1]; exact hlt s hs⟩, fun n => ?_, fun _ _ => ⟨_, _, rfl, v2⟩, fun _ h => ?_⟩
        · rw [cov_app, cov_one, ih.cov n, v1, v2]
          constructor
          · rintro (⟨h1, h2⟩ | ⟨h1, h2⟩)
            · exact ⟨by omega, h2⟩
            · obtain rfl : n = i := by omega
              exact ⟨by omega, hm⟩
          · rintro ⟨h1, h2⟩
            rcases Nat.lt_or_ge n i with h3 | h3
            · exact .inl ⟨h3, h2⟩
            · exact .inr ⟨h3, h1⟩
        · rw [show i + 1 - 1 = i from rfl, hm] at h; cases h
      · rw [if_neg hp]
        have h0 : 0 < i := Nat.pos_of_ne_zero fun h => hp (.inl h)
        have hprev : M (i - 1) = true := by
          cases h : M (i - 1) with
          | true => rfl
          | false => exact absurd (.inr h) hp
        obtain ⟨init, l, e, hl⟩ := ih.on h0 hprev
        rw [e, List.getLast?_concat]
        dsimp only
        rw [List.dropLast_concat]
        have hs := ih.sep
        rw [e] at hs
        obtain ⟨a1, a2, a3⟩ := sep_snoc.1 hs
        refine ⟨sep_snoc.2 ⟨a1, by dsimp only; rw [v2]; omega, a3⟩, fun n => ?_, fun _ _ => ⟨_, _, rfl, v2⟩, fun _ h => ?_⟩
        · have hc := ih.cov n
          rw [e, cov_app, cov_one] at hc
          rw [cov_app, cov_one]
          dsimp only
          rw [v2]
          constructor
          · rintro (h1 | ⟨h1, h2⟩)
            · have := hc.1 (.inl h1)
              exact ⟨by omega, this.2⟩
            · rcases Nat.lt_or_ge n i with h3 | h3
              · have := hc.1 (.inr ⟨h1, by omega⟩)
                exact ⟨by omega, this.2⟩
              · obtain rfl : n = i := by omega
                exact ⟨by omega, hm⟩
          · rintro ⟨h1, h2⟩
            rcases Nat.lt_or_ge n i with h3 | h3
            · rcases hc.2 ⟨h3, h2⟩ with h4 | h4
              · exact .inl h4
              · exact .inr ⟨h4.1, by omega⟩
            · exact .inr ⟨by omega, by omega⟩
        · rw [show i + 1 - 1 = i from rfl, hm] at h; cases h
    · rw [if_neg hm]
      have hmf : M i = false := by simpa using hm
      refine ⟨ih.sep, fun n => ?_, fun _ h => ?_, fun _ _ s hs => by have := hle s hs; omega⟩
      · rw [ih.cov n]
        constructor
        · rintro ⟨h1, h2⟩
          exact ⟨by omega, h2⟩
        · rintro ⟨h1, h2⟩
          refine ⟨?_, h2⟩
          rcases Nat.lt_or_ge n i with h3 | h3
          · exact h3
          · obtain rfl : n = i := by omega
            rw [hmf] at h2; cases h2
      · rw [show i + 1 - 1 = i from rfl, hmf] at h; cases h
/-- the merged stretches are the runs of what they cover -/
theorem merge_runs {ts : List St} {M : Nat → Bool} {N : Nat} (hp : ts.Pairwise (fun a b => a.1.val ≤ b.1.val)) (hn : ∀ s ∈ ts, s.1.val < s.2.val) (hN : N < 65535) (hM : ∀ n, (n < N ∧ M n = true) ↔ Cov ts n) : mergeS ts = runsTo M N := by
  have h := runI (M := M) N hN
  refine sep_unique (sep_merge hp hn) h.sep fun n => ?_
  rw [cov_merge hp, h.cov n, hM n]
end Go.Proofs.Ytiilkiggfjpibaa
