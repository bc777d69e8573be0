/- Outside of what may change the old and the new image are the same; merging keeps what the stretches cover. Conditions: as each theorem says. -/
import Derived.Test.YtiilkiggfjpibaaLinkVm
namespace Go.Proofs.Ytiilkiggfjpibaa
open Go.RowKit LK
set_option linter.unusedVariables false
set_option linter.unusedSimpArgs false
/-- two rows that are the same outside of U -/
def Agr (U : Nat → Prop) (X Y : List Value) : Prop := X.length = Y.length ∧ ∀ n, ¬ U n → X[n]? = Y[n]?
theorem putL_out {v o n : Nat} : ∀ {k : Nat} {X : List Value}, (n < o ∨ o + k ≤ n) → (putL v o k X)[n]? = X[n]?
  | 0, X, _ => rfl
  | k + 1, X, h => by
    rw [putL, List.getElem?_set_ne (by omega), putL_out (by omega)]
theorem Agr.put_same {U : Nat → Prop} {X Y : List Value} (h : Agr U X Y) (v o : Nat) : ∀ k, Agr U (putL v o k X) (putL v o k Y)
  | 0 => h
  | k + 1 => by
    have ih := h.put_same v o k
    refine ⟨by rw [putL, putL, List.length_set, List.length_set]; exact ih.1, fun n hn => ?_⟩
    rw [putL, putL]
    by_cases hk : o + k = n
    · subst hk
      rw [List.getElem?_set, List.getElem?_set, if_pos rfl, if_pos rfl, ih.1]
    · rw [List.getElem?_set_ne hk, List.getElem?_set_ne hk]
      exact ih.2 n hn
theorem Agr.put_in {U : Nat → Prop} {X Y : List Value} (h : Agr U X Y) (v v' o k : Nat) (hU : ∀ n, o ≤ n → n < o + k → U n) : Agr U (putL v o k X) (putL v' o k Y) := by
  refine ⟨by rw [putL_len, putL_len]; exact h.1, fun n hn => ?_⟩
  have hout : n < o ∨ o + k ≤ n := by
    rcases Nat.lt_or_ge n o with h1 | h1
    · exact .inl h1
    · rcases Nat.lt_or_ge n (o + k) with h2 | h2
      · exact absurd (hU n h1 h2) hn
      · exact .inr h2
  rw [putL_out hout, putL_out hout]
  exact h.2 n hn
theorem Agr.app {U : Nat → Prop} {X Y : List Value} (h : Agr U X Y) (Z : List Value) : Agr U (X ++ Z) (Y ++ Z) := by
  refine ⟨by rw [List.length_append, List.length_append, h.1], fun n hn => ?_⟩
  rcases Nat.lt_or_ge n X.length with h1 | h1
  · rw [List.getElem?_append_left h1, List.getElem?_append_left (by rw [← h.1]; exact h1)]
    exact h.2 n hn
  · rw [List.getElem?_append_right h1, List.getElem?_append_right (by rw [← h.1]; exact h1), h.1]
theorem Agr.app_in {U : Nat → Prop} {X Y Z Z' : List Value} (h : Agr U X Y) (hz : Z.length = Z'.length) (hU : ∀ n, X.length ≤ n → n < X.length + Z.length → U n) : Agr U (X ++ Z) (Y ++ Z') := by
  refine ⟨by rw [List.length_append, List.length_append, h.1, hz], fun n hn => ?_⟩
  rcases Nat.lt_or_ge n X.length with h1 | h1
  · rw [List.getElem?_append_left h1, List.getElem?_append_left (by rw [← h.1]; exact h1)]
    exact h.2 n hn
  · rcases Nat.lt_or_ge n (X.length + Z.length) with h2 | h2
    · exact absurd (hU n h1 h2) hn
    · rw [List.getElem?_eq_none (by rw [List.length_append]; exact h2), List.getElem?_eq_none (by rw [List.length_append, ← h.1, ← hz]; exact h2)]
theorem Agr.wants {U : Nat → Prop} {f : Wnt → Bool} {T T' : Tab} {st : Nat} : ∀ {ws : List Wnt} {X Y : List Value}, Agr U X Y → (∀ x ∈ ws, 0 ≤ x.1 ∧ (f x = true → ∀ n, st + x.1.toNat ≤ n → n < st + x.1.toNat + 4 → U n) ∧ (f x = false → adr T x.2.2 = adr T' x.2.2)) → Agr U (wantsT T (st : Nat) ws X) (wantsT T' (st : Nat) ws Y)
  | [], X, Y, h, _ => h
  | x :: r, X, Y, h, hw => by
    obtain ⟨h0, h1, h2⟩ := hw x (List.mem_cons_self ..)
    have hst : (((st : Nat) : Int) + x.1).toNat = st + x.1.toNat := by omega
    refine Agr.wants (ws := r) (X := putW (st : Nat) (adr T x.2.2) x X) (Y := putW (st : Nat) (adr T' x.2.2) x Y) ?_ (fun y hy => hw y (List.mem_cons_of_mem _ hy))
    unfold putW
    rw [hst]
    cases hf : f x with
    | true => exact h.put_in _ _ _ _ (h1 hf)
    | false => rw [h2 hf]; exact h.put_same _ _ _
theorem wantsT_out {U : Nat → Prop} {T : Tab} {st n : Nat} (hn : ¬ U n) : ∀ {ws : List Wnt} {X : List Value}, (∀ x ∈ ws, 0 ≤ x.1 ∧ ∀ n, st + x.1.toNat ≤ n → n < st + x.1.toNat + 4 → U n) → (wantsT T (st : Nat) ws X)[n]? = X[n]?
  | [], X, _ => rfl
  | x :: r, X, hw => by
    obtain ⟨h0, h1⟩ := hw x (List.mem_cons_self ..)
    have hst : (((st : Nat) : Int) + x.1).toNat = st + x.1.toNat := by omega
    have ih := wantsT_out (T := T) hn (ws := r) (X := putW (st : Nat) (adr T x.2.2) x X) (fun y hy => hw y (List.mem_cons_of_mem _ hy))
    refine Eq.trans ih ?_
    unfold putW
    rw [hst]
    refine putL_out ?_
    rcases Nat.lt_or_ge n (st + x.1.toNat) with h2 | h2
    · exact .inl h2
    · rcases Nat.lt_or_ge n (st + x.1.toNat + 4) with h3 | h3
      · exact absurd (h1 n h2 h3) hn
      · exact .inr h3
theorem room_ge (n : Nat) : n + 8 ≤ room n := by unfold room; omega
theorem padL_length {o : OV} (h : o.1.xs.length = o.1.n) (L : List Value) : (padL o L).length = L.length + room o.1.n := by
  have := room_ge o.1.n
  simp [padL, h]
  omega
theorem imgT_length {T : Tab} : ∀ {os : List OV} {a : Nat} {L : List Value}, (∀ o ∈ os, o.1.xs.length = o.1.n) → (imgT T a os L).length = L.length + offF os
  | [], a, L, _ => by simp [imgT, offF]
  | o :: r, a, L, h => by
    rw [imgT, imgT_length (os := r) fun q hq => h q (List.mem_cons_of_mem _ hq), wantsT_len, padL_length (h o (List.mem_cons_self ..))]
    simp [offF]
    omega
theorem imgT_app {T : Tab} : ∀ {l m : List OV} {a : Nat} {L : List Value}, imgT T a (l ++ m) L = imgT T (a + offF l) m (imgT T a l L)
  | [], m, a, L => by simp [imgT, offF]
  | o :: r, m, a, L => by
    rw [List.cons_append, imgT, imgT_app (l := r), imgT]
    simp [offF, Nat.add_assoc]
theorem offF_app (l m : List OV) : offF (l ++ m) = offF l + offF m := by simp [offF]
theorem img_same {U : Nat → Prop} {f : Wnt → Bool} {T T' : Tab} : ∀ {os : List OV} {a : Nat} {X Y : List Value}, Agr U X Y → (∀ j q, os[j]? = some q → ∀ x ∈ q.2.2.xs, 0 ≤ x.1 ∧ (f x = true → ∀ n, a + offF (os.take j) + x.1.toNat ≤ n → n < a + offF (os.take j) + x.1.toNat + 4 → U n) ∧ (f x = false → adr T x.2.2 = adr T' x.2.2)) → Agr U (imgT T a os X) (imgT T' a os Y)
  | [], a, X, Y, h, _ => h
  | o :: r, a, X, Y, h, hw => by
    rw [imgT, imgT]
    refine img_same (os := r) (f := f) ?_ ?_
    · refine Agr.wants (f := f) ?_ (fun x hx => by
        have := hw 0 o rfl x hx
        simpa [offF] using this)
      unfold padL
      exact (h.app _).app _
    · intro j q hq x hx
      have := hw (j + 1) q (by simpa using hq) x hx
      have e : a + offF ((o :: r).take (j + 1)) = a + room o.1.n + offF (r.take j) := by simp [offF, Nat.add_assoc]
      rw [e] at this
      exact this
theorem tabF_app : ∀ (l m : List OV) (k a : Nat), tabF k a (l ++ m) = tabF k a l ++ tabF (k + l.length) (a + offF l) m
  | [], m, k, a => by simp [tabF, offF]
  | o :: r, m, k, a => by
    rw [List.cons_append, tabF, tabF_app r, tabF, List.append_assoc]
    congr 3
    · simp; omega
    · simp [offF]; omega
theorem lookS_app (A B : Tab) (s : ByteArray) : lookS (A ++ B) s = (lookS A s).or (lookS B s) := by
  unfold lookS
  rw [List.find?_append]
  cases List.find? (fun x => x.1.toList == s.toList) A with
  | none => simp
  | some x => simp
theorem lookS_not {o : OV} {k a : Nat} {s : ByteArray} (h : hasN o s = false) : lookS (o.2.1.xs.map fun x => (x.1, (k : Int), (a : Int) + x.2)) s = none := by
  unfold lookS
  rw [Option.map_eq_none_iff, List.find?_eq_none]
  intro y hy
  obtain ⟨x, hx, rfl⟩ := List.mem_map.1 hy
  unfold hasN at h
  rw [List.any_eq_false] at h
  exact h x hx
/-- a name that neither the old nor the new object has stays where it was -/
theorem adr_stay {l m : List OV} {o p : OV} {s : ByteArray} (hr : room o.1.n = room p.1.n) (h1 : hasN o s = false) (h2 : hasN p s = false) : adr (tabF 0 0 (l ++ p :: m)) s = adr (tabF 0 0 (l ++ o :: m)) s := by
  have e : ∀ q : OV, room q.1.n = room p.1.n → hasN q s = false → lookS (tabF 0 0 (l ++ q :: m)) s = (lookS (tabF 0 0 l) s).or (lookS (tabF (0 + l.length + 1) (0 + offF l + room p.1.n) m) s) := by
    intro q hq hn
    rw [tabF_app, tabF, lookS_app, lookS_app, lookS_not hn, hq]
    rfl
  unfold adr
  rw [e p rfl h2, e o hr h1]
/-- the two images are the same outside of what may change -/
theorem img_agr {l m : List OV} {o p : OV} {U : Nat → Prop} (hr : room o.1.n = room p.1.n)
    (hall : ∀ q, q ∈ l ++ p :: m ∨ q = o → q.1.xs.length = q.1.n ∧ ∀ x ∈ q.2.2.xs, 0 ≤ x.1 ∧ x.1 + 4 ≤ (q.1.n : Int))
    (hI : ∀ n, offF l ≤ n → n < offF l + room p.1.n → U n)
    (hW : ∀ j q, (l ++ p :: m)[j]? = some q → j ≠ l.length → ∀ x ∈ q.2.2.xs, wantS o p x = true → ∀ n, offF ((l ++ p :: m).take j) + x.1.toNat ≤ n → n < offF ((l ++ p :: m).take j) + x.1.toNat + 4 → U n) :
    Agr U (imgT (tabF 0 0 (l ++ p :: m)) 0 (l ++ p :: m) []) (imgT (tabF 0 0 (l ++ o :: m)) 0 (l ++ o :: m) []) := by
  have hst : ∀ x : Wnt, wantS o p x = false → adr (tabF 0 0 (l ++ p :: m)) x.2.2 = adr (tabF 0 0 (l ++ o :: m)) x.2.2 := fun x hx => by
    unfold wantS at hx
    rw [Bool.or_eq_false_iff] at hx
    exact adr_stay hr hx.1 hx.2
  rw [imgT_app, imgT_app, imgT, imgT]
  have ho := hall o (.inr rfl)
  have hp := hall p (.inl (by simp))
  have h1 : Agr U (imgT (tabF 0 0 (l ++ p :: m)) 0 l []) (imgT (tabF 0 0 (l ++ o :: m)) 0 l []) := by
    refine img_same (f := wantS o p) ⟨rfl, fun _ _ => rfl⟩ ?_
    intro j q hq x hx
    have hj := (List.getElem?_eq_some_iff.1 hq).1
    have hq2 : (l ++ p :: m)[j]? = some q := by rw [List.getElem?_append_left hj]; exact hq
    refine ⟨((hall q (.inl (List.mem_of_getElem? hq2))).2 x hx).1, fun hf n a b => ?_, hst x⟩
    refine hW j q hq2 (by omega) x hx hf n ?_ ?_
    · rw [List.take_append_of_le_length (by omega)]; omega
    · rw [List.take_append_of_le_length (by omega)]; omega
  have hl1 : (imgT (tabF 0 0 (l ++ p :: m)) 0 l []).length = offF l := by
    rw [imgT_length fun q hq => (hall q (.inl (by simp [hq]))).1]
    simp
  have hin : ∀ q : OV, (q = o ∨ q = p) → ∀ x ∈ q.2.2.xs, 0 ≤ x.1 ∧ ∀ n, (0 + offF l) + x.1.toNat ≤ n → n < (0 + offF l) + x.1.toNat + 4 → U n := by
    intro q hq x hx
    have h9 := (hall q (by rcases hq with rfl | rfl; exact .inr rfl; exact .inl (by simp))).2 x hx
    have h8 : room q.1.n = room p.1.n := by rcases hq with rfl | rfl; exact hr; rfl
    have h7 := room_ge q.1.n
    refine ⟨h9.1, fun n a b => hI n (by omega) (by omega)⟩
  have h2 : Agr U (wantsT (tabF 0 0 (l ++ p :: m)) ((0 + offF l : Nat) : Int) p.2.2.xs (padL p (imgT (tabF 0 0 (l ++ p :: m)) 0 l []))) (wantsT (tabF 0 0 (l ++ o :: m)) ((0 + offF l : Nat) : Int) o.2.2.xs (padL o (imgT (tabF 0 0 (l ++ o :: m)) 0 l []))) := by
    have h3 : Agr U (padL p (imgT (tabF 0 0 (l ++ p :: m)) 0 l [])) (padL o (imgT (tabF 0 0 (l ++ o :: m)) 0 l [])) := by
      unfold padL
      rw [List.append_assoc, List.append_assoc]
      have g1 := room_ge o.1.n
      have g2 := room_ge p.1.n
      refine h1.app_in (by simp [ho.1, hp.1]; omega) fun n a b => hI n (by omega) ?_
      rw [hl1] at b
      simp [hp.1] at b
      omega
    refine ⟨by rw [wantsT_len, wantsT_len]; exact h3.1, fun n hn => ?_⟩
    rw [wantsT_out hn (hin p (.inr rfl)), wantsT_out hn (hin o (.inl rfl))]
    exact h3.2 n hn
  rw [hr]
  refine img_same (f := wantS o p) h2 ?_
  intro j q hq x hx
  have hq2 : (l ++ p :: m)[l.length + 1 + j]? = some q := by
    rw [List.getElem?_append_right (by omega), show l.length + 1 + j - l.length = j + 1 by omega]
    simpa using hq
  refine ⟨((hall q (.inl (List.mem_of_getElem? hq2))).2 x hx).1, fun hf n a b => ?_, hst x⟩
  have e : offF ((l ++ p :: m).take (l.length + 1 + j)) = 0 + offF l + room p.1.n + offF (m.take j) := by
    rw [List.take_append, List.take_of_length_le (by omega), show l.length + 1 + j - l.length = j + 1 by omega, List.take_succ_cons, offF_app]
    simp [offF]
    omega
  refine hW (l.length + 1 + j) q hq2 (by omega) x hx hf n ?_ ?_
  · rw [e]; exact a
  · rw [e]; exact b
/-- what stretches cover -/
def Cov (ts : List St) (n : Nat) : Prop := ∃ s ∈ ts, s.1.val ≤ n ∧ n < s.2.val
theorem cov_app {a b : List St} {n : Nat} : Cov (a ++ b) n ↔ Cov a n ∨ Cov b n := by
  unfold Cov
  constructor
  · rintro ⟨s, hs, h⟩
    rcases List.mem_append.1 hs with h1 | h1
    · exact .inl ⟨s, h1, h⟩
    · exact .inr ⟨s, h1, h⟩
  · rintro (⟨s, hs, h⟩ | ⟨s, hs, h⟩)
    · exact ⟨s, List.mem_append_left _ hs, h⟩
    · exact ⟨s, List.mem_append_right _ hs, h⟩
theorem cov_one {s : St} {n : Nat} : Cov [s] n ↔ s.1.val ≤ n ∧ n < s.2.val := by
  unfold Cov
  simp
theorem cov_step {init : List St} {l x : St} {n : Nat} (h : l.1.val ≤ x.1.val) : Cov (stepM (init ++ [l]) x) n ↔ Cov (init ++ [l]) n ∨ Cov [x] n := by
  rw [stepM_some (l := l) (by simp)]
  split
  · rename_i h1
    rw [List.dropLast_concat, cov_app, cov_app, cov_one, cov_one, cov_one]
    dsimp only
    constructor
    · rintro (h2 | ⟨h2, h3⟩)
      · exact .inl (.inl h2)
      · rcases Nat.lt_or_ge n l.2.val with h4 | h4
        · exact .inl (.inr ⟨h2, h4⟩)
        · split at h3
          · exact .inr ⟨by omega, h3⟩
          · omega
    · rintro ((h2 | ⟨h2, h3⟩) | ⟨h2, h3⟩)
      · exact .inl h2
      · refine .inr ⟨h2, ?_⟩
        split
        · omega
        · exact h3
      · refine .inr ⟨by omega, ?_⟩
        split
        · exact h3
        · omega
  · rw [cov_app]
theorem step_last {init : List St} {l x : St} (h : l.1.val ≤ x.1.val) : ∃ init' l', stepM (init ++ [l]) x = init' ++ [l'] ∧ l'.1.val ≤ x.1.val := by
  rw [stepM_some (l := l) (by simp)]
  split
  · exact ⟨init, (l.1, if l.2.val < x.2.val then x.2 else l.2), by rw [List.dropLast_concat], h⟩
  · exact ⟨init ++ [l], x, rfl, Nat.le_refl _⟩
theorem cov_fold {n : Nat} : ∀ {ts init : List St} {l : St}, (l :: ts).Pairwise (fun a b => a.1.val ≤ b.1.val) → (Cov (ts.foldl stepM (init ++ [l])) n ↔ Cov (init ++ [l]) n ∨ Cov ts n)
  | [], init, l, _ => by simp [Cov]
  | x :: r, init, l, h => by
    rw [List.pairwise_cons] at h
    obtain ⟨h1, h2⟩ := h
    have hlx := h1 x (List.mem_cons_self ..)
    obtain ⟨init', l', e, hl'⟩ := step_last (init := init) hlx
    have hc := cov_step (init := init) (n := n) hlx
    rw [List.foldl_cons, e]
    have hp : (l' :: r).Pairwise (fun a b => a.1.val ≤ b.1.val) := by
      rw [List.pairwise_cons] at h2 ⊢
      exact ⟨fun y hy => Nat.le_trans hl' (h2.1 y hy), h2.2⟩
    rw [cov_fold hp, ← e, hc, show x :: r = [x] ++ r from rfl, cov_app (a := [x]), or_assoc]
theorem cov_merge {ts : List St} {n : Nat} (h : ts.Pairwise (fun a b => a.1.val ≤ b.1.val)) : Cov (mergeS ts) n ↔ Cov ts n := by
  cases ts with
  | nil => rfl
  | cons z tl =>
    have := cov_fold (n := n) (init := []) h
    simp only [List.nil_append] at this
    unfold mergeS
    rw [this, show z :: tl = [z] ++ tl from rfl, cov_app]
/-- merged stretches stay within bounds -/
def InB (N : Nat) (ts : List St) : Prop := ∀ s ∈ ts, s.1.val ≤ s.2.val ∧ s.2.val ≤ N
theorem inb_step {N : Nat} {ys : List St} {x : St} (h : InB N ys) (hx : x.1.val ≤ x.2.val ∧ x.2.val ≤ N) : InB N (stepM ys x) := by
  unfold stepM
  split
  · rename_i l hl
    have hlm : l ∈ ys := List.mem_of_getLast? hl
    have h1 := h l hlm
    split
    · intro s hs
      rcases List.mem_append.1 hs with h2 | h2
      · exact h s (List.dropLast_subset _ h2)
      · rw [List.mem_singleton] at h2
        subst h2
        dsimp only
        split
        · omega
        · exact h1
    · intro s hs
      rcases List.mem_append.1 hs with h2 | h2
      · exact h s h2
      · rw [List.mem_singleton] at h2
        subst h2
        exact hx
  · intro s hs
    rw [List.mem_singleton] at hs
    subst hs
    exact hx
theorem inb_fold {N : Nat} : ∀ {ts ys : List St}, InB N ys → InB N ts → InB N (ts.foldl stepM ys)
  | [], ys, h, _ => h
  | x :: r, ys, h, h2 => inb_fold (ts := r) (inb_step h (h2 x (List.mem_cons_self ..))) fun s hs => h2 s (List.mem_cons_of_mem _ hs)
theorem inb_merge {N : Nat} {ts : List St} (h : InB N ts) : InB N (mergeS ts) := by
  cases ts with
  | nil => exact h
  | cons z tl => exact inb_fold (fun s hs => by rw [List.mem_singleton] at hs; subst hs; exact h s (List.mem_cons_self ..)) fun s hs => h s (List.mem_cons_of_mem _ hs)
end Go.Proofs.Ytiilkiggfjpibaa
