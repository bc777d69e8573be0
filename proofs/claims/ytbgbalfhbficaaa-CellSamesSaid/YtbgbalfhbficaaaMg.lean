/- A region that draws its order, in which some operations (calls) turn what they will, keeping the world in a class C: every operation by itself; some may be guarded by what another one yields; what a loud one may spoil must have been used up, or not be there yet. Conditions: as each theorem says. -/
import Derived.Test.YtbgbalfhbficaaaMt
namespace Go.Proofs.Ytbgbalfhbficaaa
open Go.RowKit
set_option linter.unusedVariables false
set_option linter.unusedSimpArgs false
namespace Ri
theorem yield_of {f : Nat → Value} {l : List Oper} {a : Act} {g d : Nat} {b : Bool} (hd : dstsB l = true) (h1 : ((l[g]?).bind (·.dst)) = some d) (h2 : d < a.tmps.size) (hf : f g = .bool b) : yielded l.toArray (acts f 0 l a).tmps g = some b := by
  have he := acts_get (f := f) l 0 a hd (Nat.zero_le g) (by simpa using h1) h2
  have hs : d < (acts f 0 l a).tmps.size := by rw [acts_size]; exact h2
  unfold yielded
  have h3 : ((l.toArray[g]?).bind (·.dst)) = some d := by simpa using h1
  rw [h3, Option.bind_some, Array.getElem?_eq_getElem hs]
  have h4 : (acts f 0 l a).tmps[d] = .bool b := by
    rw [← hf, ← he]
    simp [Act.eval, hs]
  rw [h4]
/-- an operation that is wanted: not guarded, or its guard holds -/
def Want (l : List Oper) (a : Act) (f : Nat → Value) (o : Oper) (y : Bool) : Prop := (y = true ∧ o.guard = none) ∨ ∃ g b d, o.guard = some (g, b) ∧ ((l[g]?).bind (·.dst)) = some d ∧ d < a.tmps.size ∧ f g = .bool (if y then b else !b)
theorem wanted_of {f : Nat → Value} {l : List Oper} {a : Act} {o : Oper} {y : Bool} (hd : dstsB l = true) (h : Want l a f o y) : Region.wanted o (yielded l.toArray (acts f 0 l a).tmps) = y := by
  rcases h with ⟨rfl, h⟩ | ⟨g, b, d, h1, h2, h3, h4⟩
  · simp [Region.wanted, h]
  · simp only [Region.wanted, h1]
    rw [yield_of hd h2 h3 h4]
    cases y <;> cases b <;> rfl
/-- a list's membership as a test -/
def isIn (L : List Nat) (k : Nat) : Bool := L.contains k
/-- what an operation may know of another one: it waits for it, and nothing loud that it waits for has spoilt it -/
def gotB (l : List Oper) (loud fixed : List Nat) (k j : Nat) : Bool := dep l.toArray l.length k j && (isIn fixed j || loud.all fun c => c == j || dep l.toArray l.length j c || !dep l.toArray l.length k c)
theorem got_dep {l : List Oper} {loud fixed : List Nat} {k j : Nat} (h : gotB l loud fixed k j = true) : dep l.toArray l.length k j = true := by
  unfold gotB at h
  rw [Bool.and_eq_true] at h
  exact h.1
/-- what is to be shown of an operation -/
abbrev StepZ (C : World → Prop) (loud fixed : List Nat) (P : Program) (R : Exit → Act → World → Prop) (l : List Oper) (a : Act) (φ : Nat → Value → World → Prop) (k : Nat) (o : Oper) : Prop :=
  ∀ (f : Nat → Value) (w : World), C w → (∀ j, gotB l loud fixed k j = true → φ j (f j) w) → ∀ A : Act, (∀ d i, ((l[i]?).bind (·.dst)) = some d → d < a.tmps.size → A.eval (.tmp d) = f i) → (∀ d, apartD (some d) l = true → A.eval (.tmp d) = a.eval (.tmp d)) → (∀ j, dep l.toArray l.length j k = true → f j = old a l j) →
      (Want l a f o true ∧ o.wp P A w (fun a' w' => ∃ v, a' = A.put o.dst v ∧ (if isIn loud k then C w' else Q w w') ∧ φ k v w') R) ∨ (Want l a f o false ∧ φ k undef w)
section
variable {C : World → Prop} {loud fixed : List Nat} {P : Program} {R : Exit → Act → World → Prop} {l : List Oper} {a : Act} {φ : Nat → Value → World → Prop} {k g d : Nat} {b : Bool} {o : Oper}
/-- a quiet operation, not guarded -/
theorem StepZ.q (hk : isIn loud k = false) (hg : o.guard = none)
    (h : ∀ (f : Nat → Value) (w : World), C w → (∀ j, gotB l loud fixed k j = true → φ j (f j) w) → ∀ A : Act, (∀ d i, ((l[i]?).bind (·.dst)) = some d → d < a.tmps.size → A.eval (.tmp d) = f i) → (∀ d, apartD (some d) l = true → A.eval (.tmp d) = a.eval (.tmp d)) → (∀ j, dep l.toArray l.length j k = true → f j = old a l j) →
      o.wp P A w (fun a' w' => ∃ v, a' = A.put o.dst v ∧ Q w w' ∧ φ k v w') R) : StepZ C loud fixed P R l a φ k o := fun f w hc hf A hA hB hO =>
  .inl ⟨.inl ⟨rfl, hg⟩, Oper.wp_mono (fun a' w' ⟨v, e, hq, hp⟩ => ⟨v, e, by rw [hk]; exact hq, hp⟩) (h f w hc hf A hA hB hO)⟩
/-- a loud operation, not guarded -/
theorem StepZ.c (hk : isIn loud k = true) (hg : o.guard = none)
    (h : ∀ (f : Nat → Value) (w : World), C w → (∀ j, gotB l loud fixed k j = true → φ j (f j) w) → ∀ A : Act, (∀ d i, ((l[i]?).bind (·.dst)) = some d → d < a.tmps.size → A.eval (.tmp d) = f i) → (∀ d, apartD (some d) l = true → A.eval (.tmp d) = a.eval (.tmp d)) → (∀ j, dep l.toArray l.length j k = true → f j = old a l j) →
      o.wp P A w (fun a' w' => ∃ v, a' = A.put o.dst v ∧ C w' ∧ φ k v w') R) : StepZ C loud fixed P R l a φ k o := fun f w hc hf A hA hB hO =>
  .inl ⟨.inl ⟨rfl, hg⟩, Oper.wp_mono (fun a' w' ⟨v, e, hq, hp⟩ => ⟨v, e, by rw [hk]; exact hq, hp⟩) (h f w hc hf A hA hB hO)⟩
/-- a quiet operation whose guard holds -/
theorem StepZ.gq (hk : isIn loud k = false) (hg : o.guard = some (g, b)) (h2 : ((l[g]?).bind (·.dst)) = some d) (h3 : d < a.tmps.size)
    (h : ∀ (f : Nat → Value) (w : World), C w → (∀ j, gotB l loud fixed k j = true → φ j (f j) w) → ∀ A : Act, (∀ d i, ((l[i]?).bind (·.dst)) = some d → d < a.tmps.size → A.eval (.tmp d) = f i) → (∀ d, apartD (some d) l = true → A.eval (.tmp d) = a.eval (.tmp d)) → (∀ j, dep l.toArray l.length j k = true → f j = old a l j) →
      f g = .bool b ∧ o.wp P A w (fun a' w' => ∃ v, a' = A.put o.dst v ∧ Q w w' ∧ φ k v w') R) : StepZ C loud fixed P R l a φ k o := fun f w hc hf A hA hB hO => by
  obtain ⟨e, hw⟩ := h f w hc hf A hA hB hO
  exact .inl ⟨.inr ⟨g, b, d, hg, h2, h3, e⟩, Oper.wp_mono (fun a' w' ⟨v, e, hq, hp⟩ => ⟨v, e, by rw [hk]; exact hq, hp⟩) hw⟩
/-- a loud operation whose guard holds -/
theorem StepZ.gc (hk : isIn loud k = true) (hg : o.guard = some (g, b)) (h2 : ((l[g]?).bind (·.dst)) = some d) (h3 : d < a.tmps.size)
    (h : ∀ (f : Nat → Value) (w : World), C w → (∀ j, gotB l loud fixed k j = true → φ j (f j) w) → ∀ A : Act, (∀ d i, ((l[i]?).bind (·.dst)) = some d → d < a.tmps.size → A.eval (.tmp d) = f i) → (∀ d, apartD (some d) l = true → A.eval (.tmp d) = a.eval (.tmp d)) → (∀ j, dep l.toArray l.length j k = true → f j = old a l j) →
      f g = .bool b ∧ o.wp P A w (fun a' w' => ∃ v, a' = A.put o.dst v ∧ C w' ∧ φ k v w') R) : StepZ C loud fixed P R l a φ k o := fun f w hc hf A hA hB hO => by
  obtain ⟨e, hw⟩ := h f w hc hf A hA hB hO
  exact .inl ⟨.inr ⟨g, b, d, hg, h2, h3, e⟩, Oper.wp_mono (fun a' w' ⟨v, e, hq, hp⟩ => ⟨v, e, by rw [hk]; exact hq, hp⟩) hw⟩
/-- an operation whose guard fails -/
theorem StepZ.off (hg : o.guard = some (g, b)) (h2 : ((l[g]?).bind (·.dst)) = some d) (h3 : d < a.tmps.size)
    (h : ∀ (f : Nat → Value) (w : World), C w → (∀ j, gotB l loud fixed k j = true → φ j (f j) w) → f g = .bool (!b) ∧ φ k undef w) : StepZ C loud fixed P R l a φ k o := fun f w hc hf A hA hB hO => by
  obtain ⟨e, hp⟩ := h f w hc hf
  exact .inr ⟨.inr ⟨g, b, d, hg, h2, h3, e⟩, hp⟩
end
/-- what a loud operation spoils has been used up, or is not there yet -/
def useB (l : List Oper) (loud fixed : List Nat) : Bool :=
  loud.all fun k => (List.range l.length).all fun j => j == k || isIn fixed j || dep l.toArray l.length j k || (List.range l.length).all fun i => !gotB l loud fixed i j || i == k || dep l.toArray l.length k i
theorem use_of {l : List Oper} {loud fixed : List Nat} (h : useB l loud fixed = true) {k j : Nat} (hk : isIn loud k = true) (hj : j < l.length) (hne : j ≠ k) (hf : isIn fixed j = false) (hw : dep l.toArray l.length j k = false) : ∀ i, i < l.length → gotB l loud fixed i j = true → i = k ∨ dep l.toArray l.length k i = true := fun i hi hd => by
  have h1 := List.all_eq_true.1 h k (by simpa [isIn] using hk)
  have h2 := List.all_eq_true.1 h1 j (List.mem_range.2 hj)
  have e : (j == k) = false := by simpa using hne
  rw [e, hf, hw, Bool.false_or, Bool.false_or, Bool.false_or] at h2
  have h3 := List.all_eq_true.1 h2 i (List.mem_range.2 hi)
  rw [hd] at h3
  simpa using h3
theorem madeZ {C : World → Prop} (loud fixed : List Nat) {P : Program} {id : Nat} {R : Exit → Act → World → Prop} {a : Act} {w : World} {l : List Oper} (hCq : ∀ w1 w2, C w1 → Q w1 w2 → C w2) (φ : Nat → Value → World → Prop) (hm : P.follows .mixedOrders = true) (hB : chk l = true) (hU : useB l loud fixed = true)
    (hC : C w.drew) (hmono : ∀ i v w1 w2, φ i v w1 → Q w1 w2 → φ i v w2) (hfix : ∀ i, isIn fixed i = true → ∀ v w1 w2, φ i v w1 → φ i v w2) (hstep : All (StepZ C loud fixed P R l a φ) 0 l)
    (hend : ∀ f w', C w' → (∀ j, j < l.length → isIn fixed j = true → φ j (f j) w') → R .normal (acts f 0 l a) w') : (Code.region id l.toArray true).wp P R a w := by
  unfold chk at hB
  rw [Bool.and_eq_true] at hB
  have hev : ∀ (f : Nat → Value) d i, ((l[i]?).bind (·.dst)) = some d → d < a.tmps.size → (acts f 0 l a).eval (.tmp d) = f i := fun f d i hdi hs => acts_get l 0 a hB.1 (Nat.zero_le _) (by simpa using hdi) hs
  have hsame : ∀ (f : Nat → Value) d, apartD (some d) l = true → (acts f 0 l a).eval (.tmp d) = a.eval (.tmp d) := fun f d hd' => acts_same l 0 a hd'
  refine wp_region_any hm ?_
  have hst : a = acts (old a l) 0 l a := start
  have key := any (P := P) (ops := l.toArray) (R := R) (A := fun f => acts f 0 l a) (fun S f w' => C w' ∧ (∀ j, j < l.length → S j = true → (isIn fixed j = true ∨ ∃ i, i < l.length ∧ gotB l loud fixed i j = true ∧ S i = false) → φ j (f j) w') ∧ ∀ j, S j = false → f j = old a l j)
    (fun f i o v ho => acts_upd v l 0 a hB.1 (Nat.zero_le _) (by simpa using ho)) hB.2
    (fun S f w1 i o ho hSi hdep hwait hJ => by
      have ho' : l[i]? = some o := by simpa using ho
      have hil : i < l.length := (List.getElem?_eq_some_iff.1 ho').1
      have hs := all_get hstep ho'
      rw [Nat.zero_add] at hs
      have hjl : ∀ j, dep l.toArray l.length i j = true → j < l.length := fun j hj => by
        refine Classical.byContradiction fun hge => ?_
        exact absurd hj (by rw [dep_far hB.2 l.length i j (by simpa using hge)]; exact Bool.false_ne_true)
      have hdl : ∀ j, gotB l loud fixed i j = true → φ j (f j) w1 := fun j hj => hJ.2.1 j (hjl j (got_dep hj)) (hdep j (by simpa using got_dep hj)) (.inr ⟨i, hil, hj, hSi⟩)
      have := hs f w1 hJ.1 hdl _ (hev f) (hsame f) (fun j hj => hJ.2.2 j (hwait j (by simpa using hj)))
      have grow : ∀ v w2, (if isIn loud i then C w2 else Q w1 w2) → φ i v w2 → (C w2 ∧ (∀ j, j < l.length → upd S i true j = true → (isIn fixed j = true ∨ ∃ i', i' < l.length ∧ gotB l loud fixed i' j = true ∧ upd S i true i' = false) → φ j (upd f i v j) w2) ∧ ∀ j, upd S i true j = false → upd f i v j = old a l j) := fun v w2 hq hφ => by
        refine ⟨?_, fun j hj hSj hal => ?_, fun j hSj => ?_⟩
        · cases hl : isIn loud i with
          | true => rw [hl] at hq; exact hq
          | false => rw [hl] at hq; exact hCq _ _ hJ.1 hq
        · by_cases e : j = i
          · unfold upd
            rw [if_pos e, e]
            exact hφ
          · have e1 : upd f i v j = f j := by unfold upd; rw [if_neg e]
            have e2 : S j = true := by unfold upd at hSj; rw [if_neg e] at hSj; exact hSj
            have hal0 : isIn fixed j = true ∨ ∃ i', i' < l.length ∧ gotB l loud fixed i' j = true ∧ S i' = false := by
              rcases hal with h | ⟨i', h1, h2, h3⟩
              · exact .inl h
              · refine .inr ⟨i', h1, h2, ?_⟩
                unfold upd at h3
                by_cases e3 : i' = i
                · rw [if_pos e3] at h3; cases h3
                · rw [if_neg e3] at h3; exact h3
            have hp := hJ.2.1 j hj e2 hal0
            rw [e1]
            cases hl : isIn loud i with
            | false => rw [hl] at hq; exact hmono _ _ _ _ hp hq
            | true =>
              cases hfx : isIn fixed j with
              | true => exact hfix j hfx _ _ _ hp
              | false =>
                exfalso
                cases hdj : dep l.toArray l.length j i with
                | true =>
                  have := hwait j (by simpa using hdj)
                  rw [e2] at this
                  cases this
                | false =>
                  have hu := use_of hU hl hj e hfx hdj
                  rcases hal with h | ⟨i', h1, h2, h3⟩
                  · rw [hfx] at h; cases h
                  · rcases hu i' h1 h2 with h4 | h4
                    · subst h4
                      unfold upd at h3
                      rw [if_pos rfl] at h3
                      cases h3
                    · have h5 := hdep i' (by simpa using h4)
                      unfold upd at h3
                      by_cases e3 : i' = i
                      · rw [if_pos e3] at h3; cases h3
                      · rw [if_neg e3, h5] at h3; cases h3
        · unfold upd at hSj ⊢
          by_cases e : j = i
          · rw [if_pos e] at hSj; cases hSj
          · rw [if_neg e] at hSj ⊢
            exact hJ.2.2 j hSj
      rcases this with ⟨hw, hwp⟩ | ⟨hw, hφ⟩
      · rw [if_pos (wanted_of hB.1 hw)]
        exact Oper.wp_mono (fun a' w2 ⟨v, e, hq, hφ⟩ => ⟨v, e, grow v w2 hq hφ⟩) hwp
      · rw [if_neg (by rw [wanted_of hB.1 hw]; exact Bool.false_ne_true)]
        refine grow undef w1 ?_ hφ
        cases hl : isIn loud i with
        | true => exact hJ.1
        | false => exact Q.refl _)
    (fun S f w1 hall hJ => hend f w1 hJ.1 (fun j hj hfx => hJ.2.1 j hj (hall j (by simpa using hj)) (.inl hfx)))
    l.toArray.size (Array.replicate l.toArray.size false) (old a l) { w with drawn := w.drawn + 1 } (by simp) (by simp) (fun i o ho h => absurd h (by rw [getD_rep]; exact Bool.false_ne_true)) ⟨hC, fun j hj h => absurd h (by show ¬ _ = _; dsimp only; rw [getD_rep]; exact Bool.false_ne_true), fun j _ => rfl⟩
  rw [← hst] at key
  exact key
def Fix (p : Value → World → Prop) : Prop := ∀ v w1 w2, p v w1 → p v w2
theorem fix_isV (c : Value) : Fix (isV c) := fun _ _ _ h => h
def FixL : List (Value → World → Prop) → Nat → List Nat → Prop
  | [], _, _ => True
  | p :: r, k, L => (isIn L k = true → Fix p) ∧ FixL r (k + 1) L
theorem phi_fix' : ∀ {ps : List (Value → World → Prop)} {k : Nat} {L : List Nat}, FixL ps k L → ∀ i, isIn L (k + i) = true → Fix (phi ps i)
  | [], _, _, _, i, _ => fun _ _ _ _ => trivial
  | p :: r, k, L, h, 0, hi => h.1 hi
  | p :: r, k, L, h, i + 1, hi => phi_fix' (ps := r) h.2 i (by rw [show k + 1 + i = k + (i + 1) by omega]; exact hi)
theorem phi_fix {ps : List (Value → World → Prop)} {L : List Nat} (h : FixL ps 0 L) (i : Nat) (hi : isIn L i = true) : ∀ v w1 w2, phi ps i v w1 → phi ps i v w2 := phi_fix' h i (by rw [Nat.zero_add]; exact hi)
theorem run_not {P : Program} {o : Oper} {A : Act} {w : World} {x : Operand} {t : TypeId} {b : Bool} (ho : o.op = .unOp .not t x) (hx : A.eval x = .bool b) : (execOp A.eval o).run P w = .ok (.value (.bool (!b))) w := by
  unfold execOp
  simp only [ho, hx]
  simp [go_sem]
theorem run_pick {P : Program} {o : Oper} {A : Act} {w : World} {c x y : Operand} {b : Bool} {v : Value} (ho : o.op = .pick c x y) (hc : A.eval c = .bool b) (hv : (if b then A.eval x else A.eval y) = v) : (execOp A.eval o).run P w = .ok (.value v) w := by
  unfold execOp
  simp only [ho, hc]
  cases b
  · have hv : A.eval y = v := hv
    rw [hv]
    simp [go_sem]
  · have hv : A.eval x = v := hv
    rw [hv]
    simp [go_sem]
/-- a call that keeps the class -/
theorem wp_callZ {P : Program} {R : Exit → Act → World → Prop} {o : Oper} {A : Act} {w : World} {C : World → Prop} {φ : Value → World → Prop} {f : FuncId} {fn : Func} {args : Array Operand} {ts : Array TypeId} (vals : Array Value) (ho : o.op = .call { callee := .value (.func f), args := args, argTypes := ts }) (ha : args.map A.eval = vals)
    (hfn : P.funcs[f]? = some fn) (hn : (fn.name == "runtime.NumGoroutine") = false) (hb : fn.body.isNone = false) (hc : Calls P f vals w fun e w' => ∃ v, e = .returned v ∧ C w' ∧ φ v w') : o.wp P A w (fun a' w' => ∃ v, a' = A.put o.dst v ∧ C w' ∧ φ v w') R :=
  wp_callP vals ho ha hfn hn hb (hc.mono fun e w' ⟨v, he, ht, hp⟩ => ⟨v, he, v, rfl, ht, hp⟩)
end Ri
end Go.Proofs.Ytbgbalfhbficaaa
