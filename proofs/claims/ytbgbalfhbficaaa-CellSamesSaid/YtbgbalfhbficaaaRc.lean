/- A region that draws its order and holds ONE call that writes what was there, and a last store: whatever reads memory comes before the call; what may come behind it reads none. Conditions: as each theorem says. -/
import Derived.Test.YtbgbalfhbficaaaBase
namespace Go.Proofs.Ytbgbalfhbficaaa
open Go.RowKit
set_option linter.unusedVariables false
set_option linter.unusedSimpArgs false
namespace Ri
def kindOf (c : Nat) (pu : List Nat) (k : Nat) : Nat := if k = c then 2 else if pu.contains k then 1 else 0
/-- one operation that reads no memory -/
abbrev StepP (P : Program) (R : Exit → Act → World → Prop) (l : List Oper) (a : Act) (φ : Nat → Value → World → Prop) (c : Nat) (pu : List Nat) (k : Nat) (o : Oper) : Prop :=
  o.guard = none ∧ ∀ (f : Nat → Value) (w : World), (∀ j, dep l.toArray l.length k j = true → kindOf c pu j = 1 → φ j (f j) w) → ∀ A : Act, (∀ d i, ((l[i]?).bind (·.dst)) = some d → d < a.tmps.size → A.eval (.tmp d) = f i) → (∀ d, apartD (some d) l = true → A.eval (.tmp d) = a.eval (.tmp d)) →
      o.wp P A w (fun a' w' => ∃ v, a' = A.put o.dst v ∧ w' = w ∧ φ k v w) R
/-- the call that writes -/
abbrev StepC (P : Program) (R : Exit → Act → World → Prop) (l : List Oper) (a : Act) (w0 : World) (φ : Nat → Value → World → Prop) (Post : Value → World → Prop) (k : Nat) (o : Oper) : Prop :=
  o.guard = none ∧ ∀ (f : Nat → Value) (w : World), Q w0 w → (∀ j, dep l.toArray l.length k j = true → φ j (f j) w) → ∀ A : Act, (∀ d i, ((l[i]?).bind (·.dst)) = some d → d < a.tmps.size → A.eval (.tmp d) = f i) → (∀ d, apartD (some d) l = true → A.eval (.tmp d) = a.eval (.tmp d)) →
      o.wp P A w (fun a' w' => ∃ v, a' = A.put o.dst v ∧ Post v w') R
def StepK (P : Program) (R : Exit → Act → World → Prop) (l : List Oper) (a : Act) (w0 : World) (φ : Nat → Value → World → Prop) (Post : Value → World → Prop) (c : Nat) (pu : List Nat) (k : Nat) (o : Oper) : Prop :=
  (kindOf c pu k = 2 → StepC P R l a w0 φ Post k o) ∧ (kindOf c pu k = 1 → StepP P R l a φ c pu k o) ∧ (kindOf c pu k = 0 → StepG P R l a w0 φ k o)
theorem called_last {P : Program} {id : Nat} {R : Exit → Act → World → Prop} {a : Act} {w : World} {l : List Oper} {ol : Oper} (c : Nat) (pu : List Nat) (φ : Nat → Value → World → Prop) (Post : Value → World → Prop) (hm : P.follows .mixedOrders = true) (hB : chk l = true) (hl : l.getLast? = some ol)
    (hall : ((List.range l.dropLast.length).all fun j => dep l.toArray l.length l.dropLast.length j) = true) (hg : ol.guard = none) (hcl : c < l.dropLast.length)
    (hdep : ((List.range l.dropLast.length).all fun j => kindOf c pu j != 0 || dep l.toArray l.length c j) = true)
    (hmono : ∀ i v w1 w2, φ i v w1 → Q w1 w2 → φ i v w2) (hpure : ∀ i v w1 w2, kindOf c pu i = 1 → φ i v w1 → φ i v w2)
    (hstep : All (StepK P R l a w.drew φ Post c pu) 0 l.dropLast)
    (hend : ∀ f w', Post (f c) w' → (∀ j, j < l.dropLast.length → kindOf c pu j = 1 → φ j (f j) w') → ∀ A : Act, A = acts f 0 l a → (∀ d i, ((l[i]?).bind (·.dst)) = some d → d < a.tmps.size → A.eval (.tmp d) = f i) → (∀ d, apartD (some d) l = true → A.eval (.tmp d) = a.eval (.tmp d)) →
      ol.wp P A w' (fun a' w' => ∃ v, a' = A.put ol.dst v ∧ R .normal a' w') R) : (Code.region id l.toArray true).wp P R a w := by
  unfold chk at hB
  rw [Bool.and_eq_true] at hB
  obtain ⟨m, hm'⟩ : ∃ m, m = l.dropLast.length := ⟨_, rfl⟩
  have hne : l ≠ [] := fun h => by rw [h] at hl; cases hl
  have hlen : l.length = m + 1 := by
    rw [hm', List.length_dropLast]
    have := List.length_pos_iff.2 hne
    omega
  have hlast : l[m]? = some ol := by
    rw [List.getLast?_eq_getElem?] at hl
    rw [← hl]
    congr 1
    omega
  rw [← hm'] at hall hcl hdep
  have hdrop : ∀ j, j < m → ∀ o, l[j]? = some o → l.dropLast[j]? = some o := fun j hj o ho => by
    rw [List.getElem?_dropLast, if_pos (by omega)]
    exact ho
  refine wp_region_any hm ?_
  have hst : a = acts (old a l) 0 l a := start
  have hev : ∀ (f : Nat → Value) d i, ((l[i]?).bind (·.dst)) = some d → d < a.tmps.size → (acts f 0 l a).eval (.tmp d) = f i := fun f d i hdi hs => acts_get l 0 a hB.1 (Nat.zero_le _) (by simpa using hdi) hs
  have hsame : ∀ (f : Nat → Value) d, apartD (some d) l = true → (acts f 0 l a).eval (.tmp d) = a.eval (.tmp d) := fun f d hd' => acts_same l 0 a hd'
  have key := any (P := P) (ops := l.toArray) (R := R) (A := fun f => acts f 0 l a)
    (fun S f w' => if S m = true then (∀ j, j ≤ m → S j = true) ∧ R .normal (acts f 0 l a) w' else
      (∀ j, S j = false → f j = old a l j) ∧ (∀ j, j < m → S j = true → kindOf c pu j = 1 → φ j (f j) w') ∧ (if S c = true then Post (f c) w' else Q w.drew w' ∧ ∀ j, j < m → S j = true → φ j (f j) w'))
    (fun f i o v ho => acts_upd v l 0 a hB.1 (Nat.zero_le _) (by simpa using ho)) hB.2
    (fun S f w1 i o ho hSi hdepi hwait hJ => by
      have ho' : l[i]? = some o := by simpa using ho
      have hil : i < m + 1 := by rw [← hlen]; exact (List.getElem?_eq_some_iff.1 ho').1
      have hnl : ¬ S m = true := fun h => by
        rw [if_pos h] at hJ
        have := hJ.1 i (by omega)
        rw [hSi] at this
        cases this
      rw [if_neg hnl] at hJ
      obtain ⟨hold, hpu, hC⟩ := hJ
      by_cases hi : i = m
      · subst hi
        rw [hlast] at ho'
        obtain rfl := Option.some.inj ho'
        have hSj : ∀ j, j < i → S j = true := fun j hj => hdepi j (by
          have := List.all_eq_true.1 hall j (List.mem_range.2 hj)
          simpa using this)
        have hu : upd S i true i = true := by simp [upd]
        have hua : ∀ j, j ≤ i → upd S i true j = true := fun j hj => by
          unfold upd
          split
          · rfl
          · exact hSj j (by omega)
        rw [if_pos (hSj c hcl)] at hC
        have := hend f w1 hC (fun j hj hk => hpu j (by rw [hm']; exact hj) (hSj j (by rw [hm']; exact hj)) hk) _ rfl (hev f) (hsame f)
        have hp : ∀ v, (acts f 0 l a).put ol.dst v = acts (upd f i v) 0 l a := fun v => acts_upd v l 0 a hB.1 (Nat.zero_le _) (by simpa using hlast)
        rw [if_pos (by simp [Region.wanted, hg])]
        refine Oper.wp_mono (fun a' w2 ⟨v, e, hR⟩ => ⟨v, e, ?_⟩) this
        rw [if_pos hu]
        exact ⟨hua, by rw [← hp v, ← e]; exact hR⟩
      · have him : i < m := by omega
        have hs := all_get hstep (hdrop i him o ho')
        rw [Nat.zero_add] at hs
        obtain ⟨sC, sP, sG⟩ := hs
        have hu : ¬ upd S i true m = true := by
          unfold upd
          rw [if_neg (by omega)]
          exact hnl
        have hdm : ∀ j, dep l.toArray l.length i j = true → j < m := fun j hj => by
          have hSj := hdepi j (by simpa using hj)
          refine Classical.byContradiction fun hge => ?_
          by_cases e : j = m
          · rw [e] at hSj
            exact hnl hSj
          · exact absurd hj (by rw [dep_far hB.2 _ i j (by simp; omega)]; exact Bool.false_ne_true)
        have nold : ∀ v j, upd S i true j = false → upd f i v j = old a l j := fun v j hSj => by
          unfold upd at hSj ⊢
          by_cases e : j = i
          · rw [if_pos e] at hSj; cases hSj
          · rw [if_neg e] at hSj ⊢
            exact hold j hSj
        have hk : kindOf c pu i = 2 ∨ kindOf c pu i = 1 ∨ kindOf c pu i = 0 := by
          unfold kindOf
          split
          · exact .inl rfl
          · split
            · exact .inr (.inl rfl)
            · exact .inr (.inr rfl)
        rcases hk with hk | hk | hk
        · -- the call
          have hic : i = c := by
            unfold kindOf at hk
            split at hk
            · assumption
            · split at hk <;> cases hk
          subst hic
          rw [if_neg (by rw [hSi]; exact Bool.false_ne_true)] at hC
          obtain ⟨sg, sw⟩ := sC hk
          have := sw f w1 hC.1 (fun j hj => hC.2 j (hdm j hj) (hdepi j (by simpa using hj))) _ (hev f) (hsame f)
          rw [if_pos (by simp [Region.wanted, sg])]
          refine Oper.wp_mono (fun a' w2 ⟨v, e, hP⟩ => ⟨v, e, ?_⟩) this
          rw [if_neg hu]
          refine ⟨nold v, fun j hj hSj hkj => ?_, ?_⟩
          · unfold upd at hSj ⊢
            by_cases e' : j = i
            · rw [e', hk] at hkj; cases hkj
            · rw [if_neg e'] at hSj ⊢
              exact hpure j _ _ _ hkj (hpu j hj hSj hkj)
          · rw [if_pos (by simp [upd])]
            simpa [upd] using hP
        · -- no memory is read
          have hic : ¬ c = i := fun e => by
            subst e
            unfold kindOf at hk
            rw [if_pos rfl] at hk
            cases hk
          obtain ⟨sg, sw⟩ := sP hk
          have := sw f w1 (fun j hj hkj => hpu j (hdm j hj) (hdepi j (by simpa using hj)) hkj) _ (hev f) (hsame f)
          rw [if_pos (by simp [Region.wanted, sg])]
          refine Oper.wp_mono (fun a' w2 ⟨v, e, hw, hP⟩ => ⟨v, e, ?_⟩) this
          rw [if_neg hu]
          refine ⟨nold v, fun j hj hSj hkj => ?_, ?_⟩
          · subst hw
            unfold upd at hSj ⊢
            by_cases e' : j = i
            · rw [if_pos e', e']; exact hP
            · rw [if_neg e'] at hSj ⊢
              exact hpu j hj hSj hkj
          · subst hw
            have e1 : upd S i true c = S c := by simp [upd, hic]
            have e2 : upd f i v c = f c := by simp [upd, hic]
            rw [e1, e2]
            by_cases hSc : S c = true
            · rw [if_pos hSc] at hC ⊢
              exact hC
            · rw [if_neg hSc] at hC ⊢
              refine ⟨hC.1, fun j hj hSj => ?_⟩
              unfold upd at hSj ⊢
              by_cases e' : j = i
              · rw [if_pos e', e']; exact hP
              · rw [if_neg e'] at hSj ⊢
                exact hC.2 j hj hSj
        · -- memory is read: the call has not run
          have hic : ¬ c = i := fun e => by
            subst e
            unfold kindOf at hk
            rw [if_pos rfl] at hk
            cases hk
          have hSc : ¬ S c = true := by
            have h1 := List.all_eq_true.1 hdep i (List.mem_range.2 him)
            simp only [Bool.or_eq_true, bne_iff_ne, ne_eq] at h1
            rcases h1 with h1 | h1
            · exact absurd hk h1
            · rw [hwait c (by simpa using h1)]
              exact Bool.false_ne_true
          rw [if_neg hSc] at hC
          obtain ⟨sg, sw⟩ := sG hk
          have := sw f w1 hC.1 (fun j hj => hC.2 j (hdm j hj) (hdepi j (by simpa using hj))) _ (hev f) (hsame f) (fun j hj => hold j (hwait j (by simpa using hj)))
          rw [if_pos (by simp [Region.wanted, sg])]
          refine Oper.wp_mono (fun a' w2 ⟨v, e, hq, hP⟩ => ⟨v, e, ?_⟩) this
          rw [if_neg hu]
          refine ⟨nold v, fun j hj hSj hkj => ?_, ?_⟩
          · unfold upd at hSj ⊢
            by_cases e' : j = i
            · rw [e', hk] at hkj; cases hkj
            · rw [if_neg e'] at hSj ⊢
              exact hpure j _ _ _ hkj (hpu j hj hSj hkj)
          · have e1 : upd S i true c = S c := by simp [upd, hic]
            rw [e1, if_neg hSc]
            refine ⟨hC.1.trans hq, fun j hj hSj => ?_⟩
            unfold upd at hSj ⊢
            by_cases e' : j = i
            · rw [if_pos e', e']; exact hP
            · rw [if_neg e'] at hSj ⊢
              exact hmono _ _ _ _ (hC.2 j hj hSj) hq)
    (fun S f w1 hall' hJ => by
      rw [if_pos (hall' m (by simp; omega))] at hJ
      exact hJ.2)
    l.toArray.size (Array.replicate l.toArray.size false) (old a l) { w with drawn := w.drawn + 1 } (by simp) (by simp) (fun i o ho h => absurd h (by rw [getD_rep]; exact Bool.false_ne_true)) (by
      have nf : ∀ j, ¬ (Array.replicate l.toArray.size false).getD j false = true := fun j => by rw [getD_rep]; exact Bool.false_ne_true
      rw [if_neg (nf m)]
      refine ⟨fun j _ => rfl, fun j hj h => absurd h (nf j), ?_⟩
      rw [if_neg (nf c)]
      exact ⟨Q.refl _, fun j hj h => absurd h (nf j)⟩)
  rw [← hst] at key
  exact key
end Ri
end Go.Proofs.Ytbgbalfhbficaaa
