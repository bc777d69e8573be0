/- A region that draws its order, T being what may turn: every operation by itself. Conditions: as each theorem says. -/
import Derived.Test.YtbgbalfhbficaaaCut
import Derived.Test.YtbgbalfhbficaaaRk
namespace Go.Proofs.Ytbgbalfhbficaaa
open Go.RowKit
set_option linter.unusedVariables false
set_option linter.unusedSimpArgs false
namespace Ri
/-- what is to be shown of an operation, T being what may turn -/
abbrev StepT (T : World → World → Prop) (P : Program) (R : Exit → Act → World → Prop) (l : List Oper) (a : Act) (w0 : World) (φ : Nat → Value → World → Prop) (k : Nat) (o : Oper) : Prop :=
  o.guard = none ∧ ∀ (f : Nat → Value) (w : World), T w0 w → (∀ j, dep l.toArray l.length k j = true → φ j (f j) w) → ∀ A : Act, (∀ d i, ((l[i]?).bind (·.dst)) = some d → d < a.tmps.size → A.eval (.tmp d) = f i) → (∀ d, apartD (some d) l = true → A.eval (.tmp d) = a.eval (.tmp d)) → (∀ j, dep l.toArray l.length j k = true → f j = old a l j) →
      o.wp P A w (fun a' w' => ∃ v, a' = A.put o.dst v ∧ T w w' ∧ φ k v w') R
theorem StepT.q {T : World → World → Prop} {P : Program} {R : Exit → Act → World → Prop} {l : List Oper} {a : Act} {w0 : World} {φ : Nat → Value → World → Prop} {k : Nat} {o : Oper} (hqt : ∀ w1 w2, T w0 w1 → Q w1 w2 → T w1 w2)
    (h : o.guard = none ∧ ∀ (f : Nat → Value) (w : World), T w0 w → (∀ j, dep l.toArray l.length k j = true → φ j (f j) w) → ∀ A : Act, (∀ d i, ((l[i]?).bind (·.dst)) = some d → d < a.tmps.size → A.eval (.tmp d) = f i) → (∀ d, apartD (some d) l = true → A.eval (.tmp d) = a.eval (.tmp d)) → (∀ j, dep l.toArray l.length j k = true → f j = old a l j) →
      o.wp P A w (fun a' w' => ∃ v, a' = A.put o.dst v ∧ Q w w' ∧ φ k v w') R) : StepT T P R l a w0 φ k o :=
  ⟨h.1, fun f w ht hf A hA hB hO => Oper.wp_mono (fun a' w' ⟨v, e, hq, hp⟩ => ⟨v, e, hqt _ _ ht hq, hp⟩) (h.2 f w ht hf A hA hB hO)⟩
theorem madeT {T : World → World → Prop} {P : Program} {id : Nat} {R : Exit → Act → World → Prop} {a : Act} {w : World} {l : List Oper} (hrf : ∀ w, T w w) (htr : ∀ w1 w2 w3, T w1 w2 → T w2 w3 → T w1 w3) (φ : Nat → Value → World → Prop) (hm : P.follows .mixedOrders = true) (hB : chk l = true)
    (hmono : ∀ i v w1 w2, φ i v w1 → T w.drew w1 → T w1 w2 → φ i v w2) (hstep : All (StepT T P R l a w.drew φ) 0 l)
    (hend : ∀ f w', T w.drew w' → (∀ j, j < l.length → φ j (f j) w') → R .normal (acts f 0 l a) w') : (Code.region id l.toArray true).wp P R a w := by
  unfold chk at hB
  rw [Bool.and_eq_true] at hB
  have hev : ∀ (f : Nat → Value) d i, ((l[i]?).bind (·.dst)) = some d → d < a.tmps.size → (acts f 0 l a).eval (.tmp d) = f i := fun f d i hdi hs => acts_get l 0 a hB.1 (Nat.zero_le _) (by simpa using hdi) hs
  have hsame : ∀ (f : Nat → Value) d, apartD (some d) l = true → (acts f 0 l a).eval (.tmp d) = a.eval (.tmp d) := fun f d hd' => acts_same l 0 a hd'
  refine wp_region_any hm ?_
  have hst : a = acts (old a l) 0 l a := start
  have key := any (P := P) (ops := l.toArray) (R := R) (A := fun f => acts f 0 l a) (fun S f w' => T w.drew w' ∧ (∀ j, j < l.length → S j = true → φ j (f j) w') ∧ ∀ j, S j = false → f j = old a l j)
    (fun f i o v ho => acts_upd v l 0 a hB.1 (Nat.zero_le _) (by simpa using ho)) hB.2
    (fun S f w1 i o ho hSi hdep hwait hJ => by
      have ho' : l[i]? = some o := by simpa using ho
      have hil : i < l.length := (List.getElem?_eq_some_iff.1 ho').1
      have hs := all_get hstep ho'
      rw [Nat.zero_add] at hs
      have hdl : ∀ j, dep l.toArray l.length i j = true → φ j (f j) w1 := fun j hj => by
        have hSj := hdep j (by simpa using hj)
        refine hJ.2.1 j ?_ hSj
        refine Classical.byContradiction fun hge => ?_
        exact absurd hj (by rw [dep_far hB.2 l.length i j (by simpa using hge)]; exact Bool.false_ne_true)
      have := hs.2 f w1 hJ.1 hdl _ (hev f) (hsame f) (fun j hj => hJ.2.2 j (hwait j (by simpa using hj)))
      have grow : ∀ v w2, T w1 w2 → φ i v w2 → (T w.drew w2 ∧ (∀ j, j < l.length → upd S i true j = true → φ j (upd f i v j) w2) ∧ ∀ j, upd S i true j = false → upd f i v j = old a l j) := fun v w2 hq hφ => by
        refine ⟨htr _ _ _ hJ.1 hq, fun j hj hSj => ?_, fun j hSj => ?_⟩
        · unfold upd at hSj ⊢
          by_cases e : j = i
          · rw [if_pos e, e]; exact hφ
          · rw [if_neg e] at hSj ⊢
            exact hmono _ _ _ _ (hJ.2.1 j hj hSj) hJ.1 hq
        · unfold upd at hSj ⊢
          by_cases e : j = i
          · rw [if_pos e] at hSj; cases hSj
          · rw [if_neg e] at hSj ⊢
            exact hJ.2.2 j hSj
      rw [if_pos (by simp [Region.wanted, hs.1])]
      exact Oper.wp_mono (fun a' w2 ⟨v, e, hq, hφ⟩ => ⟨v, e, grow v w2 hq hφ⟩) this)
    (fun S f w1 hall hJ => hend f w1 hJ.1 (fun j hj => hJ.2.1 j hj (hall j (by simpa using hj))))
    l.toArray.size (Array.replicate l.toArray.size false) (old a l) { w with drawn := w.drawn + 1 } (by simp) (by simp) (fun i o ho h => absurd h (by rw [getD_rep]; exact Bool.false_ne_true)) ⟨hrf _, fun j hj h => absurd h (by show ¬ _ = _; dsimp only; rw [getD_rep]; exact Bool.false_ne_true), fun j _ => rfl⟩
  rw [← hst] at key
  exact key
def MonoT (T : World → World → Prop) (w0 : World) (p : Value → World → Prop) : Prop := ∀ v w1 w2, p v w1 → T w0 w1 → T w1 w2 → p v w2
theorem mono_isT {T : World → World → Prop} {w0 : World} (c : Value) : MonoT T w0 (isV c) := fun _ _ _ h _ _ => h
def MonoTL (T : World → World → Prop) (w0 : World) : List (Value → World → Prop) → Prop
  | [] => True
  | p :: r => MonoT T w0 p ∧ MonoTL T w0 r
theorem phi_monoT {T : World → World → Prop} {w0 : World} : ∀ {ps : List (Value → World → Prop)}, MonoTL T w0 ps → ∀ i, MonoT T w0 (phi ps i)
  | [], _, i => fun _ _ _ _ _ _ => trivial
  | p :: r, h, 0 => h.1
  | p :: r, h, i + 1 => phi_monoT (ps := r) h.2 i
/-- a call that turns what T lets turn -/
theorem wp_callT {P : Program} {R : Exit → Act → World → Prop} {o : Oper} {A : Act} {w : World} {T : World → World → Prop} {φ : Value → World → Prop} {f : FuncId} {fn : Func} {args : Array Operand} {ts : Array TypeId} (vals : Array Value) (ho : o.op = .call { callee := .value (.func f), args := args, argTypes := ts }) (ha : args.map A.eval = vals)
    (hfn : P.funcs[f]? = some fn) (hn : (fn.name == "runtime.NumGoroutine") = false) (hb : fn.body.isNone = false) (hc : Calls P f vals w fun e w' => ∃ v, e = .returned v ∧ T w w' ∧ φ v w') : o.wp P A w (fun a' w' => ∃ v, a' = A.put o.dst v ∧ T w w' ∧ φ v w') R :=
  wp_callP vals ho ha hfn hn hb (hc.mono fun e w' ⟨v, he, ht, hp⟩ => ⟨v, he, v, rfl, ht, hp⟩)
end Ri
end Go.Proofs.Ytbgbalfhbficaaa
