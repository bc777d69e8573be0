/- A region that draws its order, with one operation (a call that turns what it will) for which all that stand before it are waited for, and which all that stand behind it wait for: one walk of the lexical order serves. A region that draws its order, T being what may turn: every operation by itself. A region that draws its order, in which some operations (calls) turn what they will, keeping the world in a class C: every operation by itself; some may be guarded by what another one yields; what a loud one may spoil must have been used up, or not be there yet. A heap in plain Lean: its live blocks in ascending order, and what is looked up among them. No program. Conditions: as each theorem says. -/
import Derived.Test.YtdaklffbfadghaaGreatTm1
import Derived.Deep.Quiet
import Derived.BigQuiet
import Derived.ProofKit
namespace Go.Proofs.YtdaklffbfadghaaGreat
set_option linter.unusedVariables false
set_option linter.unusedSimpArgs false
namespace Ri
section
variable {P : Program} {R : Exit → Act → World → Prop}
theorem wpAny_more {ops : Array Oper} : ∀ (n : Nat) (L : Array Bool) (a : Act) (w : World), wpAny P .any ops R n L a w → wpAny P .any ops R (n + 1) L a w
  | 0, L, a, w, h => ⟨fun _ => h.2, fun i hi => by rw [h.1] at hi; cases hi⟩
  | n + 1, L, a, w, h => ⟨h.1, fun i hi => wpOp_mono (fun a' w' h' => wpAny_more n _ a' w' h') (h.2 i hi)⟩
theorem wpAny_mores {ops : Array Oper} {n : Nat} {L : Array Bool} {a : Act} {w : World} (h : wpAny P .any ops R n L a w) : ∀ k, wpAny P .any ops R (n + k) L a w
  | 0 => h
  | k + 1 => wpAny_more _ _ _ _ (wpAny_mores h k)
/-- the guards of the first c operations look at one of them -/
def guardB (ops : Array Oper) (c : Nat) : Bool := (List.range c).all fun i => match ops[i]? with
  | none => true
  | some o => match o.guard with
    | none => true
    | some (j, _) => decide (j < c)
def farB (ops : Array Oper) (c : Nat) : Bool := (List.range ops.size).all fun i => decide (i < c) || (List.range c).all fun j => dep ops ops.size i j
theorem far_dep {ops : Array Oper} {c i j : Nat} (h : farB ops c = true) (hi : i < ops.size) (hci : c ≤ i) (hj : j < c) : dep ops ops.size i j = true := by
  have h1 := List.all_eq_true.1 h i (List.mem_range.2 hi)
  rw [Bool.or_eq_true, decide_eq_true_eq] at h1
  rcases h1 with h1 | h1
  · omega
  · exact List.all_eq_true.1 h1 j (List.mem_range.2 hj)
/-- the first c operations, in whatever order, each quiet in a class of worlds: then what stands behind them -/
theorem any_prefix {l : List Oper} {c n : Nat} {C : World → Prop} {Qm : Act → Prop} (hc : c ≤ l.length) (hback : backB l.toArray = true) (hbackp : backB (l.take c).toArray = true) (hfar : farB l.toArray c = true) (hguard : guardB l.toArray c = true)
    (hQm : ∀ a w, C w → Qm a → ∀ L : Array Bool, L.size = l.length → (∀ j, L.getD j false = decide (j < c)) → wpAny P .any l.toArray R n L a w) :
    ∀ (fuel : Nat) (L' L : Array Bool) (a : Act) (w : World), L'.size = c → L.size = l.length → (∀ j, j < c → L.getD j false = L'.getD j false) → (∀ j, c ≤ j → L.getD j false = false) → Down l.toArray L → C w →
      wpAnyQ P .any (l.take c).toArray C Qm fuel L' a → wpAny P .any l.toArray R (fuel + n) L a w := by
  have hall : ∀ (L' L : Array Bool), L'.size = c → (∀ j, j < c → L.getD j false = L'.getD j false) → (∀ j, c ≤ j → L.getD j false = false) → Region.ready .any (l.take c).toArray L' = [] → ∀ j, L.getD j false = decide (j < c) := fun L' L hs h1 h2 hr j => by
    have h3 := all_of_ready (by simp [hs]; omega) hbackp hr
    by_cases hj : j < c
    · rw [h1 j hj, h3 j (by simp; omega)]
      simp [hj]
    · rw [h2 j (by omega)]
      simp [hj]
  intro fuel
  induction fuel with
  | zero =>
    intro L' L a w hs hsl h1 h2 hd hw h
    rw [Nat.zero_add]
    exact hQm a w hw h.2 L hsl (hall L' L hs h1 h2 h.1)
  | succ fuel ih =>
    intro L' L a w hs hsl h1 h2 hd hw h
    by_cases hr : Region.ready .any (l.take c).toArray L' = []
    · have := hQm a w hw (h.1 hr) L hsl (hall L' L hs h1 h2 hr)
      have := wpAny_mores this (fuel + 1)
      rw [Nat.add_comm] at this
      exact this
    · have hnall : ∃ j, j < c ∧ L.getD j false = false := by
        refine Classical.byContradiction fun hn => hr ?_
        cases hL : Region.ready .any (l.take c).toArray L' with
        | nil => rfl
        | cons i t =>
          exfalso
          have hi : i ∈ Region.ready .any (l.take c).toArray L' := by rw [hL]; exact List.Mem.head _
          obtain ⟨g0, o, ho, -⟩ := mem_ready.1 hi
          have hic : i < c := by
            have := (Array.getElem?_eq_some_iff.1 ho).1
            simp at this
            omega
          refine hn ⟨i, hic, ?_⟩
          rw [h1 i hic]
          simpa [hs, hic] using g0
      have hrd : ∀ i ∈ Region.ready .any l.toArray L, i < c ∧ i ∈ Region.ready .any (l.take c).toArray L' := fun i hi => by
        obtain ⟨g0, o, ho, hal⟩ := mem_ready.1 hi
        have hil : i < l.length := by simpa using (Array.getElem?_eq_some_iff.1 ho).1
        have hic : i < c := by
          refine Classical.byContradiction fun hge => ?_
          obtain ⟨j, hj, e⟩ := hnall
          have := dep_down hd l.toArray.size i j (fun o' ho' => by rw [ho] at ho'; cases ho'; exact hal) (far_dep hfar (by simpa using hil) (by omega) hj)
          rw [e] at this
          cases this
        refine ⟨hic, mem_ready.2 ⟨?_, o, ?_, fun e he hbe => ?_⟩⟩
        · have := h1 i hic
          have g0' : L.getD i false = false := by simpa [hsl, hil] using g0
          rw [g0'] at this
          simpa [hs, hic] using this.symm
        · have : l[i]? = some o := by simpa using ho
          simp [List.getElem?_take, hic, this]
        · have hb := List.all_eq_true.1 hback i (List.mem_range.2 (by simpa using hil))
          rw [ho] at hb
          simp at hb
          obtain ⟨k, hk, ek⟩ := Array.mem_iff_getElem.1 he
          have hb2 := hb k hk
          rw [ek, hbe] at hb2
          simp at hb2
          rw [← h1 _ (by omega)]
          exact hal e he hbe
      have hsuc : fuel + 1 + n = (fuel + n) + 1 := by omega
      rw [hsuc]
      refine ⟨fun h0 => ?_, fun i hi => ?_⟩
      · exfalso
        obtain ⟨j, hj, e⟩ := hnall
        have := all_of_ready (by simpa using hsl) hback h0 j (by simp; omega)
        rw [e] at this
        cases this
      · obtain ⟨hic, hi'⟩ := hrd i hi
        have hq := h.2 i hi'
        obtain ⟨g0, o, ho, hal⟩ := mem_ready.1 hi
        have ho2 : l[i]? = some o := by simpa using ho
        have hop : (l.take c).toArray[i]? = some o := by simp [List.getElem?_take, hic, ho2]
        have hil : i < l.length := (List.getElem?_eq_some_iff.1 ho2).1
        have step : ∀ a' w', C w' → wpAnyQ P .any (l.take c).toArray C Qm fuel (L'.setIfInBounds i true) a' → wpAny P .any l.toArray R (fuel + n) (L.setIfInBounds i true) a' w' := fun a' w' hw' h' => by
          refine ih (L'.setIfInBounds i true) (L.setIfInBounds i true) a' w' (by simpa using hs) (by simpa using hsl) (fun j hj => ?_) (fun j hj => ?_) (fun j oj hoj hj e he hbe => ?_) hw' h'
          · by_cases e : i = j
            · subst e
              simp [hs, hsl, hj, hil]
            · rw [getD_set_ne _ e, getD_set_ne _ e]
              exact h1 j hj
          · rw [getD_set_ne _ (by omega)]
            exact h2 j hj
          · by_cases hij : i = j
            · subst hij
              rw [ho] at hoj
              cases hoj
              exact getD_set_true (hal e he hbe)
            · rw [getD_set_ne _ hij] at hj
              exact getD_set_true (hd j oj hoj hj e he hbe)
        have hwant : Region.wanted o (yielded (l.take c).toArray a.tmps) = Region.wanted o (yielded l.toArray a.tmps) := by
          have hg := List.all_eq_true.1 hguard i (List.mem_range.2 hic)
          rw [ho] at hg
          dsimp only at hg
          unfold Region.wanted
          cases hgd : o.guard with
          | none => rfl
          | some p =>
            obtain ⟨j, want⟩ := p
            rw [hgd] at hg
            have hj : j < c := by simpa using hg
            show (yielded _ _ j == _) = (yielded _ _ j == _)
            unfold yielded
            simp [List.getElem?_take, hj]
        unfold qOp at hq
        simp only [hop] at hq
        unfold wpOp
        simp only [ho]
        rw [hwant] at hq
        split
        · rename_i hw1
          rw [if_pos hw1] at hq
          exact .inl (Oper.wp_of_quiet hw (fun a' w' hw' h' => step a' w' hw' h') hq)
        · rename_i hw1
          rw [if_neg hw1] at hq
          exact step _ _ hw hq
/-- what stands behind the call, quiet in another class -/
theorem any_suffix {l : List Oper} {c : Nat} {C : World → Prop} {a : Act} {w : World} (hns : Region.noSelect l.toArray = true) {L : Array Bool} (hlex : Region.lexFrom .any l.toArray (l.drop c).length c L = true) (hw : C w)
    (h : wpQuiet P l.toArray C (fun a' => ∀ w', C w' → R .normal a' w') (l.drop c) a) : wpAny P .any l.toArray R (l.drop c).length L a w :=
  wpAny_of_quiet (Q := fun a' => ∀ w', C w' → R .normal a' w') (fun _ w' hw' h => h w' hw') _ _ _ _ hw (wpAnyQ_lex hns (l.drop c) c L a (fun j => by simp [List.getElem?_drop]) hlex h)
def cutB (l : List Oper) (c : Nat) : Bool := decide (c < l.length) && backB l.toArray && backB (l.take c).toArray && farB l.toArray c && guardB l.toArray c && Region.lexB .any (l.take c).toArray && Region.noSelect l.toArray
  && Region.lexFrom .any l.toArray (l.drop (c + 1)).length (c + 1) (((Array.range l.length).map fun j => decide (j < c)).setIfInBounds c true) && (Region.ready .any l.toArray ((Array.range l.length).map fun j => decide (j < c)) == [c])
/-- THE REGION: quiet up to operation c, which is carried out by itself; quiet behind it -/
theorem wp_region_cut {id : Nat} {a : Act} {w : World} {l : List Oper} (c : Nat) (C : World → Prop) {oc : Oper} (hm : P.follows .mixedOrders = true) (hB : cutB l c = true) (hoc : l[c]? = some oc) (hg : oc.guard = none) (hC : C w.drew)
    (h : wpQuiet P (l.take c).toArray C (fun a' => ∀ w', C w' → oc.wp P a' w' (fun a2 w2 => ∃ C2 : World → Prop, C2 w2 ∧ wpQuiet P l.toArray C2 (fun a3 => ∀ w3, C2 w3 → R .normal a3 w3) (l.drop (c + 1)) a2) R) (l.take c) a) :
    (Code.region id l.toArray true).wp P R a w := by
  unfold cutB at hB
  simp only [Bool.and_eq_true] at hB
  obtain ⟨⟨⟨⟨⟨⟨⟨⟨b1, b2⟩, b3⟩, b4⟩, b5⟩, b6⟩, b7⟩, b8⟩, b9⟩ := hB
  have b1 := of_decide_eq_true b1
  refine wp_region_any hm ?_
  obtain ⟨L0, hL0⟩ : ∃ L0, L0 = ((Array.range l.length).map fun j => decide (j < c)) := ⟨_, rfl⟩
  rw [← hL0] at b8 b9
  have hL0s : L0.size = l.length := by rw [hL0]; simp
  have hL0g : ∀ j, L0.getD j false = decide (j < c) := fun j => by
    rw [hL0]
    by_cases hj : j < l.length
    · simp [hj]
    · simp [hj]
      omega
  have b6' := b6
  simp only [Region.lexB, Bool.and_eq_true] at b6'
  have hlen : (l.take c).length = c := by rw [List.length_take]; omega
  have hdl : (l.drop (c + 1)).length = l.length - (c + 1) := List.length_drop
  have hpre := wpAnyQ_lex (P := P) (C := C) (md := .any) b6'.1 (l.take c) 0 (Array.replicate (l.take c).toArray.size false) a (by simp) (by simpa using b6'.2) h
  have hfin := any_prefix (P := P) (R := R) (l := l) (c := c) (n := (l.drop (c + 1)).length + 1) (C := C) (by omega) b2 b3 b4 b5 (fun a' w' hw' hq L hLs hLg => ?_) (l.take c).length (Array.replicate (l.take c).toArray.size false) (Array.replicate l.toArray.size false) a { w with drawn := w.drawn + 1 } (by simp; omega) (by simp) (fun j hj => by rw [getD_rep, getD_rep]) (fun j hj => getD_rep _ _) (fun i o ho h => absurd h (by rw [getD_rep]; exact Bool.false_ne_true)) hC hpre
  · have e : (l.take c).length + ((l.drop (c + 1)).length + 1) = l.toArray.size := by rw [hlen, hdl]; simp; omega
    rw [e] at hfin
    exact hfin
  · have hLe : L = L0 := by
      apply Array.ext
      · rw [hLs, hL0s]
      · intro i h1 h2
        have e1 := hLg i
        have e2 := hL0g i
        rw [← e2] at e1
        simpa [h1, h2] using e1
    subst hLe
    have hrd : Region.ready .any l.toArray L = [c] := by simpa using b9
    refine ⟨fun h0 => (by rw [hrd] at h0; cases h0), fun i hi => ?_⟩
    rw [hrd, List.mem_singleton] at hi
    subst hi
    have hoc' : l.toArray[i]? = some oc := by simpa using hoc
    unfold wpOp
    simp only [hoc']
    rw [if_pos (by simp [Region.wanted, hg])]
    refine .inl (Oper.wp_mono (fun a2 w2 h2 => ?_) (hq w' hw'))
    obtain ⟨C2, hw2, h3⟩ := h2
    exact any_suffix b7 b8 hw2 h3
/-- a call, whatever stands behind it -/
theorem wp_callP {o : Oper} {A : Act} {w : World} {K : Act → World → Prop} {f : FuncId} {fn : Func} {args : Array Operand} {ts : Array TypeId} (vals : Array Value) (ho : o.op = .call { callee := .value (.func f), args := args, argTypes := ts }) (ha : args.map A.eval = vals)
    (hfn : P.funcs[f]? = some fn) (hn : (fn.name == "runtime.NumGoroutine") = false) (hb : fn.body.isNone = false) (hc : Calls P f vals w fun e w' => ∃ v, e = .returned v ∧ K (A.put o.dst v) w') : o.wp P A w K R := by
  have hr : (execOp A.eval o).run P w = .ok (.enter f vals) w := by
    have e : execOp A.eval o = callFunc f (#[] ++ args.map A.eval ++ #[]) := by
      unfold execOp
      rw [ho]
      rfl
    have hn' : ¬ fn.name = "runtime.NumGoroutine" := by simpa using hn
    have hb' : ¬ fn.body = none := fun h => by rw [h] at hb; cases hb
    rw [e, ha]
    simp [callFunc, hfn, hn', hb']
  unfold Oper.wp
  rw [hr]
  refine hc.mono fun e w' ⟨v, he, hφ⟩ => ?_
  subst he
  exact hφ
/-- an operation that yields nothing, by its run -/
theorem wp_skipP {o : Oper} {A : Act} {w w' : World} {K : Act → World → Prop} (h : (execOp A.eval o).run P w = .ok .skip w') (hK : K (A.put o.dst undef) w') : o.wp P A w K R := by
  unfold Oper.wp
  rw [h]
  exact hK
end
end Ri
end Go.Proofs.YtdaklffbfadghaaGreat

namespace Go.Proofs.YtdaklffbfadghaaGreat
open Go.RowKit
set_option linter.unusedVariables false
set_option linter.unusedSimpArgs false
namespace Ri
/-- what is to be shown of an operation, T being what may turn -/
abbrev StepT (T : World → World → Prop) (P : Program) (R : Exit → Act → World → Prop) (l : List Oper) (a : Act) (w0 : World) (φ : Nat → Value → World → Prop) (k : Nat) (o : Oper) : Prop :=
  o.guard = none ∧ ∀ (f : Nat → Value) (w : World), T w0 w → (∀ j, dep l.toArray l.length k j = true → φ j (f j) w) → ∀ A : Act, (∀ d i, ((l[i]?).bind (·.dst)) = some d → d < a.tmps.size → A.eval (.tmp d) = f i) → (∀ d, apartD (some d) l = true → A.eval (.tmp d) = a.eval (.tmp d)) → (∀ j, dep l.toArray l.length j k = true → f j = old a l j) →
      o.wp P A w (fun a' w' => ∃ v, a' = A.put o.dst v ∧ T w w' ∧ φ k v w') R
theorem StepT.q {T : World → World → Prop} {P : Program} {R : Exit → Act → World → Prop} {l : List Oper} {a : Act} {w0 : World} {φ : Nat → Value → World → Prop} {k : Nat} {o : Oper} (hqt : ∀ w1 w2, T w0 w1 → Q w1 w2 → T w1 w2)
    (h : o.guard = none ∧ ∀ (f : Nat → Value) (w : World), T w0 w → (∀ j, dep l.toArray l.length k j = true → φ j (f j) w) → ∀ A : Act, (∀ d i, ((l[i]?).bind (·.dst)) = some d → d < a.tmps.size → A.eval (.tmp d) = f i) → (∀ d, apartD (some d) l = true → A.eval (.tmp d) = a.eval (.tmp d)) → (∀ j, dep l.toArray l.length j k = true → f j = old a l j) →
      o.wp P A w (fun a' w' => ∃ v, a' = A.put o.dst v ∧ Q w w' ∧ φ k v w') R) : StepT T P R l a w0 φ k o :=
  ⟨h.1, fun f w ht hf A hA hB hO => Oper.wp_mono (fun a' w' ⟨v, e, hq, hp⟩ => ⟨v, e, hqt _ _ ht hq, hp⟩) (h.2 f w ht hf A hA hB hO)⟩
end Ri
end Go.Proofs.YtdaklffbfadghaaGreat

namespace Go.Proofs.YtdaklffbfadghaaGreat
open Go.RowKit
set_option linter.unusedVariables false
set_option linter.unusedSimpArgs false
namespace Ri
theorem yield_of {f : Nat → Value} {l : List Oper} {a : Act} {g d : Nat} {b : Bool} (hd : dstsB l = true) (h1 : ((l[g]?).bind (·.dst)) = some d) (h2 : d < a.tmps.size) (hf : f g = .bool b) : yielded l.toArray (acts f 0 l a).tmps g = some b := by
  have he := acts_get (f := f) l 0 a hd (Nat.zero_le g) (by simpa using h1) h2
  have hs : d < (acts f 0 l a).tmps.size := by rw [acts_size]; exact h2
  unfold yielded
  have h3 : ((l.toArray[g]?).bind (·.dst)) = some d := by simpa using h1
  rw [h3, Option.bind_some, Array.getElem?_eq_getElem hs]
  have h4 : (acts f 0 l a).tmps[d] = .bool b := by
    rw [← hf, ← he]
    simp [Act.eval, hs]
  rw [h4]
/-- an operation that is wanted: not guarded, or its guard holds -/
def Want (l : List Oper) (a : Act) (f : Nat → Value) (o : Oper) (y : Bool) : Prop := (y = true ∧ o.guard = none) ∨ ∃ g b d, o.guard = some (g, b) ∧ ((l[g]?).bind (·.dst)) = some d ∧ d < a.tmps.size ∧ f g = .bool (if y then b else !b)
theorem wanted_of {f : Nat → Value} {l : List Oper} {a : Act} {o : Oper} {y : Bool} (hd : dstsB l = true) (h : Want l a f o y) : Region.wanted o (yielded l.toArray (acts f 0 l a).tmps) = y := by
  rcases h with ⟨rfl, h⟩ | ⟨g, b, d, h1, h2, h3, h4⟩
  · simp [Region.wanted, h]
  · simp only [Region.wanted, h1]
    rw [yield_of hd h2 h3 h4]
    cases y <;> cases b <;> rfl
/-- a list's membership as a test -/
def isIn (L : List Nat) (k : Nat) : Bool := L.contains k
/-- what an operation may know of another one: it waits for it, and nothing loud that it waits for has spoilt it -/
def gotB (l : List Oper) (loud fixed : List Nat) (k j : Nat) : Bool := dep l.toArray l.length k j && (isIn fixed j || loud.all fun c => c == j || dep l.toArray l.length j c || !dep l.toArray l.length k c)
theorem got_dep {l : List Oper} {loud fixed : List Nat} {k j : Nat} (h : gotB l loud fixed k j = true) : dep l.toArray l.length k j = true := by
  unfold gotB at h
  rw [Bool.and_eq_true] at h
  exact h.1
/-- what is to be shown of an operation -/
abbrev StepZ (C : World → Prop) (loud fixed : List Nat) (P : Program) (R : Exit → Act → World → Prop) (l : List Oper) (a : Act) (φ : Nat → Value → World → Prop) (k : Nat) (o : Oper) : Prop :=
  ∀ (f : Nat → Value) (w : World), C w → (∀ j, gotB l loud fixed k j = true → φ j (f j) w) → ∀ A : Act, (∀ d i, ((l[i]?).bind (·.dst)) = some d → d < a.tmps.size → A.eval (.tmp d) = f i) → (∀ d, apartD (some d) l = true → A.eval (.tmp d) = a.eval (.tmp d)) → (∀ j, dep l.toArray l.length j k = true → f j = old a l j) →
      (Want l a f o true ∧ o.wp P A w (fun a' w' => ∃ v, a' = A.put o.dst v ∧ (if isIn loud k then C w' else Q w w') ∧ φ k v w') R) ∨ (Want l a f o false ∧ φ k undef w)
section
variable {C : World → Prop} {loud fixed : List Nat} {P : Program} {R : Exit → Act → World → Prop} {l : List Oper} {a : Act} {φ : Nat → Value → World → Prop} {k g d : Nat} {b : Bool} {o : Oper}
/-- a quiet operation, not guarded -/
theorem StepZ.q (hk : isIn loud k = false) (hg : o.guard = none)
    (h : ∀ (f : Nat → Value) (w : World), C w → (∀ j, gotB l loud fixed k j = true → φ j (f j) w) → ∀ A : Act, (∀ d i, ((l[i]?).bind (·.dst)) = some d → d < a.tmps.size → A.eval (.tmp d) = f i) → (∀ d, apartD (some d) l = true → A.eval (.tmp d) = a.eval (.tmp d)) → (∀ j, dep l.toArray l.length j k = true → f j = old a l j) →
      o.wp P A w (fun a' w' => ∃ v, a' = A.put o.dst v ∧ Q w w' ∧ φ k v w') R) : StepZ C loud fixed P R l a φ k o := fun f w hc hf A hA hB hO =>
  .inl ⟨.inl ⟨rfl, hg⟩, Oper.wp_mono (fun a' w' ⟨v, e, hq, hp⟩ => ⟨v, e, by rw [hk]; exact hq, hp⟩) (h f w hc hf A hA hB hO)⟩
/-- a loud operation, not guarded -/
theorem StepZ.c (hk : isIn loud k = true) (hg : o.guard = none)
    (h : ∀ (f : Nat → Value) (w : World), C w → (∀ j, gotB l loud fixed k j = true → φ j (f j) w) → ∀ A : Act, (∀ d i, ((l[i]?).bind (·.dst)) = some d → d < a.tmps.size → A.eval (.tmp d) = f i) → (∀ d, apartD (some d) l = true → A.eval (.tmp d) = a.eval (.tmp d)) → (∀ j, dep l.toArray l.length j k = true → f j = old a l j) →
      o.wp P A w (fun a' w' => ∃ v, a' = A.put o.dst v ∧ C w' ∧ φ k v w') R) : StepZ C loud fixed P R l a φ k o := fun f w hc hf A hA hB hO =>
  .inl ⟨.inl ⟨rfl, hg⟩, Oper.wp_mono (fun a' w' ⟨v, e, hq, hp⟩ => ⟨v, e, by rw [hk]; exact hq, hp⟩) (h f w hc hf A hA hB hO)⟩
/-- a quiet operation whose guard holds -/
theorem StepZ.gq (hk : isIn loud k = false) (hg : o.guard = some (g, b)) (h2 : ((l[g]?).bind (·.dst)) = some d) (h3 : d < a.tmps.size)
    (h : ∀ (f : Nat → Value) (w : World), C w → (∀ j, gotB l loud fixed k j = true → φ j (f j) w) → ∀ A : Act, (∀ d i, ((l[i]?).bind (·.dst)) = some d → d < a.tmps.size → A.eval (.tmp d) = f i) → (∀ d, apartD (some d) l = true → A.eval (.tmp d) = a.eval (.tmp d)) → (∀ j, dep l.toArray l.length j k = true → f j = old a l j) →
      f g = .bool b ∧ o.wp P A w (fun a' w' => ∃ v, a' = A.put o.dst v ∧ Q w w' ∧ φ k v w') R) : StepZ C loud fixed P R l a φ k o := fun f w hc hf A hA hB hO => by
  obtain ⟨e, hw⟩ := h f w hc hf A hA hB hO
  exact .inl ⟨.inr ⟨g, b, d, hg, h2, h3, e⟩, Oper.wp_mono (fun a' w' ⟨v, e, hq, hp⟩ => ⟨v, e, by rw [hk]; exact hq, hp⟩) hw⟩
/-- a loud operation whose guard holds -/
theorem StepZ.gc (hk : isIn loud k = true) (hg : o.guard = some (g, b)) (h2 : ((l[g]?).bind (·.dst)) = some d) (h3 : d < a.tmps.size)
    (h : ∀ (f : Nat → Value) (w : World), C w → (∀ j, gotB l loud fixed k j = true → φ j (f j) w) → ∀ A : Act, (∀ d i, ((l[i]?).bind (·.dst)) = some d → d < a.tmps.size → A.eval (.tmp d) = f i) → (∀ d, apartD (some d) l = true → A.eval (.tmp d) = a.eval (.tmp d)) → (∀ j, dep l.toArray l.length j k = true → f j = old a l j) →
      f g = .bool b ∧ o.wp P A w (fun a' w' => ∃ v, a' = A.put o.dst v ∧ C w' ∧ φ k v w') R) : StepZ C loud fixed P R l a φ k o := fun f w hc hf A hA hB hO => by
  obtain ⟨e, hw⟩ := h f w hc hf A hA hB hO
  exact .inl ⟨.inr ⟨g, b, d, hg, h2, h3, e⟩, Oper.wp_mono (fun a' w' ⟨v, e, hq, hp⟩ => ⟨v, e, by rw [hk]; exact hq, hp⟩) hw⟩
/-- an operation whose guard fails -/
theorem StepZ.off (hg : o.guard = some (g, b)) (h2 : ((l[g]?).bind (·.dst)) = some d) (h3 : d < a.tmps.size)
    (h : ∀ (f : Nat → Value) (w : World), C w → (∀ j, gotB l loud fixed k j = true → φ j (f j) w) → f g = .bool (!b) ∧ φ k undef w) : StepZ C loud fixed P R l a φ k o := fun f w hc hf A hA hB hO => by
  obtain ⟨e, hp⟩ := h f w hc hf
  exact .inr ⟨.inr ⟨g, b, d, hg, h2, h3, e⟩, hp⟩
end
/-- what a loud operation spoils has been used up, or is not there yet -/
def useB (l : List Oper) (loud fixed : List Nat) : Bool :=
  loud.all fun k => (List.range l.length).all fun j => j == k || isIn fixed j || dep l.toArray l.length j k || (List.range l.length).all fun i => !gotB l loud fixed i j || i == k || dep l.toArray l.length k i
theorem use_of {l : List Oper} {loud fixed : List Nat} (h : useB l loud fixed = true) {k j : Nat} (hk : isIn loud k = true) (hj : j < l.length) (hne : j ≠ k) (hf : isIn fixed j = false) (hw : dep l.toArray l.length j k = false) : ∀ i, i < l.length → gotB l loud fixed i j = true → i = k ∨ dep l.toArray l.length k i = true := fun i hi hd => by
  have h1 := List.all_eq_true.1 h k (by simpa [isIn] using hk)
  have h2 := List.all_eq_true.1 h1 j (List.mem_range.2 hj)
  have e : (j == k) = false := by simpa using hne
  rw [e, hf, hw, Bool.false_or, Bool.false_or, Bool.false_or] at h2
  have h3 := List.all_eq_true.1 h2 i (List.mem_range.2 hi)
  rw [hd] at h3
  simpa using h3
theorem madeZ {C : World → Prop} (loud fixed : List Nat) {P : Program} {id : Nat} {R : Exit → Act → World → Prop} {a : Act} {w : World} {l : List Oper} (hCq : ∀ w1 w2, C w1 → Q w1 w2 → C w2) (φ : Nat → Value → World → Prop) (hm : P.follows .mixedOrders = true) (hB : chk l = true) (hU : useB l loud fixed = true)
    (hC : C w.drew) (hmono : ∀ i v w1 w2, φ i v w1 → Q w1 w2 → φ i v w2) (hfix : ∀ i, isIn fixed i = true → ∀ v w1 w2, φ i v w1 → φ i v w2) (hstep : All (StepZ C loud fixed P R l a φ) 0 l)
    (hend : ∀ f w', C w' → (∀ j, j < l.length → isIn fixed j = true → φ j (f j) w') → R .normal (acts f 0 l a) w') : (Code.region id l.toArray true).wp P R a w := by
  unfold chk at hB
  rw [Bool.and_eq_true] at hB
  have hev : ∀ (f : Nat → Value) d i, ((l[i]?).bind (·.dst)) = some d → d < a.tmps.size → (acts f 0 l a).eval (.tmp d) = f i := fun f d i hdi hs => acts_get l 0 a hB.1 (Nat.zero_le _) (by simpa using hdi) hs
  have hsame : ∀ (f : Nat → Value) d, apartD (some d) l = true → (acts f 0 l a).eval (.tmp d) = a.eval (.tmp d) := fun f d hd' => acts_same l 0 a hd'
  refine wp_region_any hm ?_
  have hst : a = acts (old a l) 0 l a := start
  have key := any (P := P) (ops := l.toArray) (R := R) (A := fun f => acts f 0 l a) (fun S f w' => C w' ∧ (∀ j, j < l.length → S j = true → (isIn fixed j = true ∨ ∃ i, i < l.length ∧ gotB l loud fixed i j = true ∧ S i = false) → φ j (f j) w') ∧ ∀ j, S j = false → f j = old a l j)
    (fun f i o v ho => acts_upd v l 0 a hB.1 (Nat.zero_le _) (by simpa using ho)) hB.2
    (fun S f w1 i o ho hSi hdep hwait hJ => by
      have ho' : l[i]? = some o := by simpa using ho
      have hil : i < l.length := (List.getElem?_eq_some_iff.1 ho').1
      have hs := all_get hstep ho'
      rw [Nat.zero_add] at hs
      have hjl : ∀ j, dep l.toArray l.length i j = true → j < l.length := fun j hj => by
        refine Classical.byContradiction fun hge => ?_
        exact absurd hj (by rw [dep_far hB.2 l.length i j (by simpa using hge)]; exact Bool.false_ne_true)
      have hdl : ∀ j, gotB l loud fixed i j = true → φ j (f j) w1 := fun j hj => hJ.2.1 j (hjl j (got_dep hj)) (hdep j (by simpa using got_dep hj)) (.inr ⟨i, hil, hj, hSi⟩)
      have := hs f w1 hJ.1 hdl _ (hev f) (hsame f) (fun j hj => hJ.2.2 j (hwait j (by simpa using hj)))
      have grow : ∀ v w2, (if isIn loud i then C w2 else Q w1 w2) → φ i v w2 → (C w2 ∧ (∀ j, j < l.length → upd S i true j = true → (isIn fixed j = true ∨ ∃ i', i' < l.length ∧ gotB l loud fixed i' j = true ∧ upd S i true i' = false) → φ j (upd f i v j) w2) ∧ ∀ j, upd S i true j = false → upd f i v j = old a l j) := fun v w2 hq hφ => by
        refine ⟨?_, fun j hj hSj hal => ?_, fun j hSj => ?_⟩
        · cases hl : isIn loud i with
          | true => rw [hl] at hq; exact hq
          | false => rw [hl] at hq; exact hCq _ _ hJ.1 hq
        · by_cases e : j = i
          · unfold upd
            rw [if_pos e, e]
            exact hφ
          · have e1 : upd f i v j = f j := by unfold upd; rw [if_neg e]
            have e2 : S j = true := by unfold upd at hSj; rw [if_neg e] at hSj; exact hSj
            have hal0 : isIn fixed j = true ∨ ∃ i', i' < l.length ∧ gotB l loud fixed i' j = true ∧ S i' = false := by
              rcases hal with h | ⟨i', h1, h2, h3⟩
              · exact .inl h
              · refine .inr ⟨i', h1, h2, ?_⟩
                unfold upd at h3
                by_cases e3 : i' = i
                · rw [if_pos e3] at h3; cases h3
                · rw [if_neg e3] at h3; exact h3
            have hp := hJ.2.1 j hj e2 hal0
            rw [e1]
            cases hl : isIn loud i with
            | false => rw [hl] at hq; exact hmono _ _ _ _ hp hq
            | true =>
              cases hfx : isIn fixed j with
              | true => exact hfix j hfx _ _ _ hp
              | false =>
                exfalso
                cases hdj : dep l.toArray l.length j i with
                | true =>
                  have := hwait j (by simpa using hdj)
                  rw [e2] at this
                  cases this
                | false =>
                  have hu := use_of hU hl hj e hfx hdj
                  rcases hal with h | ⟨i', h1, h2, h3⟩
                  · rw [hfx] at h; cases h
                  · rcases hu i' h1 h2 with h4 | h4
                    · subst h4
                      unfold upd at h3
                      rw [if_pos rfl] at h3
                      cases h3
                    · have h5 := hdep i' (by simpa using h4)
                      unfold upd at h3
                      by_cases e3 : i' = i
                      · rw [if_pos e3] at h3; cases h3
                      · rw [if_neg e3, h5] at h3; cases h3
        · unfold upd at hSj ⊢
          by_cases e : j = i
          · rw [if_pos e] at hSj; cases hSj
          · rw [if_neg e] at hSj ⊢
            exact hJ.2.2 j hSj
      rcases this with ⟨hw, hwp⟩ | ⟨hw, hφ⟩
      · rw [if_pos (wanted_of hB.1 hw)]
        exact Oper.wp_mono (fun a' w2 ⟨v, e, hq, hφ⟩ => ⟨v, e, grow v w2 hq hφ⟩) hwp
      · rw [if_neg (by rw [wanted_of hB.1 hw]; exact Bool.false_ne_true)]
        refine grow undef w1 ?_ hφ
        cases hl : isIn loud i with
        | true => exact hJ.1
        | false => exact Q.refl _)
    (fun S f w1 hall hJ => hend f w1 hJ.1 (fun j hj hfx => hJ.2.1 j hj (hall j (by simpa using hj)) (.inl hfx)))
    l.toArray.size (Array.replicate l.toArray.size false) (old a l) { w with drawn := w.drawn + 1 } (by simp) (by simp) (fun i o ho h => absurd h (by rw [getD_rep]; exact Bool.false_ne_true)) ⟨hC, fun j hj h => absurd h (by show ¬ _ = _; dsimp only; rw [getD_rep]; exact Bool.false_ne_true), fun j _ => rfl⟩
  rw [← hst] at key
  exact key
def Fix (p : Value → World → Prop) : Prop := ∀ v w1 w2, p v w1 → p v w2
theorem fix_isV (c : Value) : Fix (isV c) := fun _ _ _ h => h
def FixL : List (Value → World → Prop) → Nat → List Nat → Prop
  | [], _, _ => True
  | p :: r, k, L => (isIn L k = true → Fix p) ∧ FixL r (k + 1) L
theorem phi_fix' : ∀ {ps : List (Value → World → Prop)} {k : Nat} {L : List Nat}, FixL ps k L → ∀ i, isIn L (k + i) = true → Fix (phi ps i)
  | [], _, _, _, i, _ => fun _ _ _ _ => trivial
  | p :: r, k, L, h, 0, hi => h.1 hi
  | p :: r, k, L, h, i + 1, hi => phi_fix' (ps := r) h.2 i (by rw [show k + 1 + i = k + (i + 1) by omega]; exact hi)
theorem phi_fix {ps : List (Value → World → Prop)} {L : List Nat} (h : FixL ps 0 L) (i : Nat) (hi : isIn L i = true) : ∀ v w1 w2, phi ps i v w1 → phi ps i v w2 := phi_fix' h i (by rw [Nat.zero_add]; exact hi)
theorem run_not {P : Program} {o : Oper} {A : Act} {w : World} {x : Operand} {t : TypeId} {b : Bool} (ho : o.op = .unOp .not t x) (hx : A.eval x = .bool b) : (execOp A.eval o).run P w = .ok (.value (.bool (!b))) w := by
  unfold execOp
  simp only [ho, hx]
  simp [go_sem]
theorem run_pick {P : Program} {o : Oper} {A : Act} {w : World} {c x y : Operand} {b : Bool} {v : Value} (ho : o.op = .pick c x y) (hc : A.eval c = .bool b) (hv : (if b then A.eval x else A.eval y) = v) : (execOp A.eval o).run P w = .ok (.value v) w := by
  unfold execOp
  simp only [ho, hc]
  cases b
  · have hv : A.eval y = v := hv
    rw [hv]
    simp [go_sem]
  · have hv : A.eval x = v := hv
    rw [hv]
    simp [go_sem]
/-- a call that keeps the class -/
theorem wp_callZ {P : Program} {R : Exit → Act → World → Prop} {o : Oper} {A : Act} {w : World} {C : World → Prop} {φ : Value → World → Prop} {f : FuncId} {fn : Func} {args : Array Operand} {ts : Array TypeId} (vals : Array Value) (ho : o.op = .call { callee := .value (.func f), args := args, argTypes := ts }) (ha : args.map A.eval = vals)
    (hfn : P.funcs[f]? = some fn) (hn : (fn.name == "runtime.NumGoroutine") = false) (hb : fn.body.isNone = false) (hc : Calls P f vals w fun e w' => ∃ v, e = .returned v ∧ C w' ∧ φ v w') : o.wp P A w (fun a' w' => ∃ v, a' = A.put o.dst v ∧ C w' ∧ φ v w') R :=
  wp_callP vals ho ha hfn hn hb (hc.mono fun e w' ⟨v, he, ht, hp⟩ => ⟨v, he, v, rfl, ht, hp⟩)
end Ri
end Go.Proofs.YtdaklffbfadghaaGreat

namespace Go.Proofs.YtdaklffbfadghaaGreat.HP
set_option linter.unusedVariables false
/-- a live block: where it begins, and its bytes (-1: not defined) -/
abbrev PB := Int × List Int
def pend (x : PB) : Int := x.1 + (x.2.length : Int)
/-- no byte from 'a' up to below 'b' is in a live block but one -/
def clash (a b but : Int) (x : PB) : Bool := decide (x.1 ≠ but) && (decide (x.1 < b) && decide (a < pend x))
def freeB (size : Int) (l : List PB) (a b but : Int) : Bool := !decide (size < b) && !(l.any (clash a b but))
def used : List PB → Int
  | [] => 0
  | x :: r => (x.2.length : Int) + used r
theorem used_append : ∀ (a b : List PB), used (a ++ b) = used a + used b
  | [], b => by simp [used]
  | x :: a, b => by simp [used, used_append a b]; omega
theorem used_nonneg : ∀ l : List PB, 0 ≤ used l
  | [] => by simp [used]
  | x :: r => by have := used_nonneg r; simp only [used]; omega
theorem used_le : ∀ (l : List PB) (M : Int), (∀ x ∈ l, (x.2.length : Int) ≤ M) → used l ≤ l.length * M
  | [], M, _ => by simp [used]
  | x :: r, M, h => by
    have h1 := h x (by simp)
    have h2 := used_le r M (fun y hy => h y (by simp [hy]))
    simp only [used, List.length_cons]
    have : ((r.length + 1 : Nat) : Int) * M = r.length * M + M := by push_cast; rw [Int.add_mul]; omega
    omega
theorem used_take_succ (l : List PB) (k : Nat) (x : PB) (h : l[k]? = some x) : used (l.take (k + 1)) = used (l.take k) + (x.2.length : Int) := by
  rw [List.take_add_one, h, used_append]
  simp [used]
theorem used_take_le (l : List PB) (k : Nat) : used (l.take k) ≤ used l := by
  have := used_append (l.take k) (l.drop k)
  rw [List.take_append_drop] at this
  have := used_nonneg (l.drop k)
  omega
/-- in ascending order, none over another one -/
def sorted (l : List PB) : Prop := l.Pairwise fun x y => pend x ≤ y.1
/-- how many begin below a place -/
def below (l : List PB) (at_ : Int) : Nat := l.countP fun x => decide (x.1 < at_)
def has (l : List PB) (at_ : Int) : Bool := l.any fun x => x.1 == at_
/-- every block is of the heap -/
structure Fit (size : Int) (l : List PB) : Prop where
  sz : 1 ≤ size ∧ size ≤ 4096
  inn : ∀ x ∈ l, 0 ≤ x.1 ∧ 1 ≤ x.2.length ∧ pend x ≤ size
  ord : sorted l
theorem Fit.nil {size : Int} (h : 1 ≤ size ∧ size ≤ 4096) : Fit size [] := ⟨h, (fun x hx => by cases hx), List.Pairwise.nil⟩
theorem Fit.lt {size : Int} {l : List PB} (h : Fit size l) {i j : Nat} {x y : PB} (hx : l[i]? = some x) (hy : l[j]? = some y) (hij : i < j) : x.1 < y.1 ∧ pend x ≤ y.1 := by
  obtain ⟨hi, rfl⟩ := List.getElem?_eq_some_iff.1 hx
  obtain ⟨hj, rfl⟩ := List.getElem?_eq_some_iff.1 hy
  have h1 := (List.pairwise_iff_getElem.1 h.ord) i j hi hj hij
  have h2 := h.inn l[i] (List.getElem_mem hi)
  refine ⟨?_, h1⟩
  unfold pend at h1
  omega
/-- where the blocks that begin below a place end -/
theorem below_eq {size : Int} {l : List PB} (h : Fit size l) (at_ : Int) (k : Nat) (hk : k ≤ l.length) (h1 : ∀ j x, j < k → l[j]? = some x → x.1 < at_) (h2 : ∀ j x, k ≤ j → l[j]? = some x → at_ ≤ x.1) : below l at_ = k := by
  have e : l = l.take k ++ l.drop k := (List.take_append_drop k l).symm
  unfold below
  rw [e, List.countP_append]
  have a1 : (l.take k).countP (fun x => decide (x.1 < at_)) = (l.take k).length := by
    rw [List.countP_eq_length]
    intro x hx
    obtain ⟨j, hj, rfl⟩ := List.getElem_of_mem hx
    have hj' := hj
    rw [List.length_take] at hj
    simpa using h1 j l[j] (by omega) (List.getElem?_eq_getElem (by omega))
  have a2 : (l.drop k).countP (fun x => decide (x.1 < at_)) = 0 := by
    rw [List.countP_eq_zero]
    intro x hx
    obtain ⟨j, hj, rfl⟩ := List.getElem_of_mem hx
    rw [List.length_drop] at hj
    have := h2 (k + j) l[k + j] (by omega) (List.getElem?_eq_getElem (by omega))
    simp
    omega
  rw [a1, a2, List.length_take]
  omega
theorem below_le (l : List PB) (at_ : Int) : below l at_ ≤ l.length := List.countP_le_length
theorem Fit.tail {size : Int} {x : PB} {l : List PB} (h : Fit size (x :: l)) : Fit size l := ⟨h.sz, fun y hy => h.inn y (by simp [hy]), (List.pairwise_cons.1 h.ord).2⟩
theorem below_spec {size : Int} : ∀ {l : List PB} (h : Fit size l) (at_ : Int), (∀ (j : Nat) (x : PB), j < below l at_ → l[j]? = some x → x.1 < at_) ∧ (∀ (j : Nat) (x : PB), below l at_ ≤ j → l[j]? = some x → at_ ≤ x.1)
  | [], _, _ => ⟨fun j x _ h => by simp at h, fun j x _ h => by simp at h⟩
  | y :: r, h, at_ => by
    obtain ⟨i1, i2⟩ := below_spec h.tail at_
    by_cases hy : y.1 < at_
    · have e : below (y :: r) at_ = below r at_ + 1 := by unfold below; rw [List.countP_cons]; simp [hy]
      rw [e]
      refine ⟨fun j x hj hx => ?_, fun j x hj hx => ?_⟩
      · cases j with
        | zero => simp at hx; subst hx; exact hy
        | succ j => exact i1 j x (by omega) (by simpa using hx)
      · cases j with
        | zero => omega
        | succ j => exact i2 j x (by omega) (by simpa using hx)
    · have hall : ∀ x ∈ r, at_ ≤ x.1 := fun x hx => by
        have h1 := (List.pairwise_cons.1 h.ord).1 x hx
        have h2 := h.inn y (by simp)
        unfold pend at h1
        omega
      have e : below (y :: r) at_ = 0 := by
        unfold below
        rw [List.countP_eq_zero]
        intro x hx
        rcases List.mem_cons.1 hx with rfl | hx
        · simpa using hy
        · have := hall x hx
          simp
          omega
      rw [e]
      refine ⟨fun j x hj => by omega, fun j x _ hx => ?_⟩
      cases j with
      | zero => simp at hx; subst hx; omega
      | succ j => exact hall x (List.mem_of_getElem? (by simpa using hx))
theorem has_iff {size : Int} {l : List PB} (h : Fit size l) (at_ : Int) : has l at_ = true ↔ ∃ x, l[below l at_]? = some x ∧ x.1 = at_ := by
  obtain ⟨h1, h2⟩ := below_spec h at_
  unfold has
  rw [List.any_eq_true]
  constructor
  · rintro ⟨x, hx, he⟩
    have he : x.1 = at_ := by simpa using he
    obtain ⟨j, hj, rfl⟩ := List.getElem_of_mem hx
    have hge : below l at_ ≤ j := by
      rcases Nat.lt_or_ge j (below l at_) with h3 | h3
      · have := h1 j _ h3 (List.getElem?_eq_getElem hj)
        omega
      · exact h3
    rcases Nat.lt_or_eq_of_le hge with h3 | h3
    · have hb : below l at_ < l.length := by omega
      have h4 := h2 (below l at_) l[below l at_] (Nat.le_refl _) (List.getElem?_eq_getElem hb)
      have h5 := (h.lt (List.getElem?_eq_getElem hb) (List.getElem?_eq_getElem hj) h3).1
      omega
    · exact ⟨_, by rw [h3]; exact List.getElem?_eq_getElem hj, he⟩
  · rintro ⟨x, hx, he⟩
    exact ⟨x, List.mem_of_getElem? hx, by simpa using he⟩
end Go.Proofs.YtdaklffbfadghaaGreat.HP
