/- A region that draws its order, with one operation (a call that turns what it will) for which all that stand before it are waited for, and which all that stand behind it wait for: one walk of the lexical order serves. Conditions: as each theorem says. -/
import Derived.Test.YtbgbalfhbficaaaBase
import Derived.Deep.Quiet
import Derived.BigQuiet
namespace Go.Proofs.Ytbgbalfhbficaaa
set_option linter.unusedVariables false
set_option linter.unusedSimpArgs false
namespace Ri
section
variable {P : Program} {R : Exit → Act → World → Prop}
theorem wpAny_more {ops : Array Oper} : ∀ (n : Nat) (L : Array Bool) (a : Act) (w : World), wpAny P .any ops R n L a w → wpAny P .any ops R (n + 1) L a w
  | 0, L, a, w, h => ⟨fun _ => h.2, fun i hi => by rw [h.1] at hi; cases hi⟩
  | n + 1, L, a, w, h => ⟨h.1, fun i hi => wpOp_mono (fun a' w' h' => wpAny_more n _ a' w' h') (h.2 i hi)⟩
theorem wpAny_mores {ops : Array Oper} {n : Nat} {L : Array Bool} {a : Act} {w : World} (h : wpAny P .any ops R n L a w) : ∀ k, wpAny P .any ops R (n + k) L a w
  | 0 => h
  | k + 1 => wpAny_more _ _ _ _ (wpAny_mores h k)
/-- the guards of the first c operations look at one of them -/
def guardB (ops : Array Oper) (c : Nat) : Bool := (List.range c).all fun i => match ops[i]? with
  | none => true
  | some o => match o.guard with
    | none => true
    | some (j, _) => decide (j < c)
def farB (ops : Array Oper) (c : Nat) : Bool := (List.range ops.size).all fun i => decide (i < c) || (List.range c).all fun j => dep ops ops.size i j
theorem far_dep {ops : Array Oper} {c i j : Nat} (h : farB ops c = true) (hi : i < ops.size) (hci : c ≤ i) (hj : j < c) : dep ops ops.size i j = true := by
  have h1 := List.all_eq_true.1 h i (List.mem_range.2 hi)
  rw [Bool.or_eq_true, decide_eq_true_eq] at h1
  rcases h1 with h1 | h1
  · omega
  · exact List.all_eq_true.1 h1 j (List.mem_range.2 hj)
/-- the first c operations, in whatever order, each quiet in a class of worlds: then what stands behind them -/
theorem any_prefix {l : List Oper} {c n : Nat} {C : World → Prop} {Qm : Act → Prop} (hc : c ≤ l.length) (hback : backB l.toArray = true) (hbackp : backB (l.take c).toArray = true) (hfar : farB l.toArray c = true) (hguard : guardB l.toArray c = true)
    (hQm : ∀ a w, C w → Qm a → ∀ L : Array Bool, L.size = l.length → (∀ j, L.getD j false = decide (j < c)) → wpAny P .any l.toArray R n L a w) :
    ∀ (fuel : Nat) (L' L : Array Bool) (a : Act) (w : World), L'.size = c → L.size = l.length → (∀ j, j < c → L.getD j false = L'.getD j false) → (∀ j, c ≤ j → L.getD j false = false) → Down l.toArray L → C w →
      wpAnyQ P .any (l.take c).toArray C Qm fuel L' a → wpAny P .any l.toArray R (fuel + n) L a w := by
  have hall : ∀ (L' L : Array Bool), L'.size = c → (∀ j, j < c → L.getD j false = L'.getD j false) → (∀ j, c ≤ j → L.getD j false = false) → Region.ready .any (l.take c).toArray L' = [] → ∀ j, L.getD j false = decide (j < c) := fun L' L hs h1 h2 hr j => by
    have h3 := all_of_ready (by simp [hs]; omega) hbackp hr
    by_cases hj : j < c
    · rw [h1 j hj, h3 j (by simp; omega)]
      simp [hj]
    · rw [h2 j (by omega)]
      simp [hj]
  intro fuel
  induction fuel with
  | zero =>
    intro L' L a w hs hsl h1 h2 hd hw h
    rw [Nat.zero_add]
    exact hQm a w hw h.2 L hsl (hall L' L hs h1 h2 h.1)
  | succ fuel ih =>
    intro L' L a w hs hsl h1 h2 hd hw h
    by_cases hr : Region.ready .any (l.take c).toArray L' = []
    · have := hQm a w hw (h.1 hr) L hsl (hall L' L hs h1 h2 hr)
      have := wpAny_mores this (fuel + 1)
      rw [Nat.add_comm] at this
      exact this
    · have hnall : ∃ j, j < c ∧ L.getD j false = false := by
        refine Classical.byContradiction fun hn => hr ?_
        cases hL : Region.ready .any (l.take c).toArray L' with
        | nil => rfl
        | cons i t =>
          exfalso
          have hi : i ∈ Region.ready .any (l.take c).toArray L' := by rw [hL]; exact List.Mem.head _
          obtain ⟨g0, o, ho, -⟩ := mem_ready.1 hi
          have hic : i < c := by
            have := (Array.getElem?_eq_some_iff.1 ho).1
            simp at this
            omega
          refine hn ⟨i, hic, ?_⟩
          rw [h1 i hic]
          simpa [hs, hic] using g0
      have hrd : ∀ i ∈ Region.ready .any l.toArray L, i < c ∧ i ∈ Region.ready .any (l.take c).toArray L' := fun i hi => by
        obtain ⟨g0, o, ho, hal⟩ := mem_ready.1 hi
        have hil : i < l.length := by simpa using (Array.getElem?_eq_some_iff.1 ho).1
        have hic : i < c := by
          refine Classical.byContradiction fun hge => ?_
          obtain ⟨j, hj, e⟩ := hnall
          have := dep_down hd l.toArray.size i j (fun o' ho' => by rw [ho] at ho'; cases ho'; exact hal) (far_dep hfar (by simpa using hil) (by omega) hj)
          rw [e] at this
          cases this
        refine ⟨hic, mem_ready.2 ⟨?_, o, ?_, fun e he hbe => ?_⟩⟩
        · have := h1 i hic
          have g0' : L.getD i false = false := by simpa [hsl, hil] using g0
          rw [g0'] at this
          simpa [hs, hic] using this.symm
        · have : l[i]? = some o := by simpa using ho
          simp [List.getElem?_take, hic, this]
        · have hb := List.all_eq_true.1 hback i (List.mem_range.2 (by simpa using hil))
          rw [ho] at hb
          simp at hb
          obtain ⟨k, hk, ek⟩ := Array.mem_iff_getElem.1 he
          have hb2 := hb k hk
          rw [ek, hbe] at hb2
          simp at hb2
          rw [← h1 _ (by omega)]
          exact hal e he hbe
      have hsuc : fuel + 1 + n = (fuel + n) + 1 := by omega
      rw [hsuc]
      refine ⟨fun h0 => ?_, fun i hi => ?_⟩
      · exfalso
        obtain ⟨j, hj, e⟩ := hnall
        have := all_of_ready (by simpa using hsl) hback h0 j (by simp; omega)
        rw [e] at this
        cases this
      · obtain ⟨hic, hi'⟩ := hrd i hi
        have hq := h.2 i hi'
        obtain ⟨g0, o, ho, hal⟩ := mem_ready.1 hi
        have ho2 : l[i]? = some o := by simpa using ho
        have hop : (l.take c).toArray[i]? = some o := by simp [List.getElem?_take, hic, ho2]
        have hil : i < l.length := (List.getElem?_eq_some_iff.1 ho2).1
        have step : ∀ a' w', C w' → wpAnyQ P .any (l.take c).toArray C Qm fuel (L'.setIfInBounds i true) a' → wpAny P .any l.toArray R (fuel + n) (L.setIfInBounds i true) a' w' := fun a' w' hw' h' => by
          refine ih (L'.setIfInBounds i true) (L.setIfInBounds i true) a' w' (by simpa using hs) (by simpa using hsl) (fun j hj => ?_) (fun j hj => ?_) (fun j oj hoj hj e he hbe => ?_) hw' h'
          · by_cases e : i = j
            · subst e
              simp [hs, hsl, hj, hil]
            · rw [getD_set_ne _ e, getD_set_ne _ e]
              exact h1 j hj
          · rw [getD_set_ne _ (by omega)]
            exact h2 j hj
          · by_cases hij : i = j
            · subst hij
              rw [ho] at hoj
              cases hoj
              exact getD_set_true (hal e he hbe)
            · rw [getD_set_ne _ hij] at hj
              exact getD_set_true (hd j oj hoj hj e he hbe)
        have hwant : Region.wanted o (yielded (l.take c).toArray a.tmps) = Region.wanted o (yielded l.toArray a.tmps) := by
          have hg := List.all_eq_true.1 hguard i (List.mem_range.2 hic)
          rw [ho] at hg
          dsimp only at hg
          unfold Region.wanted
          cases hgd : o.guard with
          | none => rfl
          | some p =>
            obtain ⟨j, want⟩ := p
            rw [hgd] at hg
            have hj : j < c := by simpa using hg
            show (yielded _ _ j == _) = (yielded _ _ j == _)
            unfold yielded
            simp [List.getElem?_take, hj]
        unfold qOp at hq
        simp only [hop] at hq
        unfold wpOp
        simp only [ho]
        rw [hwant] at hq
        split
        · rename_i hw1
          rw [if_pos hw1] at hq
          exact .inl (Oper.wp_of_quiet hw (fun a' w' hw' h' => step a' w' hw' h') hq)
        · rename_i hw1
          rw [if_neg hw1] at hq
          exact step _ _ hw hq
/-- what stands behind the call, quiet in another class -/
theorem any_suffix {l : List Oper} {c : Nat} {C : World → Prop} {a : Act} {w : World} (hns : Region.noSelect l.toArray = true) {L : Array Bool} (hlex : Region.lexFrom .any l.toArray (l.drop c).length c L = true) (hw : C w)
    (h : wpQuiet P l.toArray C (fun a' => ∀ w', C w' → R .normal a' w') (l.drop c) a) : wpAny P .any l.toArray R (l.drop c).length L a w :=
  wpAny_of_quiet (Q := fun a' => ∀ w', C w' → R .normal a' w') (fun _ w' hw' h => h w' hw') _ _ _ _ hw (wpAnyQ_lex hns (l.drop c) c L a (fun j => by simp [List.getElem?_drop]) hlex h)
def cutB (l : List Oper) (c : Nat) : Bool := decide (c < l.length) && backB l.toArray && backB (l.take c).toArray && farB l.toArray c && guardB l.toArray c && Region.lexB .any (l.take c).toArray && Region.noSelect l.toArray
  && Region.lexFrom .any l.toArray (l.drop (c + 1)).length (c + 1) (((Array.range l.length).map fun j => decide (j < c)).setIfInBounds c true) && (Region.ready .any l.toArray ((Array.range l.length).map fun j => decide (j < c)) == [c])
/-- THE REGION: quiet up to operation c, which is carried out by itself; quiet behind it -/
theorem wp_region_cut {id : Nat} {a : Act} {w : World} {l : List Oper} (c : Nat) (C : World → Prop) {oc : Oper} (hm : P.follows .mixedOrders = true) (hB : cutB l c = true) (hoc : l[c]? = some oc) (hg : oc.guard = none) (hC : C w.drew)
    (h : wpQuiet P (l.take c).toArray C (fun a' => ∀ w', C w' → oc.wp P a' w' (fun a2 w2 => ∃ C2 : World → Prop, C2 w2 ∧ wpQuiet P l.toArray C2 (fun a3 => ∀ w3, C2 w3 → R .normal a3 w3) (l.drop (c + 1)) a2) R) (l.take c) a) :
    (Code.region id l.toArray true).wp P R a w := by
  unfold cutB at hB
  simp only [Bool.and_eq_true] at hB
  obtain ⟨⟨⟨⟨⟨⟨⟨⟨b1, b2⟩, b3⟩, b4⟩, b5⟩, b6⟩, b7⟩, b8⟩, b9⟩ := hB
  have b1 := of_decide_eq_true b1
  refine wp_region_any hm ?_
  obtain ⟨L0, hL0⟩ : ∃ L0, L0 = ((Array.range l.length).map fun j => decide (j < c)) := ⟨_, rfl⟩
  rw [← hL0] at b8 b9
  have hL0s : L0.size = l.length := by rw [hL0]; simp
  have hL0g : ∀ j, L0.getD j false = decide (j < c) := fun j => by
    rw [hL0]
    by_cases hj : j < l.length
    · simp [hj]
    · simp [hj]
      omega
  have b6' := b6
  simp only [Region.lexB, Bool.and_eq_true] at b6'
  have hlen : (l.take c).length = c := by rw [List.length_take]; omega
  have hdl : (l.drop (c + 1)).length = l.length - (c + 1) := List.length_drop
  have hpre := wpAnyQ_lex (P := P) (C := C) (md := .any) b6'.1 (l.take c) 0 (Array.replicate (l.take c).toArray.size false) a (by simp) (by simpa using b6'.2) h
  have hfin := any_prefix (P := P) (R := R) (l := l) (c := c) (n := (l.drop (c + 1)).length + 1) (C := C) (by omega) b2 b3 b4 b5 (fun a' w' hw' hq L hLs hLg => ?_) (l.take c).length (Array.replicate (l.take c).toArray.size false) (Array.replicate l.toArray.size false) a { w with drawn := w.drawn + 1 } (by simp; omega) (by simp) (fun j hj => by rw [getD_rep, getD_rep]) (fun j hj => getD_rep _ _) (fun i o ho h => absurd h (by rw [getD_rep]; exact Bool.false_ne_true)) hC hpre
  · have e : (l.take c).length + ((l.drop (c + 1)).length + 1) = l.toArray.size := by rw [hlen, hdl]; simp; omega
    rw [e] at hfin
    exact hfin
  · have hLe : L = L0 := by
      apply Array.ext
      · rw [hLs, hL0s]
      · intro i h1 h2
        have e1 := hLg i
        have e2 := hL0g i
        rw [← e2] at e1
        simpa [h1, h2] using e1
    subst hLe
    have hrd : Region.ready .any l.toArray L = [c] := by simpa using b9
    refine ⟨fun h0 => (by rw [hrd] at h0; cases h0), fun i hi => ?_⟩
    rw [hrd, List.mem_singleton] at hi
    subst hi
    have hoc' : l.toArray[i]? = some oc := by simpa using hoc
    unfold wpOp
    simp only [hoc']
    rw [if_pos (by simp [Region.wanted, hg])]
    refine .inl (Oper.wp_mono (fun a2 w2 h2 => ?_) (hq w' hw'))
    obtain ⟨C2, hw2, h3⟩ := h2
    exact any_suffix b7 b8 hw2 h3
/-- a call, whatever stands behind it -/
theorem wp_callP {o : Oper} {A : Act} {w : World} {K : Act → World → Prop} {f : FuncId} {fn : Func} {args : Array Operand} {ts : Array TypeId} (vals : Array Value) (ho : o.op = .call { callee := .value (.func f), args := args, argTypes := ts }) (ha : args.map A.eval = vals)
    (hfn : P.funcs[f]? = some fn) (hn : (fn.name == "runtime.NumGoroutine") = false) (hb : fn.body.isNone = false) (hc : Calls P f vals w fun e w' => ∃ v, e = .returned v ∧ K (A.put o.dst v) w') : o.wp P A w K R := by
  have hr : (execOp A.eval o).run P w = .ok (.enter f vals) w := by
    have e : execOp A.eval o = callFunc f (#[] ++ args.map A.eval ++ #[]) := by
      unfold execOp
      rw [ho]
      rfl
    have hn' : ¬ fn.name = "runtime.NumGoroutine" := by simpa using hn
    have hb' : ¬ fn.body = none := fun h => by rw [h] at hb; cases hb
    rw [e, ha]
    simp [callFunc, hfn, hn', hb']
  unfold Oper.wp
  rw [hr]
  refine hc.mono fun e w' ⟨v, he, hφ⟩ => ?_
  subst he
  exact hφ
/-- an operation that yields nothing, by its run -/
theorem wp_skipP {o : Oper} {A : Act} {w w' : World} {K : Act → World → Prop} (h : (execOp A.eval o).run P w = .ok .skip w') (hK : K (A.put o.dst undef) w') : o.wp P A w K R := by
  unfold Oper.wp
  rw [h]
  exact hK
open Classical in
/-- a world of a class; W if k is none -/
noncomputable def jx (J : World → Prop) (W k : World) : World := if J k then k else W
theorem j_jx {J : World → Prop} {W : World} (h : J W) (k : World) : J (jx J W k) := by
  unfold jx
  split
  · assumption
  · exact h
theorem jx_of {J : World → Prop} {W w : World} (h : J w) : ∃ k, w = jx J W k := ⟨w, by unfold jx; rw [if_pos h]⟩
theorem wp_region_jx {id : Nat} {a : Act} {w : World} {l : List Oper} {J : World → Prop} (hd : J w.drew) (hm : P.follows .mixedOrders = true) (hB : Region.lexB .any l.toArray = true)
    (h : wpQuiet P l.toArray (fun w' => ∃ k, w' = jx J w k) (fun a' => ∀ w', (∃ k, w' = jx J w k) → R .normal a' w') l a) : (Code.region id l.toArray true).wp P R a w :=
  wp_region_quiet (C := fun w' => ∃ k, w' = jx J w k) hm hB (jx_of hd) (by simpa using h)
theorem jx_call {f : FuncId} {args : Array Value} {J : World → Prop} {W k : World} {v : Value} (h : Calls P f args (jx J W k) fun e w' => e = .returned v ∧ J w') :
    Calls P f args (jx J W k) fun e w'' => e = .returned v ∧ ∃ k', w'' = jx J W k' :=
  h.mono fun _ _ ⟨he, hj⟩ => ⟨he, jx_of hj⟩
end
end Ri
end Go.Proofs.Ytbgbalfhbficaaa
