/- A region that draws its order and whose operations make memory: one invariant, shown operation by operation, serves every order. Conditions: as each theorem says. -/
import Derived.Test.YtjdioilkhbpmoaaApp
import Derived.Orders
import Derived.Laws.Tables
import Derived.Deep.AppendSrc
import Derived.Deep.Upon
namespace Go.Proofs.Ytjdioilkhbpmoaa
open Go.RowKit
set_option linter.unusedVariables false
namespace Ri
def upd {α : Type} (f : Nat → α) (i : Nat) (v : α) : Nat → α := fun j => if j = i then v else f j
/-- operation i waits, by a chain of edges, for operation j -/
def dep (ops : Array Oper) : Nat → Nat → Nat → Bool
  | 0, _, _ => false
  | n + 1, i, j => match ops[i]? with
    | none => false
    | some o => o.after.toList.any fun e => Region.binds .any e && (e.on == j || dep ops n e.on j)
def backB (ops : Array Oper) : Bool := (List.range ops.size).all fun i => match ops[i]? with
  | none => true
  | some o => o.after.toList.all fun e => decide (e.on < i)
/-- what has come up has all that it waits for -/
def Down (ops : Array Oper) (L : Array Bool) : Prop := ∀ i o, ops[i]? = some o → L.getD i false = true → ∀ e ∈ o.after, Region.binds .any e = true → L.getD e.on false = true
theorem dep_down {ops : Array Oper} {L : Array Bool} (h : Down ops L) : ∀ (n i j : Nat), (∀ o, ops[i]? = some o → ∀ e ∈ o.after, Region.binds .any e = true → L.getD e.on false = true) → dep ops n i j = true → L.getD j false = true
  | 0, i, j, _, hd => by simp [dep] at hd
  | n + 1, i, j, hi, hd => by
    unfold dep at hd
    split at hd
    · cases hd
    · rename_i o ho
      rw [List.any_eq_true] at hd
      obtain ⟨e, he, h1⟩ := hd
      rw [Bool.and_eq_true, Bool.or_eq_true] at h1
      have hL := hi o ho e (by simpa using he) h1.1
      rcases h1.2 with h2 | h2
      · have : e.on = j := by simpa using h2
        rw [← this]
        exact hL
      · exact dep_down h n e.on j (fun o' ho' e' he' hb' => h e.on o' ho' hL e' he' hb') h2
theorem all_of_ready {ops : Array Oper} {L : Array Bool} (hs : L.size = ops.size) (hb : backB ops = true) (hr : Region.ready .any ops L = []) : ∀ i, i < ops.size → L.getD i false = true := by
  intro i
  induction i using Nat.strongRecOn with
  | ind i ih =>
    intro hi
    refine Classical.byContradiction fun hn => ?_
    have hn' : L.getD i true = false := by
      have : i < L.size := by omega
      simp [this] at hn ⊢
      exact hn
    have : i ∈ Region.ready .any ops L := mem_ready.2 ⟨hn', ops[i], Array.getElem?_eq_getElem hi, fun e he _ => by
      have h1 := List.all_eq_true.1 hb i (List.mem_range.2 hi)
      rw [Array.getElem?_eq_getElem hi] at h1
      have h2 := of_decide_eq_true (List.all_eq_true.1 h1 e (by simpa using he))
      exact ih e.on h2 (by omega)⟩
    rw [hr] at this
    cases this
theorem dep_far {ops : Array Oper} (hb : backB ops = true) : ∀ (n i j : Nat), ¬ j < ops.size → dep ops n i j = false
  | 0, i, j, _ => rfl
  | n + 1, i, j, h => by
    unfold dep
    split
    · rfl
    · rename_i o ho
      rw [List.any_eq_false]
      intro e he
      have hi : i < ops.size := (Array.getElem?_eq_some_iff.1 ho).1
      have h1 := List.all_eq_true.1 hb i (List.mem_range.2 hi)
      rw [ho] at h1
      have h2 := of_decide_eq_true (List.all_eq_true.1 h1 e he)
      rw [dep_far hb n e.on j h]
      have : (e.on == j) = false := by simp; omega
      simp [this]
theorem count_set {L : Array Bool} {i n : Nat} (hi : L.getD i true = false) (hc : L.toList.count false = n + 1) : (L.setIfInBounds i true).toList.count false = n := by
  have hlt : i < L.size := by
    rcases Nat.lt_or_ge i L.size with h | h
    · exact h
    · simp [Array.getElem?_eq_none h] at hi
  have hv : L.toList[i]'(by simpa using hlt) = false := by simpa [hlt] using hi
  rw [Array.toList_setIfInBounds, List.count_set (by simpa using hlt), hv, hc]
  simp
theorem ready_none {ops : Array Oper} {L : Array Bool} (hc : L.toList.count false = 0) : Region.ready .any ops L = [] := by
  refine List.eq_nil_iff_forall_not_mem.2 fun i hi => ?_
  obtain ⟨h0, _⟩ := mem_ready.1 hi
  have hlt : i < L.size := by
    rcases Nat.lt_or_ge i L.size with h | h
    · exact h
    · simp [Array.getElem?_eq_none h] at h0
  have hv : L[i] = false := by simpa [hlt] using h0
  have : false ∈ L.toList := by rw [← hv]; simp
  exact List.count_eq_zero.1 hc this
/-- the invariant -/
theorem any {P : Program} {ops : Array Oper} {R : Exit → Act → World → Prop} {A : (Nat → Value) → Act} (J : (Nat → Bool) → (Nat → Value) → World → Prop)
    (hput : ∀ f i o v, ops[i]? = some o → (A f).put o.dst v = A (upd f i v)) (hb : backB ops = true)
    (hstep : ∀ S f w i o, ops[i]? = some o → S i = false → (∀ j, dep ops ops.size i j = true → S j = true) → J S f w →
      if Region.wanted o (yielded ops (A f).tmps) = true then o.wp P (A f) w (fun a' w' => ∃ v, a' = (A f).put o.dst v ∧ J (upd S i true) (upd f i v) w') R else J (upd S i true) (upd f i undef) w)
    (hend : ∀ S f w, (∀ i, i < ops.size → S i = true) → J S f w → R .normal (A f) w) :
    ∀ (fuel : Nat) (L : Array Bool) (f : Nat → Value) (w : World), L.size = ops.size → L.toList.count false = fuel → Down ops L → J (fun i => L.getD i false) f w → wpAny P .any ops R fuel L (A f) w
  | 0, L, f, w, hs, hc, _, hJ => ⟨ready_none hc, hend _ f w (all_of_ready hs hb (ready_none hc)) hJ⟩
  | fuel + 1, L, f, w, hs, hc, hd, hJ => by
    refine ⟨fun h0 => hend _ f w (all_of_ready hs hb h0) hJ, fun i hi => ?_⟩
    obtain ⟨h0, o, ho, hall⟩ := mem_ready.1 hi
    have hlt : i < L.size := by
      rcases Nat.lt_or_ge i L.size with h | h
      · exact h
      · simp [Array.getElem?_eq_none h] at h0
    have hSi : L.getD i false = false := by simpa [hlt] using h0
    have hdn : Down ops (L.setIfInBounds i true) := fun j oj hoj hj e he hbe => by
      by_cases hij : i = j
      · subst hij
        rw [ho] at hoj
        cases hoj
        exact getD_set_true (hall e he hbe)
      · rw [getD_set_ne _ hij] at hj
        exact getD_set_true (hd j oj hoj hj e he hbe)
    have hS : (fun j => (L.setIfInBounds i true).getD j false) = upd (fun j => L.getD j false) i true := by
      funext j
      unfold upd
      by_cases hij : j = i
      · subst hij
        simp [hlt]
      · rw [getD_set_ne _ (Ne.symm hij), if_neg hij]
    have hst := hstep (fun j => L.getD j false) f w i o ho hSi (fun j hj => dep_down hd ops.size i j (fun o' ho' => by rw [ho] at ho'; cases ho'; exact hall) hj) hJ
    have go : ∀ v w', J (upd (fun j => L.getD j false) i true) (upd f i v) w' → wpAny P .any ops R fuel (L.setIfInBounds i true) ((A f).put o.dst v) w' := fun v w' h => by
      rw [hput f i o v ho]
      exact any J hput hb hstep hend fuel _ _ _ (by simpa using hs) (count_set h0 hc) hdn (by rw [hS]; exact h)
    unfold wpOp
    simp only [ho]
    split
    · rename_i hw
      rw [if_pos hw] at hst
      refine .inl (Oper.wp_mono (fun a' w' ⟨v, e, h⟩ => ?_) hst)
      rw [e]
      exact go v w' h
    · rename_i hw
      rw [if_neg hw] at hst
      exact go _ _ hst
/-- the frame: each slot with what has been put there -/
def acts (f : Nat → Value) : Nat → List Oper → Act → Act
  | _, [], a => a
  | k, o :: r, a => acts f (k + 1) r (a.put o.dst (f k))
def apartD (d : Option Tmp) (l : List Oper) : Bool := match d with
  | none => true
  | some d => l.all fun o => o.dst != some d
def dstsB : List Oper → Bool
  | [] => true
  | o :: r => apartD o.dst r && dstsB r
theorem apart_ne {d : Option Tmp} {o : Oper} {l : List Oper} (h : apartD d (o :: l) = true) : (∀ x, o.dst = some x → d ≠ some x) ∧ apartD d l = true := by
  cases d with
  | none => exact ⟨fun x _ e => (by cases e), rfl⟩
  | some d =>
    simp only [apartD, List.all_cons, Bool.and_eq_true, bne_iff_ne, ne_eq] at h
    exact ⟨fun x hx e => h.1 (by rw [hx, e]), h.2⟩
theorem acts_put {f : Nat → Value} {d : Option Tmp} (v : Value) : ∀ (l : List Oper) (k : Nat) (a : Act), apartD d l = true → (acts f k l a).put d v = acts f k l (a.put d v)
  | [], k, a, _ => rfl
  | o :: r, k, a, h => by
    obtain ⟨h1, h2⟩ := apart_ne h
    rw [acts, acts, acts_put v r (k + 1) _ h2, Act.put_comm a (f k) v h1]
theorem put_put (a : Act) (d : Option Tmp) (v u : Value) : (a.put d v).put d u = a.put d u := by
  cases d with
  | none => rfl
  | some d => simp [Act.put]
theorem acts_upd_lt {f : Nat → Value} {i : Nat} (v : Value) : ∀ (l : List Oper) (k : Nat) (a : Act), i < k → acts (upd f i v) k l a = acts f k l a
  | [], k, a, _ => rfl
  | o :: r, k, a, h => by
    rw [acts, acts, acts_upd_lt v r (k + 1) _ (by omega)]
    simp only [upd]
    rw [if_neg (by omega)]
theorem acts_upd {f : Nat → Value} {i : Nat} {o : Oper} (v : Value) : ∀ (l : List Oper) (k : Nat) (a : Act), dstsB l = true → k ≤ i → l[i - k]? = some o → (acts f k l a).put o.dst v = acts (upd f i v) k l a
  | [], k, a, _, _, h => by simp at h
  | p :: r, k, a, hd, hk, h => by
    rw [dstsB, Bool.and_eq_true] at hd
    by_cases e : i = k
    · subst e
      simp at h
      subst h
      rw [acts, acts, acts_put v r (i + 1) _ hd.1, acts_upd_lt v r (i + 1) _ (by omega), put_put]
      simp only [upd, if_true]
    · rw [acts, acts, acts_upd (f := f) (i := i) (o := o) v r (k + 1) _ hd.2 (by omega) (by
        rw [show i - k = (i - (k + 1)) + 1 by omega] at h
        simpa using h)]
      simp only [upd]
      rw [if_neg (show ¬ k = i by omega)]
theorem put_self (a : Act) (d : Option Tmp) : a.put d (match d with | some d => a.tmps.getD d undef | none => undef) = a := by
  cases d with
  | none => rfl
  | some d =>
    obtain ⟨t, ds⟩ := a
    have : t.setIfInBounds d (t.getD d undef) = t := by
      apply Array.ext
      · simp
      · intro i h1 h2
        by_cases e : d = i
        · subst e
          simp [h2]
        · rw [Array.getElem_setIfInBounds_ne h2 e]
    simp only [Act.put, this]
def old (a : Act) (l : List Oper) (k : Nat) : Value := match l[k]? with
  | some o => (match o.dst with | some d => a.tmps.getD d undef | none => undef)
  | none => undef
theorem acts_old (a : Act) (f : Nat → Value) : ∀ (l : List Oper) (k : Nat), (∀ i o, l[i]? = some o → f (k + i) = (match o.dst with | some d => a.tmps.getD d undef | none => undef)) → acts f k l a = a
  | [], k, _ => rfl
  | o :: r, k, h => by
    have h0 := h 0 o rfl
    rw [Nat.add_zero] at h0
    rw [acts, h0, put_self]
    exact acts_old a f r (k + 1) fun i o' ho' => by
      have := h (i + 1) o' (by simpa using ho')
      rw [← this]
      congr 1
      omega
/-- what is to be shown of each operation -/
def All (S : Nat → Oper → Prop) : Nat → List Oper → Prop
  | _, [] => True
  | k, o :: r => S k o ∧ All S (k + 1) r
theorem all_get {S : Nat → Oper → Prop} : ∀ {l : List Oper} {k i : Nat} {o : Oper}, All S k l → l[i]? = some o → S (k + i) o
  | [], k, i, o, _, h => by simp at h
  | p :: r, k, 0, o, hA, h => by
    simp at h
    subst h
    exact hA.1
  | p :: r, k, i + 1, o, hA, h => by
    have := all_get (i := i) hA.2 (by simpa using h)
    rw [show k + (i + 1) = k + 1 + i by omega]
    exact this
/-- one step: operation k, at values f of what stands before it -/
def Step (P : Program) (R : Exit → Act → World → Prop) (l : List Oper) (a : Act) (w0 : World) (φ : Nat → Value → World → Prop) (k : Nat) (o : Oper) : Prop :=
  ∀ (f : Nat → Value) (w : World), Q w0 w → (∀ j, dep l.toArray l.length k j = true → φ j (f j) w) →
    if Region.wanted o (yielded l.toArray (acts f 0 l a).tmps) = true then o.wp P (acts f 0 l a) w (fun a' w' => ∃ v, a' = (acts f 0 l a).put o.dst v ∧ Q w w' ∧ φ k v w') R else φ k undef w
def chk (l : List Oper) : Bool := dstsB l && backB l.toArray
theorem start {l : List Oper} {a : Act} : a = acts (old a l) 0 l a := (acts_old a (old a l) l 0 fun i o ho => by
  rw [Nat.zero_add]
  unfold old
  rw [ho]).symm
theorem getD_rep (n i : Nat) : (Array.replicate n false).getD i false = false := by
  by_cases h : i < n <;> simp [h]
/-- A REGION WHOSE OPERATIONS MAKE AT MOST NEW MEMORY: what each one yields is told by φ. -/
theorem wp_made {P : Program} {id : Nat} {R : Exit → Act → World → Prop} {a : Act} {w : World} {l : List Oper} (hm : P.follows .mixedOrders = true) (hB : chk l = true)
    (φ : Nat → Value → World → Prop) (hmono : ∀ i v w1 w2, φ i v w1 → Q w1 w2 → φ i v w2) (hstep : All (Step P R l a w.drew φ) 0 l)
    (hend : ∀ f w', Q w w' → (∀ j, j < l.length → φ j (f j) w') → R .normal (acts f 0 l a) w') : (Code.region id l.toArray true).wp P R a w := by
  unfold chk at hB
  rw [Bool.and_eq_true] at hB
  refine wp_region_any hm ?_
  have hst : a = acts (old a l) 0 l a := start
  have key := any (P := P) (ops := l.toArray) (R := R) (A := fun f => acts f 0 l a) (fun S f w' => Q w.drew w' ∧ ∀ j, j < l.length → S j = true → φ j (f j) w')
    (fun f i o v ho => acts_upd v l 0 a hB.1 (Nat.zero_le _) (by simpa using ho)) hB.2
    (fun S f w1 i o ho hSi hdep hJ => by
      have ho' : l[i]? = some o := by simpa using ho
      have hil : i < l.length := (List.getElem?_eq_some_iff.1 ho').1
      have hs := all_get hstep ho'
      rw [Nat.zero_add] at hs
      have hdl : ∀ j, dep l.toArray l.length i j = true → φ j (f j) w1 := fun j hj => by
        have hSj := hdep j (by simpa using hj)
        refine hJ.2 j ?_ hSj
        refine Classical.byContradiction fun hge => ?_
        exact absurd hj (by rw [dep_far hB.2 l.length i j (by simpa using hge)]; exact Bool.false_ne_true)
      have := hs f w1 hJ.1 hdl
      have grow : ∀ v w2, Q w1 w2 → φ i v w2 → (Q w.drew w2 ∧ ∀ j, j < l.length → upd S i true j = true → φ j (upd f i v j) w2) := fun v w2 hq hφ => by
        refine ⟨hJ.1.trans hq, fun j hj hSj => ?_⟩
        unfold upd at hSj ⊢
        by_cases e : j = i
        · rw [if_pos e, e]; exact hφ
        · rw [if_neg e] at hSj ⊢
          exact hmono _ _ _ _ (hJ.2 j hj hSj) hq
      split
      · rename_i hw
        rw [if_pos hw] at this
        exact Oper.wp_mono (fun a' w2 ⟨v, e, hq, hφ⟩ => ⟨v, e, grow v w2 hq hφ⟩) this
      · rename_i hw
        rw [if_neg hw] at this
        exact grow undef w1 (Q.refl _) this)
    (fun S f w1 hall hJ => hend f w1 (((Q.refl w).drew).trans hJ.1) (fun j hj => hJ.2 j hj (hall j (by simpa using hj))))
    l.toArray.size (Array.replicate l.toArray.size false) (old a l) { w with drawn := w.drawn + 1 } (by simp) (by simp) (fun i o ho h => absurd h (by rw [getD_rep]; exact Bool.false_ne_true)) ⟨Q.refl _, fun j hj h => absurd h (by show ¬ _ = _; dsimp only; rw [getD_rep]; exact Bool.false_ne_true)⟩
  rw [← hst] at key
  exact key
/-- THE SAME, WITH A LAST OPERATION (a store) that waits for all others and turns what it will. -/
theorem wp_made_last {P : Program} {id : Nat} {R : Exit → Act → World → Prop} {a : Act} {w : World} {l : List Oper} {ol : Oper} (hm : P.follows .mixedOrders = true) (hB : chk (l ++ [ol]) = true)
    (hall : ((List.range l.length).all fun j => dep (l ++ [ol]).toArray (l ++ [ol]).length l.length j) = true)
    (φ : Nat → Value → World → Prop) (hmono : ∀ i v w1 w2, φ i v w1 → Q w1 w2 → φ i v w2) (hstep : All (Step P R (l ++ [ol]) a w.drew φ) 0 l)
    (hend : ∀ f w', Q w w' → (∀ j, j < l.length → φ j (f j) w') →
      if Region.wanted ol (yielded (l ++ [ol]).toArray (acts f 0 (l ++ [ol]) a).tmps) = true then ol.wp P (acts f 0 (l ++ [ol]) a) w' (fun a' w' => ∃ v, a' = (acts f 0 (l ++ [ol]) a).put ol.dst v ∧ R .normal a' w') R
      else R .normal ((acts f 0 (l ++ [ol]) a).put ol.dst undef) w') : (Code.region id (l ++ [ol]).toArray true).wp P R a w := by
  unfold chk at hB
  rw [Bool.and_eq_true] at hB
  have hlast : (l ++ [ol])[l.length]? = some ol := by simp
  refine wp_region_any hm ?_
  have hst : a = acts (old a (l ++ [ol])) 0 (l ++ [ol]) a := start
  have key := any (P := P) (ops := (l ++ [ol]).toArray) (R := R) (A := fun f => acts f 0 (l ++ [ol]) a)
    (fun S f w' => if S l.length = true then (∀ j, j ≤ l.length → S j = true) ∧ R .normal (acts f 0 (l ++ [ol]) a) w' else Q w.drew w' ∧ ∀ j, j < l.length → S j = true → φ j (f j) w')
    (fun f i o v ho => acts_upd v (l ++ [ol]) 0 a hB.1 (Nat.zero_le _) (by simpa using ho)) hB.2
    (fun S f w1 i o ho hSi hdep hJ => by
      have ho' : (l ++ [ol])[i]? = some o := by simpa using ho
      have hil : i < l.length + 1 := by simpa using (List.getElem?_eq_some_iff.1 ho').1
      have hnl : ¬ S l.length = true := fun h => by
        rw [if_pos h] at hJ
        have := hJ.1 i (by omega)
        rw [hSi] at this
        cases this
      rw [if_neg hnl] at hJ
      by_cases hi : i = l.length
      · subst hi
        rw [hlast] at ho'
        obtain rfl := Option.some.inj ho'
        have hSj : ∀ j, j < l.length → S j = true := fun j hj => hdep j (by
          have := List.all_eq_true.1 hall j (List.mem_range.2 hj)
          simpa using this)
        have hu : upd S l.length true l.length = true := by simp [upd]
        have hua : ∀ j, j ≤ l.length → upd S l.length true j = true := fun j hj => by
          unfold upd
          split
          · rfl
          · exact hSj j (by omega)
        have := hend f w1 (((Q.refl w).drew).trans hJ.1) (fun j hj => hJ.2 j hj (hSj j hj))
        have hp : ∀ v, (acts f 0 (l ++ [ol]) a).put ol.dst v = acts (upd f l.length v) 0 (l ++ [ol]) a := fun v => acts_upd v (l ++ [ol]) 0 a hB.1 (Nat.zero_le _) (by simp)
        rw [if_pos hu]
        split
        · rename_i hw
          rw [if_pos hw] at this
          refine Oper.wp_mono (fun a' w2 ⟨v, e, hR⟩ => ⟨v, e, ?_⟩) this
          exact ⟨hua, by rw [← hp v, ← e]; exact hR⟩
        · rename_i hw
          rw [if_neg hw] at this
          exact ⟨hua, by rw [← hp]; exact this⟩
      · have hil2 : i < l.length := by omega
        have ho2 : l[i]? = some o := by rw [List.getElem?_append_left hil2] at ho'; exact ho'
        have hs := all_get hstep ho2
        rw [Nat.zero_add] at hs
        have hdl : ∀ j, dep (l ++ [ol]).toArray (l ++ [ol]).length i j = true → φ j (f j) w1 := fun j hj => by
          have hSj := hdep j (by simpa using hj)
          refine hJ.2 j ?_ hSj
          refine Classical.byContradiction fun hge => ?_
          by_cases e : j = l.length
          · rw [e] at hSj
            exact hnl hSj
          · exact absurd hj (by rw [dep_far hB.2 _ i j (by simp; omega)]; exact Bool.false_ne_true)
        have := hs f w1 hJ.1 hdl
        have hu : ¬ upd S i true l.length = true := by
          unfold upd
          rw [if_neg (by omega)]
          exact hnl
        have grow : ∀ v w2, Q w1 w2 → φ i v w2 → (Q w.drew w2 ∧ ∀ j, j < l.length → upd S i true j = true → φ j (upd f i v j) w2) := fun v w2 hq hφ => by
          refine ⟨hJ.1.trans hq, fun j hj hSj => ?_⟩
          unfold upd at hSj ⊢
          by_cases e : j = i
          · rw [if_pos e, e]; exact hφ
          · rw [if_neg e] at hSj ⊢
            exact hmono _ _ _ _ (hJ.2 j hj hSj) hq
        rw [if_neg hu]
        split
        · rename_i hw
          rw [if_pos hw] at this
          refine Oper.wp_mono (fun a' w2 ⟨v, e, hq, hφ⟩ => ⟨v, e, ?_⟩) this
          exact grow v w2 hq hφ
        · rename_i hw
          rw [if_neg hw] at this
          exact grow undef w1 (Q.refl _) this)
    (fun S f w1 hall' hJ => by
      rw [if_pos (hall' l.length (by simp))] at hJ
      exact hJ.2)
    (l ++ [ol]).toArray.size (Array.replicate (l ++ [ol]).toArray.size false) (old a (l ++ [ol])) { w with drawn := w.drawn + 1 } (by simp) (by simp) (fun i o ho h => absurd h (by rw [getD_rep]; exact Bool.false_ne_true)) (by
      rw [if_neg (show ¬ _ = true by dsimp only; rw [getD_rep]; exact Bool.false_ne_true)]
      exact ⟨Q.refl _, fun j hj h => absurd h (by dsimp only; rw [getD_rep]; exact Bool.false_ne_true)⟩)
  rw [← hst] at key
  exact key
theorem wp_made_last' {P : Program} {id : Nat} {R : Exit → Act → World → Prop} {a : Act} {w : World} {l : List Oper} {ol : Oper} (hm : P.follows .mixedOrders = true) (hB : chk l = true) (hl : l.getLast? = some ol)
    (hall : ((List.range l.dropLast.length).all fun j => dep l.toArray l.length l.dropLast.length j) = true)
    (φ : Nat → Value → World → Prop) (hmono : ∀ i v w1 w2, φ i v w1 → Q w1 w2 → φ i v w2) (hstep : All (Step P R l a w.drew φ) 0 l.dropLast)
    (hend : ∀ f w', Q w w' → (∀ j, j < l.dropLast.length → φ j (f j) w') →
      if Region.wanted ol (yielded l.toArray (acts f 0 l a).tmps) = true then ol.wp P (acts f 0 l a) w' (fun a' w' => ∃ v, a' = (acts f 0 l a).put ol.dst v ∧ R .normal a' w') R
      else R .normal ((acts f 0 l a).put ol.dst undef) w') : (Code.region id l.toArray true).wp P R a w := by
  have e : l.dropLast ++ [ol] = l := by
    have hne : l ≠ [] := fun h => by rw [h] at hl; cases hl
    rw [List.getLast?_eq_some_getLast hne] at hl
    rw [← Option.some.inj hl]
    exact List.dropLast_concat_getLast hne
  have := wp_made_last (id := id) (P := P) (R := R) (a := a) (w := w) (l := l.dropLast) (ol := ol) hm (by rw [e]; exact hB) (by rw [e]; exact hall) φ hmono (by rw [e]; exact hstep) (by rw [e]; exact hend)
  rw [e] at this
  exact this
/-! what stands in the frame -/
theorem acts_get_lt {f : Nat → Value} {d : Tmp} {v : Value} : ∀ (l : List Oper) (k : Nat) (a : Act), apartD (some d) l = true → (acts f k l (a.put (some d) v)).tmps.getD d undef = (a.put (some d) v).tmps.getD d undef
  | [], k, a, _ => rfl
  | o :: r, k, a, h => by
    obtain ⟨h1, h2⟩ := apart_ne h
    have hc := Act.put_comm a (x := o.dst) (y := some d) (f k) v (fun x hx e => h1 x hx e)
    rw [acts, ← hc, acts_get_lt r (k + 1) _ h2, hc]
    cases hod : o.dst with
    | none => rfl
    | some x =>
      have hne : x ≠ d := fun e => h1 x hod (by rw [e])
      simp only [Act.put, Array.getD_eq_getD_getElem?]
      rw [Array.getElem?_setIfInBounds_ne hne]
theorem acts_size {f : Nat → Value} : ∀ (l : List Oper) (k : Nat) (a : Act), (acts f k l a).tmps.size = a.tmps.size
  | [], k, a => rfl
  | o :: r, k, a => by
    rw [acts, acts_size r]
    cases o.dst <;> simp [Act.put]
theorem acts_get {f : Nat → Value} {d : Tmp} {i : Nat} : ∀ (l : List Oper) (k : Nat) (a : Act), dstsB l = true → k ≤ i → ((l[i - k]?).bind (·.dst)) = some d → d < a.tmps.size → (acts f k l a).eval (.tmp d) = f i
  | [], k, a, _, _, h, _ => by simp at h
  | p :: r, k, a, hd, hk, h, hs => by
    rw [dstsB, Bool.and_eq_true] at hd
    by_cases e : i = k
    · subst e
      have hp : p.dst = some d := by simpa using h
      have hd1 := hd.1
      rw [hp] at hd1
      show (acts f (i + 1) r (a.put p.dst (f i))).tmps.getD d undef = f i
      rw [hp, acts_get_lt r (i + 1) a hd1]
      simp [Act.put, hs]
    · rw [acts]
      exact acts_get r (k + 1) _ hd.2 (by omega) (by
        rw [show i - k = (i - (k + 1)) + 1 by omega] at h
        simpa using h) (by cases p.dst <;> simpa [Act.put] using hs)
theorem acts_same {f : Nat → Value} {d : Tmp} : ∀ (l : List Oper) (k : Nat) (a : Act), apartD (some d) l = true → (acts f k l a).eval (.tmp d) = a.eval (.tmp d)
  | [], k, a, _ => rfl
  | o :: r, k, a, h => by
    obtain ⟨h1, h2⟩ := apart_ne h
    rw [acts, acts_same r (k + 1) _ h2]
    cases hod : o.dst with
    | none => rfl
    | some x =>
      have hne : x ≠ d := fun e => h1 x hod (by rw [e])
      simp only [Act.put, Act.eval, Array.getD_eq_getD_getElem?]
      rw [Array.getElem?_setIfInBounds_ne hne]
theorem All.cons {S : Nat → Oper → Prop} {k : Nat} {o : Oper} {r : List Oper} (h : S k o) (t : All S (k + 1) r) : All S k (o :: r) := ⟨h, t⟩
theorem All.nil {S : Nat → Oper → Prop} {k : Nat} : All S k [] := trivial
/-- an operation that is not guarded -/
theorem step_of {P : Program} {R : Exit → Act → World → Prop} {l : List Oper} {a : Act} {w0 : World} {φ : Nat → Value → World → Prop} {k : Nat} {o : Oper} (hg : o.guard = none)
    (h : ∀ (f : Nat → Value) (w : World), Q w0 w → (∀ j, dep l.toArray l.length k j = true → φ j (f j) w) → ∀ A : Act, (∀ d i, ((l[i]?).bind (·.dst)) = some d → d < a.tmps.size → A.eval (.tmp d) = f i) → (∀ d, apartD (some d) l = true → A.eval (.tmp d) = a.eval (.tmp d)) →
      o.wp P A w (fun a' w' => ∃ v, a' = A.put o.dst v ∧ Q w w' ∧ φ k v w') R) (hd : dstsB l = true) : Step P R l a w0 φ k o := fun f w hq hf => by
  rw [if_pos (by simp [Region.wanted, hg])]
  exact h f w hq hf _ (fun d i hdi hs => acts_get l 0 a hd (Nat.zero_le _) (by simpa using hdi) hs) (fun d hd' => acts_same l 0 a hd')
/-- what is to be shown of an operation that is not guarded -/
abbrev StepG (P : Program) (R : Exit → Act → World → Prop) (l : List Oper) (a : Act) (w0 : World) (φ : Nat → Value → World → Prop) (k : Nat) (o : Oper) : Prop :=
  o.guard = none ∧ ∀ (f : Nat → Value) (w : World), Q w0 w → (∀ j, dep l.toArray l.length k j = true → φ j (f j) w) → ∀ A : Act, (∀ d i, ((l[i]?).bind (·.dst)) = some d → d < a.tmps.size → A.eval (.tmp d) = f i) → (∀ d, apartD (some d) l = true → A.eval (.tmp d) = a.eval (.tmp d)) →
      o.wp P A w (fun a' w' => ∃ v, a' = A.put o.dst v ∧ Q w w' ∧ φ k v w') R
theorem all_imp {S T : Nat → Oper → Prop} (h : ∀ k o, S k o → T k o) : ∀ {l : List Oper} {k : Nat}, All S k l → All T k l
  | [], _, _ => trivial
  | o :: r, k, hA => ⟨h k o hA.1, all_imp h hA.2⟩
theorem made_last {P : Program} {id : Nat} {R : Exit → Act → World → Prop} {a : Act} {w : World} {l : List Oper} {ol : Oper} (φ : Nat → Value → World → Prop) (hm : P.follows .mixedOrders = true) (hB : chk l = true) (hl : l.getLast? = some ol)
    (hall : ((List.range l.dropLast.length).all fun j => dep l.toArray l.length l.dropLast.length j) = true) (hg : ol.guard = none)
    (hmono : ∀ i v w1 w2, φ i v w1 → Q w1 w2 → φ i v w2) (hstep : All (StepG P R l a w.drew φ) 0 l.dropLast)
    (hend : ∀ f w', Q w w' → (∀ j, j < l.dropLast.length → φ j (f j) w') → ∀ A : Act, A = acts f 0 l a → (∀ d i, ((l[i]?).bind (·.dst)) = some d → d < a.tmps.size → A.eval (.tmp d) = f i) → (∀ d, apartD (some d) l = true → A.eval (.tmp d) = a.eval (.tmp d)) →
      ol.wp P A w' (fun a' w' => ∃ v, a' = A.put ol.dst v ∧ R .normal a' w') R) : (Code.region id l.toArray true).wp P R a w := by
  have hd : dstsB l = true := by
    unfold chk at hB
    rw [Bool.and_eq_true] at hB
    exact hB.1
  refine wp_made_last' hm hB hl hall φ hmono (all_imp (fun k o h => step_of h.1 h.2 hd) hstep) (fun f w' hq hf => ?_)
  rw [if_pos (by simp [Region.wanted, hg])]
  exact hend f w' hq hf _ rfl (fun d i hdi hs => acts_get l 0 a hd (Nat.zero_le _) (by simpa using hdi) hs) (fun d hd' => acts_same l 0 a hd')
theorem made {P : Program} {id : Nat} {R : Exit → Act → World → Prop} {a : Act} {w : World} {l : List Oper} (φ : Nat → Value → World → Prop) (hm : P.follows .mixedOrders = true) (hB : chk l = true)
    (hmono : ∀ i v w1 w2, φ i v w1 → Q w1 w2 → φ i v w2) (hstep : All (StepG P R l a w.drew φ) 0 l)
    (hend : ∀ f w', Q w w' → (∀ j, j < l.length → φ j (f j) w') → R .normal (acts f 0 l a) w') : (Code.region id l.toArray true).wp P R a w := by
  have hd : dstsB l = true := by
    unfold chk at hB
    rw [Bool.and_eq_true] at hB
    exact hB.1
  exact wp_made hm hB φ hmono (all_imp (fun k o h => step_of h.1 h.2 hd) hstep) hend
/-- an operation that yields a value -/
theorem wp_val {P : Program} {R : Exit → Act → World → Prop} {o : Oper} {A : Act} {w w' : World} {φ : Value → World → Prop} (v : Value) (h : (execOp A.eval o).run P w = .ok (.value v) w') (hq : Q w w') (hφ : φ v w') :
    o.wp P A w (fun a' w' => ∃ v, a' = A.put o.dst v ∧ Q w w' ∧ φ v w') R := by
  unfold Oper.wp
  rw [h]
  exact ⟨v, rfl, hq, hφ⟩
theorem wp_value {P : Program} {R : Exit → Act → World → Prop} {o : Oper} {A : Act} {w : World} {φ : Value → World → Prop} (v : Value) (h : (execOp A.eval o).run P w = .ok (.value v) w) (hφ : φ v w) :
    o.wp P A w (fun a' w' => ∃ v, a' = A.put o.dst v ∧ Q w w' ∧ φ v w') R := wp_val v h (Q.refl w) hφ
end Ri
section
variable {P : Program} {t e size bytes : Nat} {w : World} {base : Nat}
/-- append onto an empty slice without room: at most a new row -/
theorem run_append_new (E : El P t e size bytes) {b0 A : Option Addr} {m c B : Nat} {news : List Value} (hown : w.ownsRow base e size (.slice b0 0 0) 0 []) (hA : A = none → m = 0 ∧ c = 0) (hl : news.length = m * size) (hr : Rd w B A news) (h1 : ∀ u ∈ news, u.oneCell' = true)
    (hb : m * bytes ≤ 140737488355328) (hbase : base ≤ w.heap.size) (ty : TypeId) :
    ∃ v w', (Builtin.append_ #[t, t] ty #[.slice b0 0 0, .slice A m c]).run P w = .ok v w' ∧ w'.ownsRow base e size v m news ∧ Q w w' := by
  obtain ⟨i, z, hi, hz, hsz, hby, hzs⟩ := E.inf
  have hle : m ≤ m * bytes := Nat.le_mul_of_pos_right _ E.bpos
  have hS : Src P i.size t (.slice A m c) m news w := by
    rcases A with _ | ad
    · obtain ⟨rfl, rfl⟩ := hA rfl
      have : news = [] := List.eq_nil_of_length_eq_zero (by simpa using hl)
      subst this
      exact Src.ofNil w E.und 0
    · refine Src.ofSlice w E.und ad m c news (by rw [hsz]; exact hl) (fun j u hu => ?_) h1
      rcases hr with rfl | ⟨b, o, h2, _, h3⟩
      · simp at hu
      · obtain rfl := Option.some.inj h2
        rw [addr_add]
        exact h3 j u hu
  rcases Nat.eq_zero_or_pos m with h0 | h0
  · subst h0
    have : news = [] := List.eq_nil_of_length_eq_zero (by simpa using hl)
    subst this
    exact ⟨_, _, run_append_nothing w t t ty e i E.und hi b0 0 0 (Nat.le_refl _) _ hS, hown, Q.refl w⟩
  · have hf : (Builtin.firstCells i.size 0 (.slice b0 0 0)).run P w.drew = .ok (List.toArray []) w.drew := by
      cases b0 with
      | none => exact run_firstCells_none w.drew i.size 0 0 0
      | some a => exact run_firstCells_some w.drew i.size 0 a 0 0 [] (by simp) (fun j u h => by simp at h)
    have hr2 := run_append_grow_src (P := P) w t t ty e i z E.und hi hz b0 0 0 [] hf _ m news hS (by omega) (by omega) (growslice_fits (by omega) (by rw [hby, Nat.zero_add]; exact hb))
    refine ⟨_, _, hr2, ?_, (Q.refl w).drew.alloc _⟩
    have hge := grownCap_ge w (0 + m) 0 e
    have hcm : grownCap w (0 + m) 0 e ≤ maxLen := grownCap_le_maxLen w (0 + m) 0 e (by simp only [maxLen]; omega)
    rw [Nat.zero_add] at hge hcm ⊢
    refine ⟨hl, .inr ⟨w.heap.size, _, _, rfl, hbase, heap_alloc_new w.drew _, hge, hcm, ?_, ?_⟩⟩
    · simp only [List.nil_append, Array.size_append, List.size_toArray, size_zeroCells, hzs, hl, ← Nat.add_mul]
      congr 1
      omega
    · simp only [List.nil_append, Array.toList_append]
      rw [← hl]
      exact List.take_left
end
/-- the operation, within a region -/
theorem Ri.wp_append {P : Program} {t e size bytes : Nat} {w : World} {base : Nat} {R : Exit → Act → World → Prop} {o : Oper} {A : Act} {φ : Value → World → Prop} (E : El P t e size bytes) (s x : Operand) (ho : o.op = .call { callee := .builtin .append, args := #[s, x], argTypes := #[t, t] })
    {b0 Ad : Option Addr} {m c B : Nat} {news : List Value} (hs : A.eval s = .slice b0 0 0) (hx : A.eval x = .slice Ad m c) (hown : w.ownsRow base e size (.slice b0 0 0) 0 []) (hA : Ad = none → m = 0 ∧ c = 0) (hl : news.length = m * size) (hr : Rd w B Ad news) (h1 : ∀ u ∈ news, u.oneCell' = true)
    (hb : m * bytes ≤ 140737488355328) (hbase : base ≤ w.heap.size) (h : ∀ v w', w'.ownsRow base e size v m news → φ v w') :
    o.wp P A w (fun a' w' => ∃ v, a' = A.put o.dst v ∧ Q w w' ∧ φ v w') R := by
  obtain ⟨v, w', hr2, h2, h3⟩ := run_append_new (P := P) E hown hA hl hr h1 hb hbase o.type
  refine Ri.wp_val v (w' := w') ?_ h3 (h v w' h2)
  unfold execOp
  simp only [ho, resolve, invoke, builtin, Sem.run_bind, Sem.run_pure, Result.andThen_ok, List.map_toArray, List.map_cons, List.map_nil, hs, hx, hr2]
namespace Ri
section
variable {P : Program} {R : Exit → Act → World → Prop} {o : Oper} {A : Act} {w : World} {φ : Value → World → Prop}
/-- an empty literal -/
theorem wp_lit0 {t e size bytes : Nat} (E : El P t e size bytes) (ho : o.op = .buildSlice t 0 #[]) (h : φ (.slice (some ⟨w.heap.size, 0, none⟩) 0 0) (w.alloc (.cells #[] e))) :
    o.wp P A w (fun a' w' => ∃ v, a' = A.put o.dst v ∧ Q w w' ∧ φ v w') R := by
  obtain ⟨i, z, hi, hz, hsz, hby, hzs⟩ := E.inf
  refine wp_val _ (w' := w.alloc (.cells #[] e)) ?_ ((Q.refl _).alloc _) h
  unfold execOp
  simp [ho, Instr.buildSlice, run_underlying E.und, sizeOf, typeInfo, hi, Instr.fill, newRow, Sem.run_bind]
  rw [show Array.range 0 = #[] from by simp [Array.range]]
  simp
/-- a field's address -/
theorem wp_field {s : TypeId} {x : Operand} {k b off : Nat} {fs : Array Field} {f : Field} (ho : o.op = .fieldAddr s x k) (hx : A.eval x = .pointer (some ⟨b, off, none⟩)) (hu : P.underlying s = some (.struct fs)) (hf : fs[k]? = some f) {sz : Nat} (hs : (P.info? f.type).map (·.size) = some (sz + 1))
    (h : φ (.pointer (some ⟨b, off + f.offset, none⟩)) w) : o.wp P A w (fun a' w' => ∃ v, a' = A.put o.dst v ∧ Q w w' ∧ φ v w') R := by
  refine wp_value _ ?_ h
  unfold execOp
  obtain ⟨i, hi, hsz⟩ := Option.map_eq_some_iff.1 hs
  simp [ho, hx, Instr.fieldAt, fieldPlace, sizeOf, typeInfo, hi, hsz, addr_add, Instr.sureAddr, run_underlying hu, hf, Sem.run_bind]
/-- a load of one cell -/
theorem wp_load1 {ty : TypeId} {x : Operand} {b off : Nat} {v : Value} {d : TypeDesc} (ho : o.op = .load ty x) (hx : A.eval x = .pointer (some ⟨b, off, none⟩)) (hu : P.underlying ty = some d) (hd : (match d with | .struct _ | .array _ _ => true | _ => false) = false)
    (hc : w.cell? ⟨b, off, none⟩ = some v) (h : φ v w) : o.wp P A w (fun a' w' => ∃ v, a' = A.put o.dst v ∧ Q w w' ∧ φ v w') R := by
  refine wp_value _ ?_ h
  unfold execOp
  have hagg : (isAgg ty).run P w = .ok false w := by
    unfold isAgg
    rw [Sem.run_bind, run_underlying hu w]
    cases d <;> simp_all
  simp [ho, hx, Instr.loadAt, Instr.sureAddr, loadVar, hagg, hc, Sem.run_bind]
/-- a struct put together -/
theorem wp_struct {ty : TypeId} {parts : Array (Nat × Operand)} {cells : Array Value} (ho : o.op = .build ty parts) (vals : List (Nat × Value)) (hp : (parts.map fun (i, x) => (i, A.eval x)).toList = vals) (hb : P.built ty vals = some cells) (h : φ (.agg cells) w) :
    o.wp P A w (fun a' w' => ∃ v, a' = A.put o.dst v ∧ Q w w' ∧ φ v w') R := by
  refine wp_build ty parts ho (by rw [hp, hb]; rfl) ⟨_, rfl, Q.refl w, ?_⟩
  rw [hp, hb]
  exact h
end
end Ri
theorem grown_setRow (w : World) (g : Nat) (cs : Array Value) : w.grownBy (w.setRow g cs) (some g) :=
  ⟨rfl, rfl, rfl, by simp, fun k _ hk => setRow_other w g k cs (fun e => hk (by rw [e]))⟩
theorem own_setRow {w : World} {B e size n g : Nat} {v : Value} {xs : List Value} (h : w.ownsRow B e size v n xs) (cs : Array Value) (hg : g < B) : (w.setRow g cs).ownsRow B e size v n xs :=
  h.kept (grown_setRow w g cs) (by
    rcases h.2 with ⟨rfl, _⟩ | ⟨g', cap, cur, rfl, hb, _⟩
    · exact .inl rfl
    · exact .inr (fun e => by simp [Value.ownBlock] at e; omega))
theorem own_lower {w : World} {B B' : Nat} {e : TypeId} {size : Nat} {v : Value} {n : Nat} {xs : List Value} (h : w.ownsRow B e size v n xs) (hb : B' ≤ B) : w.ownsRow B' e size v n xs := by
  refine ⟨h.1, ?_⟩
  rcases h.2 with h2 | ⟨g, cap, cur, h1, h2, h3⟩
  · exact .inl h2
  · exact .inr ⟨g, cap, cur, h1, Nat.le_trans hb h2, h3⟩
end Go.Proofs.Ytjdioilkhbpmoaa
