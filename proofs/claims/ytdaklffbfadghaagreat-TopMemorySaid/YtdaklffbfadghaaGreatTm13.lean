/- A region that draws its order: the first c operations in whatever order (loud ones keep a class of worlds; guards; values of different groups lie in different blocks), those behind them, which wait for all of these, in the one order that there is. The queue: isBefore, swap. The queue: Push. The queue: Peek, Len, Close, Pop. The document's queue. The acts of the law on queues: the queue's and the document's side by side. The law ListQueues: what stands between its acts. Conditions: as each theorem says. -/
import Derived.Test.YtdaklffbfadghaaGreatTm2
import Derived.StillTail
import Derived.Test.YtdaklffbfadghaaGreatTm11
import Derived.Test.YtdaklffbfadghaaGreatTm12
namespace Go.Proofs.YtdaklffbfadghaaGreat
open Go.RowKit
set_option linter.unusedVariables false
set_option linter.unusedSimpArgs false
namespace Ri
/-- how many of the first have not come up -/
def cntF (L : Array Bool) : Nat → Nat
  | 0 => 0
  | k + 1 => cntF L k + (if L.getD k false = true then 0 else 1)
theorem cnt_far {L : Array Bool} {i : Nat} : ∀ {k : Nat}, k ≤ i → cntF (L.setIfInBounds i true) k = cntF L k
  | 0, _ => rfl
  | k + 1, h => by
    unfold cntF
    rw [cnt_far (by omega), getD_set_ne _ (by omega)]
theorem cnt_one {L : Array Bool} {i : Nat} (hl : i < L.size) (hf : L.getD i false = false) : ∀ {k : Nat}, i < k → cntF (L.setIfInBounds i true) k + 1 = cntF L k
  | 0, h => by omega
  | k + 1, h => by
    unfold cntF
    by_cases e : i = k
    · subst e
      have e1 : (L.setIfInBounds i true).getD i false = true := by simp [hl]
      rw [cnt_far (Nat.le_refl _), e1, hf, if_pos rfl, if_neg Bool.false_ne_true]
    · rw [getD_set_ne _ e]
      have := cnt_one hl hf (k := k) (by omega)
      omega
theorem cnt_zero {L : Array Bool} : ∀ {k : Nat}, cntF L k = 0 → ∀ j, j < k → L.getD j false = true
  | 0, _, j, hj => by omega
  | k + 1, h, j, hj => by
    unfold cntF at h
    by_cases e : j = k
    · subst e
      refine Classical.byContradiction fun hn => ?_
      rw [if_neg hn] at h
      omega
    · exact cnt_zero (k := k) (by omega) j (by omega)
theorem cnt_pos {L : Array Bool} {n : Nat} : ∀ {k : Nat}, cntF L k = n + 1 → ∃ j, j < k ∧ L.getD j false = false
  | 0, h => by cases h
  | k + 1, h => by
    unfold cntF at h
    cases e : L.getD k false with
    | false => exact ⟨k, by omega, e⟩
    | true =>
      rw [e, if_pos rfl] at h
      obtain ⟨j, hj, h2⟩ := cnt_pos (k := k) h
      exact ⟨j, by omega, h2⟩
theorem any_upto {P : Program} {ops : Array Oper} {R : Exit → Act → World → Prop} {A : (Nat → Value) → Act} {c n : Nat} (J : (Nat → Bool) → (Nat → Value) → World → Prop)
    (hput : ∀ f i o v, ops[i]? = some o → (A f).put o.dst v = A (upd f i v)) (hb : backB ops = true) (hfar : farB ops c = true) (hcs : c ≤ ops.size)
    (hstep : ∀ S f w i o, i < c → ops[i]? = some o → S i = false → (∀ j, dep ops ops.size i j = true → S j = true) → (∀ j, dep ops ops.size j i = true → S j = false) → J S f w →
      if Region.wanted o (yielded ops (A f).tmps) = true then o.wp P (A f) w (fun a' w' => ∃ v, a' = (A f).put o.dst v ∧ J (upd S i true) (upd f i v) w') R else J (upd S i true) (upd f i undef) w)
    (hsuf : ∀ f w (L : Array Bool), L.size = ops.size → (∀ j, L.getD j false = decide (j < c)) → J (fun j => L.getD j false) f w → wpAny P .any ops R n L (A f) w) :
    ∀ (fuel : Nat) (L : Array Bool) (f : Nat → Value) (w : World), L.size = ops.size → cntF L c = fuel → (∀ j, c ≤ j → L.getD j false = false) → Down ops L → J (fun i => L.getD i false) f w → wpAny P .any ops R (fuel + n) L (A f) w
  | 0, L, f, w, hs, hc, h2, _, hJ => by
    rw [Nat.zero_add]
    refine hsuf f w L hs (fun j => ?_) hJ
    by_cases hj : j < c
    · rw [cnt_zero hc j hj]; simp [hj]
    · rw [h2 j (by omega)]; simp [hj]
  | fuel + 1, L, f, w, hs, hc, h2, hd, hJ => by
    obtain ⟨j0, hj0, e0⟩ := cnt_pos hc
    rw [show fuel + 1 + n = (fuel + n) + 1 by omega]
    refine ⟨fun h0 => ?_, fun i hi => ?_⟩
    · have := all_of_ready hs hb h0 j0 (by omega)
      rw [e0] at this
      cases this
    · obtain ⟨h0, o, ho, hall⟩ := mem_ready.1 hi
      have hlt : i < L.size := by
        rcases Nat.lt_or_ge i L.size with h | h
        · exact h
        · simp [Array.getElem?_eq_none h] at h0
      have hSi : L.getD i false = false := by simpa [hlt] using h0
      have hic : i < c := by
        refine Classical.byContradiction fun hge => ?_
        have := dep_down hd ops.size i j0 (fun o' ho' => by rw [ho] at ho'; cases ho'; exact hall) (far_dep hfar (by omega) (by omega) hj0)
        rw [e0] at this
        cases this
      have hdn : Down ops (L.setIfInBounds i true) := fun j oj hoj hj e he hbe => by
        by_cases hij : i = j
        · subst hij
          rw [ho] at hoj
          cases hoj
          exact getD_set_true (hall e he hbe)
        · rw [getD_set_ne _ hij] at hj
          exact getD_set_true (hd j oj hoj hj e he hbe)
      have hS : (fun j => (L.setIfInBounds i true).getD j false) = upd (fun j => L.getD j false) i true := by
        funext j
        unfold upd
        by_cases hij : j = i
        · subst hij
          simp [hlt]
        · rw [getD_set_ne _ (Ne.symm hij), if_neg hij]
      have hst := hstep (fun j => L.getD j false) f w i o hic ho hSi (fun j hj => dep_down hd ops.size i j (fun o' ho' => by rw [ho] at ho'; cases ho'; exact hall) hj)
        (fun j hj => by
          cases hL : L.getD j false with
          | false => rfl
          | true =>
            have := dep_down hd ops.size j i (fun o' ho' e he hb' => hd j o' ho' hL e he hb') hj
            rw [hSi] at this
            cases this) hJ
      have hcn : cntF (L.setIfInBounds i true) c = fuel := by have := cnt_one hlt hSi hic; omega
      have go : ∀ v w', J (upd (fun j => L.getD j false) i true) (upd f i v) w' → wpAny P .any ops R (fuel + n) (L.setIfInBounds i true) ((A f).put o.dst v) w' := fun v w' h => by
        rw [hput f i o v ho]
        exact any_upto J hput hb hfar hcs hstep hsuf fuel _ _ _ (by simpa using hs) hcn (fun j hj => by rw [getD_set_ne _ (by omega)]; exact h2 j hj) hdn (by rw [hS]; exact h)
      unfold wpOp
      simp only [ho]
      split
      · rename_i hw
        rw [if_pos hw] at hst
        refine .inl (Oper.wp_mono (fun a' w' ⟨v, e, h⟩ => ?_) hst)
        rw [e]
        exact go v w' h
      · rename_i hw
        rw [if_neg hw] at hst
        exact go _ _ hst
/-- the block of a value that is a slice's or a pointer's own -/
def blkOf : Value → Option Nat
  | .pointer (some ⟨b, _, _⟩) => some b
  | .slice (some ⟨b, _, _⟩) _ _ => some b
  | _ => none
def ApE (grp : Nat → Nat) (D : Nat → Prop) (f : Nat → Value) : Prop := ∀ i j, D i → D j → grp i ≠ 0 → grp j ≠ 0 → grp i ≠ grp j → ∀ b, blkOf (f i) = some b → blkOf (f j) ≠ some b
def FrE (l : List Oper) (grp : Nat → Nat) (f : Nat → Value) (k : Nat) (w w' : World) (v : Value) : Prop := grp k = 0 ∨ ∀ b, blkOf v = some b → b < w'.heap.size ∧ (w.heap.size ≤ b ∨ ∃ j, dep l.toArray l.length k j = true ∧ grp j = grp k ∧ blkOf (f j) = some b)
/-- what is to be shown of an operation -/
abbrev StepE (C : World → Prop) (T : World → World → Prop) (loud fixed : List Nat) (grp : Nat → Nat) (P : Program) (R : Exit → Act → World → Prop) (l : List Oper) (a : Act) (φ : Nat → Value → World → Prop) (k : Nat) (o : Oper) : Prop :=
  ∀ (f : Nat → Value) (w : World), C w → (∀ j, gotB l loud fixed k j = true → φ j (f j) w) → ApE grp (fun j => dep l.toArray l.length k j = true) f → ∀ A : Act, (∀ d i, ((l[i]?).bind (·.dst)) = some d → d < a.tmps.size → A.eval (.tmp d) = f i) → (∀ d, apartD (some d) l = true → A.eval (.tmp d) = a.eval (.tmp d)) → (∀ j, dep l.toArray l.length j k = true → f j = old a l j) →
      (Want l a f o true ∧ o.wp P A w (fun a' w' => ∃ v, a' = A.put o.dst v ∧ (if isIn loud k then C w' ∧ T w w' ∧ w.heap.size ≤ w'.heap.size else Q w w') ∧ φ k v w' ∧ FrE l grp f k w w' v) R) ∨ (Want l a f o false ∧ φ k undef w ∧ grp k = 0)
section
variable {C : World → Prop} {T : World → World → Prop} {loud fixed : List Nat} {grp : Nat → Nat} {P : Program} {R : Exit → Act → World → Prop} {l : List Oper} {a : Act} {φ : Nat → Value → World → Prop} {k g d : Nat} {b : Bool} {o : Oper}
/-- a quiet operation without a group, guarded or not -/
theorem StepE.z (hk : isIn loud k = false) (hg : grp k = 0) (h : StepZ C loud fixed P R l a φ k o) : StepE C T loud fixed grp P R l a φ k o := fun f w hc hf hD A hA hB hO => by
  rcases h f w hc hf A hA hB hO with ⟨h1, h2⟩ | ⟨h1, h2⟩
  · refine .inl ⟨h1, Oper.wp_mono (fun a' w' ⟨v, e, hq, hp⟩ => ⟨v, e, ?_, hp, .inl hg⟩) h2⟩
    rw [hk] at hq ⊢
    exact hq
  · exact .inr ⟨h1, h2, hg⟩
/-- a loud operation without a group, not guarded -/
theorem StepE.c (hk : isIn loud k = true) (hg : grp k = 0) (hgd : o.guard = none)
    (h : ∀ (f : Nat → Value) (w : World), C w → (∀ j, gotB l loud fixed k j = true → φ j (f j) w) → ∀ A : Act, (∀ d i, ((l[i]?).bind (·.dst)) = some d → d < a.tmps.size → A.eval (.tmp d) = f i) → (∀ d, apartD (some d) l = true → A.eval (.tmp d) = a.eval (.tmp d)) → (∀ j, dep l.toArray l.length j k = true → f j = old a l j) →
      o.wp P A w (fun a' w' => ∃ v, a' = A.put o.dst v ∧ (C w' ∧ T w w' ∧ w.heap.size ≤ w'.heap.size) ∧ φ k v w') R) : StepE C T loud fixed grp P R l a φ k o := fun f w hc hf hD A hA hB hO =>
  .inl ⟨.inl ⟨rfl, hgd⟩, Oper.wp_mono (fun a' w' ⟨v, e, hq, hp⟩ => ⟨v, e, by rw [hk]; exact hq, hp, .inl hg⟩) (h f w hc hf A hA hB hO)⟩
/-- a loud operation without a group, whose guard holds -/
theorem StepE.gc (hk : isIn loud k = true) (hgr : grp k = 0) (hg : o.guard = some (g, b)) (h2 : ((l[g]?).bind (·.dst)) = some d) (h3 : d < a.tmps.size)
    (h : ∀ (f : Nat → Value) (w : World), C w → (∀ j, gotB l loud fixed k j = true → φ j (f j) w) → ∀ A : Act, (∀ d i, ((l[i]?).bind (·.dst)) = some d → d < a.tmps.size → A.eval (.tmp d) = f i) → (∀ d, apartD (some d) l = true → A.eval (.tmp d) = a.eval (.tmp d)) → (∀ j, dep l.toArray l.length j k = true → f j = old a l j) →
      f g = .bool b ∧ o.wp P A w (fun a' w' => ∃ v, a' = A.put o.dst v ∧ (C w' ∧ T w w' ∧ w.heap.size ≤ w'.heap.size) ∧ φ k v w') R) : StepE C T loud fixed grp P R l a φ k o := fun f w hc hf hD A hA hB hO => by
  obtain ⟨e, hw⟩ := h f w hc hf A hA hB hO
  exact .inl ⟨.inr ⟨g, b, d, hg, h2, h3, e⟩, Oper.wp_mono (fun a' w' ⟨v, e, hq, hp⟩ => ⟨v, e, by rw [hk]; exact hq, hp, .inl hgr⟩) hw⟩
/-- a quiet operation of a group -/
theorem StepE.gr (hk : isIn loud k = false) (hgd : o.guard = none)
    (h : ∀ (f : Nat → Value) (w : World), C w → (∀ j, gotB l loud fixed k j = true → φ j (f j) w) → ApE grp (fun j => dep l.toArray l.length k j = true) f → ∀ A : Act, (∀ d i, ((l[i]?).bind (·.dst)) = some d → d < a.tmps.size → A.eval (.tmp d) = f i) → (∀ d, apartD (some d) l = true → A.eval (.tmp d) = a.eval (.tmp d)) → (∀ j, dep l.toArray l.length j k = true → f j = old a l j) →
      o.wp P A w (fun a' w' => ∃ v, a' = A.put o.dst v ∧ Q w w' ∧ φ k v w' ∧ FrE l grp f k w w' v) R) : StepE C T loud fixed grp P R l a φ k o := fun f w hc hf hD A hA hB hO =>
  .inl ⟨.inl ⟨rfl, hgd⟩, Oper.wp_mono (fun a' w' ⟨v, e, hq, hp, hfr⟩ => ⟨v, e, by rw [hk]; exact hq, hp, hfr⟩) (h f w hc hf hD A hA hB hO)⟩
end
def FixT (T : World → World → Prop) (p : Value → World → Prop) : Prop := ∀ v w1 w2, p v w1 → T w1 w2 → p v w2
theorem fixT_isV {T : World → World → Prop} (c : Value) : FixT T (isV c) := fun _ _ _ h _ => h
def FixTL (T : World → World → Prop) : List (Value → World → Prop) → Nat → List Nat → Prop
  | [], _, _ => True
  | p :: r, k, L => (isIn L k = true → FixT T p) ∧ FixTL T r (k + 1) L
theorem phi_fixT' {T : World → World → Prop} : ∀ {ps : List (Value → World → Prop)} {k : Nat} {L : List Nat}, FixTL T ps k L → ∀ i, isIn L (k + i) = true → FixT T (phi ps i)
  | [], _, _, _, i, _ => fun _ _ _ _ _ => trivial
  | p :: r, k, L, h, 0, hi => h.1 hi
  | p :: r, k, L, h, i + 1, hi => phi_fixT' (ps := r) h.2 i (by rw [show k + 1 + i = k + (i + 1) by omega]; exact hi)
theorem phi_fixT {T : World → World → Prop} {ps : List (Value → World → Prop)} {L : List Nat} (h : FixTL T ps 0 L) (i : Nat) (hi : isIn L i = true) : ∀ v w1 w2, phi ps i v w1 → T w1 w2 → phi ps i v w2 := phi_fixT' h i (by rw [Nat.zero_add]; exact hi)
/-- a new block -/
theorem wp_newE {P : Program} {R : Exit → Act → World → Prop} {o : Oper} {A : Act} {w : World} {φ : Value → World → Prop} {l : List Oper} {grp : Nat → Nat} {f : Nat → Value} {k : Nat} {ob : Obj} (h : (execOp A.eval o).run P w = .ok (.value (.pointer (some ⟨w.heap.size, 0, none⟩))) (w.alloc ob)) (hφ : φ (.pointer (some ⟨w.heap.size, 0, none⟩)) (w.alloc ob)) :
    o.wp P A w (fun a' w' => ∃ v, a' = A.put o.dst v ∧ Q w w' ∧ φ v w' ∧ FrE l grp f k w w' v) R := by
  unfold Oper.wp
  rw [h]
  refine ⟨_, rfl, (Q.refl _).alloc _, hφ, .inr fun b hb => ?_⟩
  have : b = w.heap.size := by
    unfold blkOf at hb
    simpa using hb.symm
  subst this
  exact ⟨by simp, .inl (Nat.le_refl _)⟩
theorem madeE {C : World → Prop} {T : World → World → Prop} (loud fixed : List Nat) (grp : Nat → Nat) (c : Nat) {P : Program} {id : Nat} {R : Exit → Act → World → Prop} {a : Act} {w : World} {l : List Oper} (hCq : ∀ w1 w2, C w1 → Q w1 w2 → C w2) (hTr : ∀ w, T w w) (φ : Nat → Value → World → Prop) (hm : P.follows .mixedOrders = true) (hB : chk l = true) (hU : useB l loud fixed = true) (hF : farB l.toArray c = true) (hcl : c ≤ l.length)
    (hseq : Region.seqB .any l.toArray (l.drop c).length c ((Array.range l.length).map fun j => decide (j < c)) = true)
    (hC : C w.drew) (hmono : ∀ i v w1 w2, φ i v w1 → Q w1 w2 → φ i v w2) (hfix : ∀ i, isIn fixed i = true → ∀ v w1 w2, φ i v w1 → T w1 w2 → φ i v w2) (hstep : All (StepE C T loud fixed grp P R l a φ) 0 (l.take c))
    (hend : ∀ f w', C w' → w.heap.size ≤ w'.heap.size → (∀ j, j < c → isIn fixed j = true → φ j (f j) w') → ApE grp (fun j => j < c) f → wpList P l.toArray R (l.drop c) (acts f 0 l a) w') : (Code.region id l.toArray true).wp P R a w := by
  unfold chk at hB
  rw [Bool.and_eq_true] at hB
  have hev : ∀ (f : Nat → Value) d i, ((l[i]?).bind (·.dst)) = some d → d < a.tmps.size → (acts f 0 l a).eval (.tmp d) = f i := fun f d i hdi hs => acts_get l 0 a hB.1 (Nat.zero_le _) (by simpa using hdi) hs
  have hsame : ∀ (f : Nat → Value) d, apartD (some d) l = true → (acts f 0 l a).eval (.tmp d) = a.eval (.tmp d) := fun f d hd' => acts_same l 0 a hd'
  refine wp_region_any hm ?_
  have hst : a = acts (old a l) 0 l a := start
  have key := any_upto (P := P) (ops := l.toArray) (R := R) (A := fun f => acts f 0 l a) (c := c) (n := (l.drop c).length) (fun S f w' => C w' ∧ (∀ j, j < l.length → S j = true → (isIn fixed j = true ∨ ∃ i, i < l.length ∧ gotB l loud fixed i j = true ∧ S i = false) → φ j (f j) w') ∧ (∀ j, S j = false → f j = old a l j) ∧ w.heap.size ≤ w'.heap.size ∧ (∀ j, S j = true → grp j ≠ 0 → ∀ b, blkOf (f j) = some b → b < w'.heap.size) ∧ ApE grp (fun j => S j = true) f)
    (fun f i o v ho => acts_upd v l 0 a hB.1 (Nat.zero_le _) (by simpa using ho)) hB.2 hF (by simpa using hcl)
    (fun S f w1 i o hic ho hSi hdep hwait hJ => by
      have ho' : l[i]? = some o := by simpa using ho
      have hil : i < l.length := (List.getElem?_eq_some_iff.1 ho').1
      have ho2 : (l.take c)[i]? = some o := by rw [List.getElem?_take, if_pos hic]; exact ho'
      have hs := all_get hstep ho2
      rw [Nat.zero_add] at hs
      obtain ⟨J1, J2, J3, J4, J5, J6⟩ := hJ
      have hjl : ∀ j, dep l.toArray l.length i j = true → j < l.length := fun j hj => by
        refine Classical.byContradiction fun hge => ?_
        exact absurd hj (by rw [dep_far hB.2 l.length i j (by simpa using hge)]; exact Bool.false_ne_true)
      have hdl : ∀ j, gotB l loud fixed i j = true → φ j (f j) w1 := fun j hj => J2 j (hjl j (got_dep hj)) (hdep j (by simpa using got_dep hj)) (.inr ⟨i, hil, hj, hSi⟩)
      have := hs f w1 J1 hdl (fun p q hp hq => J6 p q (hdep p (by simpa using hp)) (hdep q (by simpa using hq))) _ (hev f) (hsame f) (fun j hj => J3 j (hwait j (by simpa using hj)))
      have grow : ∀ v w2, (if isIn loud i then C w2 ∧ T w1 w2 ∧ w1.heap.size ≤ w2.heap.size else Q w1 w2) → φ i v w2 → FrE l grp f i w1 w2 v → (C w2 ∧ (∀ j, j < l.length → upd S i true j = true → (isIn fixed j = true ∨ ∃ i', i' < l.length ∧ gotB l loud fixed i' j = true ∧ upd S i true i' = false) → φ j (upd f i v j) w2) ∧ (∀ j, upd S i true j = false → upd f i v j = old a l j) ∧ w.heap.size ≤ w2.heap.size ∧ (∀ j, upd S i true j = true → grp j ≠ 0 → ∀ b, blkOf (upd f i v j) = some b → b < w2.heap.size) ∧ ApE grp (fun j => upd S i true j = true) (upd f i v)) := fun v w2 hq hφ hfr => by
        have hsz : w1.heap.size ≤ w2.heap.size := by
          cases hl : isIn loud i with
          | true => rw [hl] at hq; exact hq.2.2
          | false => rw [hl] at hq; exact Q.size hq
        refine ⟨?_, fun j hj hSj hal => ?_, fun j hSj => ?_, Nat.le_trans J4 hsz, fun j hSj hgj b hb => ?_, fun p q hp hq2 gp gq gpq b hb => ?_⟩
        · cases hl : isIn loud i with
          | true => rw [hl] at hq; exact hq.1
          | false => rw [hl] at hq; exact hCq _ _ J1 hq
        · by_cases e : j = i
          · unfold upd
            rw [if_pos e, e]
            exact hφ
          · have e1 : upd f i v j = f j := by unfold upd; rw [if_neg e]
            have e2 : S j = true := by unfold upd at hSj; rw [if_neg e] at hSj; exact hSj
            have hal0 : isIn fixed j = true ∨ ∃ i', i' < l.length ∧ gotB l loud fixed i' j = true ∧ S i' = false := by
              rcases hal with h | ⟨i', h1, h2, h3⟩
              · exact .inl h
              · refine .inr ⟨i', h1, h2, ?_⟩
                unfold upd at h3
                by_cases e3 : i' = i
                · rw [if_pos e3] at h3; cases h3
                · rw [if_neg e3] at h3; exact h3
            have hp := J2 j hj e2 hal0
            rw [e1]
            cases hl : isIn loud i with
            | false => rw [hl] at hq; exact hmono _ _ _ _ hp hq
            | true =>
              cases hfx : isIn fixed j with
              | true => rw [hl] at hq; exact hfix j hfx _ _ _ hp hq.2.1
              | false =>
                exfalso
                cases hdj : dep l.toArray l.length j i with
                | true =>
                  have := hwait j (by simpa using hdj)
                  rw [e2] at this
                  cases this
                | false =>
                  have hu := use_of hU hl hj e hfx hdj
                  rcases hal with h | ⟨i', h1, h2, h3⟩
                  · rw [hfx] at h; cases h
                  · rcases hu i' h1 h2 with h4 | h4
                    · subst h4
                      unfold upd at h3
                      rw [if_pos rfl] at h3
                      cases h3
                    · have h5 := hdep i' (by simpa using h4)
                      unfold upd at h3
                      by_cases e3 : i' = i
                      · rw [if_pos e3] at h3; cases h3
                      · rw [if_neg e3, h5] at h3; cases h3
        · unfold upd at hSj ⊢
          by_cases e : j = i
          · rw [if_pos e] at hSj; cases hSj
          · rw [if_neg e] at hSj ⊢
            exact J3 j hSj
        · unfold upd at hSj hb
          by_cases e : j = i
          · rw [if_pos e] at hb
            subst e
            rcases hfr with h | h
            · exact absurd h hgj
            · exact (h b hb).1
          · rw [if_neg e] at hSj hb
            exact Nat.lt_of_lt_of_le (J5 j hSj hgj b hb) hsz
        · have hp1 : upd S i true p = true := hp
          have hq1 : upd S i true q = true := hq2
          clear hp hq2
          unfold upd at hp1 hq1 hb ⊢
          by_cases e1 : p = i
          · subst e1
            have e2 : q ≠ p := fun e => gpq (by rw [e])
            rw [if_pos rfl] at hb
            rw [if_neg e2] at hq1 ⊢
            intro hb2
            rcases hfr with h | h
            · exact gp h
            · rcases (h b hb).2 with h6 | ⟨j, h6, h7, h8⟩
              · have := J5 q hq1 gq b hb2
                omega
              · exact J6 j q (hdep j (by simpa using h6)) hq1 (by rw [h7]; exact gp) gq (by rw [h7]; exact gpq) b h8 hb2
          · rw [if_neg e1] at hp1 hb
            by_cases e2 : q = i
            · subst e2
              rw [if_pos rfl]
              intro hb2
              rcases hfr with h | h
              · exact gq h
              · rcases (h b hb2).2 with h6 | ⟨j, h6, h7, h8⟩
                · have := J5 p hp1 gp b hb
                  omega
                · exact J6 p j hp1 (hdep j (by simpa using h6)) gp (by rw [h7]; exact gq) (by rw [h7]; exact gpq) b hb h8
            · rw [if_neg e2] at hq1 ⊢
              exact J6 p q hp1 hq1 gp gq gpq b hb
      rcases this with ⟨hw, hwp⟩ | ⟨hw, hφ, hg0⟩
      · rw [if_pos (wanted_of hB.1 hw)]
        exact Oper.wp_mono (fun a' w2 ⟨v, e, hq, hφ, hfr⟩ => ⟨v, e, grow v w2 hq hφ hfr⟩) hwp
      · rw [if_neg (by rw [wanted_of hB.1 hw]; exact Bool.false_ne_true)]
        refine grow undef w1 ?_ hφ (.inl hg0)
        cases hl : isIn loud i with
        | true => exact ⟨J1, hTr _, Nat.le_refl _⟩
        | false => exact Q.refl _)
    (fun f w1 L hLs hL hJ => by
      have hLe : L = (Array.range l.length).map fun j => decide (j < c) := by
        apply Array.ext
        · simpa using hLs
        · intro i h1 h2
          have e1 := hL i
          simp [h1] at e1
          simpa using e1
      have hSt : ∀ j, j < c → L.getD j false = true := fun j hj => by rw [hL j]; simp [hj]
      refine wpAny_of_seq (l.drop c) c L _ w1 (fun j => by simp [List.getElem?_drop]) (by rw [hLe]; exact hseq) (hend f w1 hJ.1 hJ.2.2.2.1 (fun j hj hfx => hJ.2.1 j (by omega) (hSt j hj) (.inl hfx)) (fun p q hp hq => hJ.2.2.2.2.2 p q (hSt p hp) (hSt q hq))))
    (cntF (Array.replicate l.toArray.size false) c) (Array.replicate l.toArray.size false) (old a l) { w with drawn := w.drawn + 1 } (by simp) rfl (fun j _ => getD_rep _ _) (fun i o ho h => absurd h (by rw [getD_rep]; exact Bool.false_ne_true)) (by
      have hno : ∀ j, ¬ ((Array.replicate l.toArray.size false).getD j false = true) := fun j => by rw [getD_rep]; exact Bool.false_ne_true
      exact ⟨hC, fun j hj h => absurd h (hno j), fun j _ => rfl, Nat.le_refl _, fun j h => absurd h (hno j), fun p q hp => absurd hp (hno p)⟩)
  rw [← hst] at key
  have e : cntF (Array.replicate l.toArray.size false) c + (l.drop c).length = l.toArray.size := by
    have h : ∀ k, cntF (Array.replicate l.toArray.size false) k = k := fun k => by
      induction k with
      | zero => rfl
      | succ k ih =>
        unfold cntF
        rw [ih, getD_rep, if_neg Bool.false_ne_true]
    rw [h, List.length_drop]
    simp
    omega
  rw [e] at key
  exact key
end Ri
end Go.Proofs.YtdaklffbfadghaaGreat

namespace Go.Proofs.YtdaklffbfadghaaGreat
open Go.RowKit HP
set_option linter.unusedVariables false
set_option linter.unusedSimpArgs false
set_option maxHeartbeats 4000000 in
set_option maxRecDepth 100000 in
theorem isBefore_any (a0 a1 a2 b0 b1 b2 : Int) (w : World) : Calls Tryz.prog 83 #[.agg #[.int .i64 a0, .int .i64 a1, .int .i64 a2], .agg #[.int .i64 b0, .int .i64 b1, .int .i64 b2]] w fun e w' => e = .returned (.bool (bf [a0, a1, a2] [b0, b1, b2])) ∧ Q w w' := by
  have e : bf [a0, a1, a2] [b0, b1, b2] = (decide (a0 < b0) || ((a0 == b0) && decide (a2 < b2))) := by
    unfold bf
    simp
    rfl
  rw [e]
  clear e
  cases h1 : decide (a0 < b0) with
  | true =>
    go_enter Tryz.func83, Tryz.ntmps83
    go_wp2_with fail
    go_ret
    exact ⟨rfl, ((Q.refl _).alloc _).alloc _⟩
  | false =>
    cases h2 : (a0 == b0) with
    | false =>
      go_enter Tryz.func83, Tryz.ntmps83
      go_wp2_with fail
      go_ret
      exact ⟨rfl, ((Q.refl _).alloc _).alloc _⟩
    | true =>
      cases h3 : decide (a2 < b2) with
      | false =>
        go_enter Tryz.func83, Tryz.ntmps83
        go_wp2_with fail
        go_ret
        exact ⟨rfl, ((Q.refl _).alloc _).alloc _⟩
      | true =>
        go_enter Tryz.func83, Tryz.ntmps83
        go_wp2_with fail
        go_ret
        exact ⟨rfl, ((Q.refl _).alloc _).alloc _⟩
/-- an open queue -/
structure QueR (m : HM) (r : Rw) (Ls : List (List Int)) (t : Int) : Prop where
  inv : Inv m
  kp : Kp m 3 r.ps Ls
  n : Ls.length = r.n
  op : r.closed = false
  bd : BdL Ls
  more : r.more = [.int .i64 t]
theorem QueR.le {m : HM} {r : Rw} {Ls : List (List Int)} {t : Int} (S : QueR m r Ls t) : Ls.length ≤ 64 := S.kp.len
theorem QueR.row {m : HM} {r : Rw} {Ls : List (List Int)} {t : Int} (S : QueR m r Ls t) {i : Nat} (hi : i < Ls.length) : ∃ a0 a1 a2, Ls[i]? = some [a0, a1, a2] ∧ rw_ Ls i = [a0, a1, a2] := by
  obtain ⟨x, hx⟩ : ∃ x, Ls[i]? = some x := ⟨Ls[i], List.getElem?_eq_getElem hi⟩
  obtain ⟨a0, a1, a2, rfl⟩ := row3 (S.kp.wide (List.mem_of_getElem? hx))
  exact ⟨a0, a1, a2, hx, rw_get hx⟩
/-- a row of three numbers is none of the heap's or the rows' -/
theorem fp_three {W : World} {h1 : Hp} {r1 : Rw} (L : LR W h1 r1) (hty : r1.ty = 124) {b : Nat} {cs : Array Value} {k : Nat × Nat} (hc : W.heap[b]? = some (.cells cs 135 k)) : ¬ h1.fp b ∧ ¬ r1.fp b := by
  have H := L.heap
  refine ⟨fun hf => ?_, fun hf => ?_⟩
  · rcases hf with hb | hb | ⟨x, hx, hb⟩ | ⟨hk, hb⟩
    · subst hb
      exact ty_ne hc H.cells (by decide) rfl
    · obtain ⟨cs', e'⟩ := own_blk H.live hb
      exact ty_ne hc e' (by decide) rfl
    · subst hb
      obtain ⟨cs', e'⟩ := own_blk (H.rows x hx) x.own
      exact ty_ne hc e' (by decide) rfl
    · subst hb
      rcases hk with hk | hk
      · exact ty_ne hc (H.w1 hk) (by decide) rfl
      · exact ty_ne hc (H.w2 hk) (by decide) rfl
  · rcases hf with hb | hb
    · subst hb
      have := L.cells
      rw [hty] at this
      exact ty_ne hc this (by decide) rfl
    · obtain ⟨cs', e'⟩ := own_blk L.pcs hb
      exact ty_ne hc e' (by decide) rfl
/-- rows of three numbers stay as they are -/
def T3 (W W' : World) : Prop := W.heap.size ≤ W'.heap.size ∧ ∀ (b : Nat) (cs : Array Value) (k : Nat × Nat), W.heap[b]? = some (.cells cs 135 k) → W'.heap[b]? = W.heap[b]?
def isBx (B : Nat) (v : Value) (W : World) : Prop := ∃ b, v = .pointer (some ⟨b, 0, none⟩) ∧ B ≤ b ∧ W.heap[b]? = some (.cells #[.int .i64 0, .int .i64 0, .int .i64 0] 135 (0, 0))
theorem mono_bx (B : Nat) : Ri.Mono (isBx B) := fun _ _ _ ⟨b, e, h1, h2⟩ hq => ⟨b, e, h1, (hq.below.block _ (blk_lt h2)).trans h2⟩
theorem cells3 {W : World} {b : Nat} {x y z : Value} {t : TypeId} (h : W.heap[b]? = some (.cells #[x, y, z] t (0, 0))) : W.cell? ⟨b, 0, none⟩ = some x ∧ W.cell? ⟨b, 1, none⟩ = some y ∧ W.cell? ⟨b, 2, none⟩ = some z ∧ W.frozen? ⟨b, 0, none⟩ = false ∧ W.frozen? ⟨b, 1, none⟩ = false ∧ W.frozen? ⟨b, 2, none⟩ = false ∧ b < W.heap.size := by
  refine ⟨?_, ?_, ?_, frozen_of_row _ _ _ _ _ h, frozen_of_row _ _ _ _ _ h, frozen_of_row _ _ _ _ _ h, blk_lt h⟩
  all_goals (rw [cell_of_row _ _ _ _ _ _ h]; rfl)
theorem fixT_bx (B : Nat) : Ri.FixT T3 (isBx B) := fun _ _ _ ⟨b, e, h1, h2⟩ ht => ⟨b, e, h1, (ht.2 _ _ _ h2).trans h2⟩
def gS (i : Nat) : Nat := if i = 10 then 1 else if i = 11 then 2 else 0
theorem run_alloc3 {o : Oper} {A : Act} {W : World} (ho : o.op = .alloc 135) : (execOp A.eval o).run Tryz.prog W = .ok (.value (.pointer (some ⟨W.heap.size, 0, none⟩))) (W.alloc (.cells #[.int .i64 0, .int .i64 0, .int .i64 0] 135)) := by
  unfold execOp
  simp only [ho]
  have h : (Instr.alloc 135 true (.tuple #[])).run Tryz.prog W = .ok (.pointer (some ⟨W.heap.size, 0, none⟩)) (W.alloc (.cells #[.int .i64 0, .int .i64 0, .int .i64 0] 135)) := by kernel_rfl
  simp [Sem.run_bind, h, Result.andThen]
section
variable {w W W' : World} {h : Hp} {r r1 : Rw} {m : HM} {Ls : List (List Int)} {t : Int}
theorem LS.ty (X : LS w h r W m r1) (hty : r.ty = 124) : r1.ty = 124 := by
  obtain ⟨h1, D, e⟩ := X
  exact D.rt.trans hty
theorem LS.size (X : LS w h r W m r1) : w.heap.size ≤ W.heap.size := by
  obtain ⟨h1, D, e⟩ := X
  exact D.turn.size
/-- a call on the rows, told with what it leaves of rows of three numbers -/
theorem LS.callT (X : LS w h r W m r1) (hty : r.ty = 124) {f : FuncId} {args : Array Value} {P : Ending → HM → Rw → Prop}
    (hc : ∀ h1, LR W h1 r1 → h1.m = m → h1.ptr = h.ptr → Calls Tryz.prog f args W fun e W' => ∃ m2 r2, LS W h1 r1 W' m2 r2 ∧ P e m2 r2) : Calls Tryz.prog f args W fun e W' => ∃ m2 r2, LS w h r W' m2 r2 ∧ T3 W W' ∧ P e m2 r2 := by
  have ht := X.ty hty
  obtain ⟨h1, D, e⟩ := X
  refine (hc h1 D.lr e (by unfold Hp.ptr; rw [D.hb])).mono ?_
  rintro en W' ⟨m2, r2, ⟨h2, D2, e2⟩, hP⟩
  refine ⟨m2, r2, ⟨h2, D.trans D2, e2⟩, ⟨D2.turn.size, fun b cs k hb => ?_⟩, hP⟩
  obtain ⟨n1, n2⟩ := fp_three D.lr ht hb
  exact D2.turn.block b (blk_lt hb) fun x => x.elim n1 n2
theorem ls_read3 (X : LS w h r W m r1) (hty : r.ty = 124) (S : QueR m r1 Ls t) (i : Nat) {a0 a1 a2 : Int} (hi : Ls[i]? = some [a0, a1, a2]) : Calls Tryz.prog 81 #[.pointer (some ⟨r.blk, 0, none⟩), .int .i64 (i : Int)] W fun e W' => e = .returned (.agg #[.int .i64 a0, .int .i64 a1, .int .i64 a2]) ∧ LS w h r W' m r1 ∧ T3 W W' := by
  have hil := (List.getElem?_eq_some_iff.1 hi).1
  have := S.le
  have hrb := X.rb
  refine (X.callT hty (P := fun e m2 r2 => e = .returned (.agg #[.int .i64 a0, .int .i64 a1, .int .i64 a2]) ∧ m2 = m ∧ r2 = r1) fun h1 L e1 _ => ?_).mono ?_
  · have := read3_any L (by rw [e1]; exact S.inv) i (by omega) (x0 := a0) (x1 := a1) (x2 := a2) (by rw [e1]; exact S.kp.row i _ hi) (S.bd _ (List.mem_of_getElem? hi))
    unfold Rw.ptr at this
    rw [hrb] at this
    refine this.mono ?_
    rintro e W' ⟨he, hX⟩
    exact ⟨h1.m, r1, hX, he, e1, rfl⟩
  · rintro e W' ⟨m2, r2, hX, hT, he, rfl, rfl⟩
    exact ⟨he, hX, hT⟩
/-- the state beside two boxes of the walk's own -/
theorem LS.two (X : LS w h r W m r1) (hty : r.ty = 124) {b7 b8 : Nat} {c7 c8 : Array Value} (h7 : W.heap[b7]? = some (.cells c7 135 (0, 0))) (h8 : W.heap[b8]? = some (.cells c8 135 (0, 0))) (g7 : w.heap.size ≤ b7) (g8 : w.heap.size ≤ b8) (hne : b7 ≠ b8) : LB w h r W m r1 [(b7, c7, 135), (b8, c8, 135)] := by
  have ht := X.ty hty
  obtain ⟨h1, D, e⟩ := X
  refine ⟨h1, D, e, fun x hx => ?_, fun x hx => ?_, fun x hx => ?_, ?_⟩
  · rcases List.mem_cons.1 hx with rfl | hx
    · exact h7
    · rw [List.mem_singleton] at hx
      subst hx
      exact h8
  · rcases List.mem_cons.1 hx with rfl | hx
    · exact fp_three D.lr ht h7
    · rw [List.mem_singleton] at hx
      subst hx
      exact fp_three D.lr ht h8
  · rcases List.mem_cons.1 hx with rfl | hx
    · exact g7
    · rw [List.mem_singleton] at hx
      subst hx
      exact g8
  · simp [hne]
theorem Wrtn.trans {m m1 m2 : HM} {T : Nat} {ps : List Int} (a : Wrtn m m1 T ps) (c : Wrtn m1 m2 T ps) : Wrtn m m2 T ps := ⟨c.inv, a.fr.trans c.fr, c.calls.trans a.calls, c.failIn.trans a.failIn⟩
theorem lb_setrow {bs : List Loc} (X : LB w h r W m r1 bs) (S : QueR m r1 Ls t) (i : Nat) (hi : i < Ls.length) (a0 a1 a2 : Int) (hb : ∀ v ∈ [a0, a1, a2], -9223372036854775808 ≤ v ∧ v ≤ 9223372036854775807) :
    Calls Tryz.prog 80 #[.pointer (some ⟨r.blk, 0, none⟩), .int .i64 (i : Int), .agg #[.int .i64 a0, .int .i64 a1, .int .i64 a2]] W fun e W' => e = .returned (.tuple #[]) ∧ ∃ m1, LB w h r W' m1 r1 bs ∧ QueR m1 r1 (Ls.set i [a0, a1, a2]) t ∧ Wrtn m m1 3 r1.ps := by
  have h64 := S.le
  obtain ⟨p, hp, -, hh⟩ := S.kp.pcs.at hi
  have := lb_write3 X S.inv i (by omega) hp hh [a0, a1, a2] rfl
  unfold Rw.ptr at this
  refine this.mono ?_
  rintro e W' ⟨he, m1, X1, Wr⟩
  obtain ⟨k1, f1⟩ := S.kp.set hi hp rfl Wr
  exact ⟨he, m1, X1, ⟨Wr.inv, k1, by rw [List.length_set]; exact S.n, S.op, fun row hr v hv => by
    rcases List.mem_or_eq_of_mem_set hr with h | h
    · exact S.bd row h v hv
    · rw [h] at hv
      exact hb v hv, S.more⟩, Wr.inv, f1, Wr.calls, Wr.failIn⟩
set_option maxHeartbeats 4000000 in
set_option maxRecDepth 100000 in
theorem swap_any (L : LR w h r) (hty : r.ty = 124) (S : QueR h.m r Ls t) (i k : Nat) (hi : i < Ls.length) (hk : k < Ls.length) (hne : i ≠ k) :
    Calls Tryz.prog 79 #[r.ptr, .int .i64 (i : Int), .int .i64 (k : Int)] w fun e w' => ∃ m', LS w h r w' m' r ∧ ((bf (rw_ Ls i) (rw_ Ls k) = false ∧ e = .returned (.bool false) ∧ m' = h.m) ∨ (bf (rw_ Ls i) (rw_ Ls k) = true ∧ e = .returned (.bool true) ∧ QueR m' r (swp Ls i k) t ∧ Wrtn h.m m' 3 r.ps)) := by
  obtain ⟨a0, a1, a2, hi2, ea⟩ := S.row hi
  obtain ⟨b0, b1, b2, hk2, eb⟩ := S.row hk
  have HX0 : Hid (LS w h r w h.m r) := LS.start L
  have HRI : Hid (∀ W, LS w h r W h.m r → Calls Tryz.prog 81 #[.pointer (some ⟨r.blk, 0, none⟩), .int .i64 (i : Int)] W fun e W' => e = .returned (.agg #[.int .i64 a0, .int .i64 a1, .int .i64 a2]) ∧ LS w h r W' h.m r ∧ T3 W W') := fun W X => ls_read3 X hty S i hi2
  have HRK : Hid (∀ W, LS w h r W h.m r → Calls Tryz.prog 81 #[.pointer (some ⟨r.blk, 0, none⟩), .int .i64 (k : Int)] W fun e W' => e = .returned (.agg #[.int .i64 b0, .int .i64 b1, .int .i64 b2]) ∧ LS w h r W' h.m r ∧ T3 W W') := fun W X => ls_read3 X hty S k hk2
  have HSZ : Hid (∀ W, LS w h r W h.m r → w.heap.size ≤ W.heap.size) := fun W X => X.size
  have HTY := hide hty
  have HS := hide S
  rw [ea, eb]
  have hrp : r.ptr = .pointer (some ⟨r.blk, 0, none⟩) := rfl
  rw [hrp]
  obtain ⟨b, ebk⟩ : ∃ b, b = r.blk := ⟨_, rfl⟩
  rw [← ebk] at HRI HRK ⊢
  have HBX := hide ebk
  clear hrp eb ea ebk
  go_enter Tryz.func79, Tryz.ntmps79
  go_wp2_with fail
  refine Ri.madeE (C := fun W => LS w h r W h.m r) (T := T3) [4, 9] [0, 1, 2, 3, 4, 5, 6, 7, 8, 9, 10, 11] gS 12 (fun w1 w2 X hq => X.q hq) (fun w => ⟨Nat.le_refl _, fun _ _ _ _ => rfl⟩) (Ri.phi [Ri.isV (.pointer (some ⟨b, 0, none⟩)), Ri.isV (.pointer (some ⟨b, 0, none⟩)), Ri.isV (.pointer (some ⟨b, 0, none⟩)), Ri.isV (.int .i64 (i : Int)), Ri.isV (.agg #[.int .i64 a0, .int .i64 a1, .int .i64 a2]), Ri.isV (.pointer (some ⟨b, 0, none⟩)), Ri.isV (.pointer (some ⟨b, 0, none⟩)), Ri.isV (.pointer (some ⟨b, 0, none⟩)), Ri.isV (.int .i64 (k : Int)), Ri.isV (.agg #[.int .i64 b0, .int .i64 b1, .int .i64 b2]), (isBx w.heap.size), (isBx w.heap.size)]) (by kernel_rfl) (by kernel_rfl) (by kernel_rfl) (by kernel_rfl) (by decide) (by kernel_rfl) (HX0.out.q (Q.refl _).drew) (Ri.phi_mono ?_) (Ri.phi_fixT ?_) ?_ ?_
  · exact ⟨Ri.mono_isV _, Ri.mono_isV _, Ri.mono_isV _, Ri.mono_isV _, Ri.mono_isV _, Ri.mono_isV _, Ri.mono_isV _, Ri.mono_isV _, Ri.mono_isV _, Ri.mono_isV _, mono_bx _, mono_bx _, trivial⟩
  · exact ⟨fun _ => Ri.fixT_isV _, fun _ => Ri.fixT_isV _, fun _ => Ri.fixT_isV _, fun _ => Ri.fixT_isV _, fun _ => Ri.fixT_isV _, fun _ => Ri.fixT_isV _, fun _ => Ri.fixT_isV _, fun _ => Ri.fixT_isV _, fun _ => Ri.fixT_isV _, fun _ => Ri.fixT_isV _, fun _ => fixT_bx _, fun _ => fixT_bx _, trivial⟩
  · refine Ri.All.cons ?_ (Ri.All.cons ?_ (Ri.All.cons ?_ (Ri.All.cons ?_ (Ri.All.cons ?_ (Ri.All.cons ?_ (Ri.All.cons ?_ (Ri.All.cons ?_ (Ri.All.cons ?_ (Ri.All.cons ?_ (Ri.All.cons ?_ (Ri.All.cons ?_ (Ri.All.nil))))))))))))
    · refine Ri.StepE.z (by kernel_rfl) rfl (Ri.StepZ.q (by kernel_rfl) rfl fun f W hq hf A hA hB hO => ?_)
      have e1 := (hB 0 (by kernel_rfl)).trans (show _ = .pointer (some ⟨b, 0, none⟩) by simp [Act.eval])
      exact Ri.wp_value _ (Ri.run_mv rfl e1) rfl
    · refine Ri.StepE.z (by kernel_rfl) rfl (Ri.StepZ.q (by kernel_rfl) rfl fun f W hq hf A hA hB hO => ?_)
      have e1 := (hA 9 0 (by kernel_rfl) (by simp)).trans (show f 0 = _ from hf 0 (by kernel_rfl))
      exact Ri.wp_value _ (Ri.run_nil rfl e1) rfl
    · refine Ri.StepE.z (by kernel_rfl) rfl (Ri.StepZ.q (by kernel_rfl) rfl fun f W hq hf A hA hB hO => ?_)
      have e1 := (hA 10 1 (by kernel_rfl) (by simp)).trans (show f 1 = _ from hf 1 (by kernel_rfl))
      exact Ri.wp_value _ (Ri.run_fld (f := _) rfl e1 Tryz.underlying124 rfl (sz := 3) (by kernel_rfl)) rfl
    · refine Ri.StepE.z (by kernel_rfl) rfl (Ri.StepZ.q (by kernel_rfl) rfl fun f W hq hf A hA hB hO => ?_)
      have e1 := (hB 1 (by kernel_rfl)).trans (show _ = .int .i64 (i : Int) by simp [Act.eval])
      exact Ri.wp_value _ (Ri.run_mv rfl e1) rfl
    · refine Ri.StepE.c (by kernel_rfl) rfl rfl fun f W hq hf A hA hB hO => ?_
      have e1 := (hA 11 2 (by kernel_rfl) (by simp)).trans (show f 2 = _ from hf 2 (by kernel_rfl))
      have e2 := (hA 12 3 (by kernel_rfl) (by simp)).trans (show f 3 = _ from hf 3 (by kernel_rfl))
      refine Ri.wp_callZ (C := fun W' => LS w h r W' h.m r ∧ T3 W W' ∧ W.heap.size ≤ W'.heap.size) #[.pointer (some ⟨b, 0, none⟩), .int .i64 (i : Int)] rfl (by simp [e1, e2]) Tryz.func81 (by kernel_rfl) (by kernel_rfl) ((HRI.out W hq).mono ?_)
      rintro e w3 ⟨rfl, h1, h2⟩
      exact ⟨_, rfl, ⟨h1, h2, h2.1⟩, rfl⟩
    · refine Ri.StepE.z (by kernel_rfl) rfl (Ri.StepZ.q (by kernel_rfl) rfl fun f W hq hf A hA hB hO => ?_)
      have e1 := (hB 0 (by kernel_rfl)).trans (show _ = .pointer (some ⟨b, 0, none⟩) by simp [Act.eval])
      exact Ri.wp_value _ (Ri.run_mv rfl e1) rfl
    · refine Ri.StepE.z (by kernel_rfl) rfl (Ri.StepZ.q (by kernel_rfl) rfl fun f W hq hf A hA hB hO => ?_)
      have e1 := (hA 14 5 (by kernel_rfl) (by simp)).trans (show f 5 = _ from hf 5 (by kernel_rfl))
      exact Ri.wp_value _ (Ri.run_nil rfl e1) rfl
    · refine Ri.StepE.z (by kernel_rfl) rfl (Ri.StepZ.q (by kernel_rfl) rfl fun f W hq hf A hA hB hO => ?_)
      have e1 := (hA 15 6 (by kernel_rfl) (by simp)).trans (show f 6 = _ from hf 6 (by kernel_rfl))
      exact Ri.wp_value _ (Ri.run_fld (f := _) rfl e1 Tryz.underlying124 rfl (sz := 3) (by kernel_rfl)) rfl
    · refine Ri.StepE.z (by kernel_rfl) rfl (Ri.StepZ.q (by kernel_rfl) rfl fun f W hq hf A hA hB hO => ?_)
      have e1 := (hB 2 (by kernel_rfl)).trans (show _ = .int .i64 (k : Int) by simp [Act.eval])
      exact Ri.wp_value _ (Ri.run_mv rfl e1) rfl
    · refine Ri.StepE.c (by kernel_rfl) rfl rfl fun f W hq hf A hA hB hO => ?_
      have e1 := (hA 16 7 (by kernel_rfl) (by simp)).trans (show f 7 = _ from hf 7 (by kernel_rfl))
      have e2 := (hA 17 8 (by kernel_rfl) (by simp)).trans (show f 8 = _ from hf 8 (by kernel_rfl))
      refine Ri.wp_callZ (C := fun W' => LS w h r W' h.m r ∧ T3 W W' ∧ W.heap.size ≤ W'.heap.size) #[.pointer (some ⟨b, 0, none⟩), .int .i64 (k : Int)] rfl (by simp [e1, e2]) Tryz.func81 (by kernel_rfl) (by kernel_rfl) ((HRK.out W hq).mono ?_)
      rintro e w3 ⟨rfl, h1, h2⟩
      exact ⟨_, rfl, ⟨h1, h2, h2.1⟩, rfl⟩
    · refine Ri.StepE.gr (by kernel_rfl) rfl fun f W hq hf hD A hA hB hO => ?_
      exact Ri.wp_newE (run_alloc3 rfl) ⟨_, rfl, HSZ.out W hq, heap_alloc_new _ _⟩
    · refine Ri.StepE.gr (by kernel_rfl) rfl fun f W hq hf hD A hA hB hO => ?_
      exact Ri.wp_newE (run_alloc3 rfl) ⟨_, rfl, HSZ.out W hq, heap_alloc_new _ _⟩
  · intro f W hq hsz hf hD
    have e4 : f 4 = .agg #[.int .i64 a0, .int .i64 a1, .int .i64 a2] := hf 4 (by decide) (by kernel_rfl)
    have e9 : f 9 = .agg #[.int .i64 b0, .int .i64 b1, .int .i64 b2] := hf 9 (by decide) (by kernel_rfl)
    obtain ⟨b7, e10, g7, h7⟩ : isBx w.heap.size (f 10) W := hf 10 (by decide) (by kernel_rfl)
    obtain ⟨b8, e11, g8, h8⟩ : isBx w.heap.size (f 11) W := hf 11 (by decide) (by kernel_rfl)
    have h78 : b7 ≠ b8 := fun e => hD 10 11 (by decide) (by decide) (by decide) (by decide) (by decide) b7 (by rw [e10]; rfl) (by rw [e11, e]; rfl)
    simp only [Ri.acts, Act.put, List.setIfInBounds_toArray, List.set_cons_zero, List.set_cons_succ, Nat.zero_add, Nat.reduceAdd, List.drop_succ_cons, List.drop_zero]
    rw [e10, e11, e4, e9]
    obtain ⟨c70, c71, c72, f70, f71, f72, l7⟩ := cells3 h7
    obtain ⟨c80, c81, c82, f80, f81, f82, l8⟩ := cells3 h8
    have HXB := hide (LS.two hq HTY.out h7 h8 g7 g8 h78)
    clear e4 e9 e10 e11 hf hD hq h7 h8 g7 g8
    have HBA : Hid (∀ W, Calls Tryz.prog 83 #[.agg #[.int .i64 a0, .int .i64 a1, .int .i64 a2], .agg #[.int .i64 b0, .int .i64 b1, .int .i64 b2]] W fun e w' => e = .returned (.bool (bf [a0, a1, a2] [b0, b1, b2])) ∧ Q W w') := fun W => isBefore_any _ _ _ _ _ _ W
    obtain ⟨W2, eW2⟩ : ∃ W2, W2 = ((((((W.setCell ⟨b7, 0, none⟩ (.int .i64 a0)).setCell ⟨b7, 1, none⟩ (.int .i64 a1)).setCell ⟨b7, 2, none⟩ (.int .i64 a2)).setCell ⟨b8, 0, none⟩ (.int .i64 b0)).setCell ⟨b8, 1, none⟩ (.int .i64 b1)).setCell ⟨b8, 2, none⟩ (.int .i64 b2)) := ⟨_, rfl⟩
    have X2 : LB w h r W2 h.m r [(b7, #[.int .i64 a0, .int .i64 a1, .int .i64 a2], 135), (b8, #[.int .i64 b0, .int .i64 b1, .int .i64 b2], 135)] := by
      rw [eW2]
      exact (((((HXB.out.put (k := 0) rfl 0 (.int .i64 a0)).put (k := 0) rfl 1 (.int .i64 a1)).put (k := 0) rfl 2 (.int .i64 a2)).put (k := 1) rfl 0 (.int .i64 b0)).put (k := 1) rfl 1 (.int .i64 b1)).put (k := 1) rfl 2 (.int .i64 b2)
    have HX2 := hide X2
    have HEW := hide eW2
    clear X2 HXB eW2
    cases hbf : bf [a0, a1, a2] [b0, b1, b2] with
    | false =>
      have HBF := hide hbf
      clear hbf
      go_wp2_with (go_at_call 83; rw [← HEW.out]; refine (HBA.out _).mono ?_; rintro e w3 ⟨rfl, hq3⟩; rw [HBF.out]; have HQ3 := hide hq3; clear hq3 c70 c71 c72 f70 f71 f72 l7 c80 c81 c82 f80 f81 f82 l8)
      go_ret
      exact ⟨h.m, (HX2.out.q HQ3.out).ls, .inl ⟨HBF.out, rfl, rfl⟩⟩
    | true =>
      have HBF := hide hbf
      clear hbf
      have HW1 : Hid (∀ W, LB w h r W h.m r [(b7, #[.int .i64 a0, .int .i64 a1, .int .i64 a2], 135), (b8, #[.int .i64 b0, .int .i64 b1, .int .i64 b2], 135)] → Calls Tryz.prog 80 #[.pointer (some ⟨b, 0, none⟩), .int .i64 (i : Int), .agg #[.int .i64 b0, .int .i64 b1, .int .i64 b2]] W fun e W' => e = .returned (.tuple #[]) ∧ ∃ m1, LB w h r W' m1 r [(b7, #[.int .i64 a0, .int .i64 a1, .int .i64 a2], 135), (b8, #[.int .i64 b0, .int .i64 b1, .int .i64 b2], 135)] ∧ QueR m1 r (Ls.set i [b0, b1, b2]) t ∧ Wrtn h.m m1 3 r.ps) := fun W X => by
        rw [HBX.out]
        exact lb_setrow X HS.out i hi b0 b1 b2 (HS.out.bd _ (List.mem_of_getElem? hk2))
      have HW2 : Hid (∀ W m1, LB w h r W m1 r [(b7, #[.int .i64 a0, .int .i64 a1, .int .i64 a2], 135), (b8, #[.int .i64 b0, .int .i64 b1, .int .i64 b2], 135)] → QueR m1 r (Ls.set i [b0, b1, b2]) t → Calls Tryz.prog 80 #[.pointer (some ⟨b, 0, none⟩), .int .i64 (k : Int), .agg #[.int .i64 a0, .int .i64 a1, .int .i64 a2]] W fun e W' => e = .returned (.tuple #[]) ∧ ∃ m2, LB w h r W' m2 r [(b7, #[.int .i64 a0, .int .i64 a1, .int .i64 a2], 135), (b8, #[.int .i64 b0, .int .i64 b1, .int .i64 b2], 135)] ∧ QueR m2 r (swp Ls i k) t ∧ Wrtn m1 m2 3 r.ps) := fun W m1 X S1 => by
        rw [HBX.out]
        have := lb_setrow X S1 k (by rw [List.length_set]; exact hk) a0 a1 a2 (HS.out.bd _ (List.mem_of_getElem? hi2))
        unfold swp
        rw [rw_get hi2, rw_get hk2]
        exact this
      have HCB : Hid (∀ W m1, LB w h r W m1 r [(b7, #[.int .i64 a0, .int .i64 a1, .int .i64 a2], 135), (b8, #[.int .i64 b0, .int .i64 b1, .int .i64 b2], 135)] → (W.cell? ⟨b7, 0, none⟩ = some (.int .i64 a0) ∧ W.cell? ⟨b7, 1, none⟩ = some (.int .i64 a1) ∧ W.cell? ⟨b7, 2, none⟩ = some (.int .i64 a2) ∧ b7 < W.heap.size) ∧ (W.cell? ⟨b8, 0, none⟩ = some (.int .i64 b0) ∧ W.cell? ⟨b8, 1, none⟩ = some (.int .i64 b1) ∧ W.cell? ⟨b8, 2, none⟩ = some (.int .i64 b2) ∧ b8 < W.heap.size)) := fun W m1 X => by
        obtain ⟨x0, x1, x2, -, -, -, x3⟩ := cells3 (X.at_ (b := b7) (List.Mem.head _))
        obtain ⟨y0, y1, y2, -, -, -, y3⟩ := cells3 (X.at_ (b := b8) (List.Mem.tail _ (List.Mem.head _)))
        exact ⟨⟨x0, x1, x2, x3⟩, y0, y1, y2, y3⟩
      clear hi2 hk2 hi hk hne HRI HRK HSZ hsz S L hty
      go_wp2_with (go_at_call 83; rw [← HEW.out]; refine (HBA.out _).mono ?_; rintro e w3 ⟨rfl, hq3⟩; rw [HBF.out]; have HX3 := hide (HX2.out.q hq3); clear hq3 c70 c71 c72 f70 f71 f72 l7 c80 c81 c82 f80 f81 f82 l8; obtain ⟨⟨c70, c71, c72, l7⟩, c80, c81, c82, l8⟩ := HCB.out _ _ HX3.out)
      have hxc := ext_cell
      refine Ri.wp_region_cut 5 (fun w1 => ∃ k, w1 = ext _ k) (by kernel_rfl) (by kernel_rfl) rfl rfl (ext_of_q (Q.drew (Q.refl _))) ?_
      simp only [List.take_succ_cons, List.take_zero, List.drop_succ_cons, List.drop_zero]
      repeat (go_big_quiet_step ((fail)))
      clear hxc
      refine wpQuiet_nil ?_
      intro w4 hww4
      have hqw4 := q_of_ext hww4
      clear hww4
      obtain ⟨hcw4, hfw4, hzw4⟩ := hqw4.facts
      try simp at hzw4
      refine Ri.wp_callP #[.pointer (some ⟨b, 0, none⟩), .int .i64 (i : Int), .agg #[.int .i64 b0, .int .i64 b1, .int .i64 b2]] rfl (by simp [Act.eval]) Tryz.func80 (by kernel_rfl) (by kernel_rfl) ((HW1.out w4 (HX3.out.q hqw4)).mono ?_)
      rintro e w5 ⟨rfl, m1, X5, S5, T5⟩
      refine ⟨_, rfl, ?_⟩
      refine ⟨fun w1 => ∃ k, w1 = ext _ k, ext_of_q (Q.refl _), ?_⟩
      try simp only [Act.put, List.setIfInBounds_toArray, List.set_cons_succ, List.set_cons_zero]
      have hxc := ext_cell
      repeat (go_big_quiet_step ((fail)))
      clear hxc
      refine wpQuiet_nil ?_
      intro w6 hww6
      have hqw6 := q_of_ext hww6
      clear hww6
      obtain ⟨hcw6, hfw6, hzw6⟩ := hqw6.facts
      try simp at hzw6
      have HX6 := hide (X5.q hqw6)
      have HS5 := hide S5
      have HT5 := hide T5
      clear X5 S5 T5 hqw6 hcw6 hfw6 hzw6 hqw4 hcw4 hfw4 hzw4 c70 c71 c72 c80 c81 c82 l7 l8
      obtain ⟨⟨c70, c71, c72, l7⟩, c80, c81, c82, l8⟩ := HCB.out _ _ HX6.out
      go_wp2_with fail
      have hxc := ext_cell
      refine Ri.wp_region_cut 5 (fun w1 => ∃ k, w1 = ext _ k) (by kernel_rfl) (by kernel_rfl) rfl rfl (ext_of_q (Q.drew (Q.refl _))) ?_
      simp only [List.take_succ_cons, List.take_zero, List.drop_succ_cons, List.drop_zero]
      repeat (go_big_quiet_step ((fail)))
      clear hxc
      refine wpQuiet_nil ?_
      intro w7 hww7
      have hqw7 := q_of_ext hww7
      clear hww7
      obtain ⟨hcw7, hfw7, hzw7⟩ := hqw7.facts
      try simp at hzw7
      refine Ri.wp_callP #[.pointer (some ⟨b, 0, none⟩), .int .i64 (k : Int), .agg #[.int .i64 a0, .int .i64 a1, .int .i64 a2]] rfl (by simp [Act.eval]) Tryz.func80 (by kernel_rfl) (by kernel_rfl) ((HW2.out w7 m1 (HX6.out.q hqw7) HS5.out).mono ?_)
      rintro e w8 ⟨rfl, m2, X8, S8, T8⟩
      refine ⟨_, rfl, ?_⟩
      refine ⟨fun w1 => ∃ k, w1 = ext _ k, ext_of_q (Q.refl _), ?_⟩
      try simp only [Act.put, List.setIfInBounds_toArray, List.set_cons_succ, List.set_cons_zero]
      have hxc := ext_cell
      repeat (go_big_quiet_step ((fail)))
      clear hxc
      refine wpQuiet_nil ?_
      intro w9 hww9
      have hqw9 := q_of_ext hww9
      clear hww9
      obtain ⟨hcw9, hfw9, hzw9⟩ := hqw9.facts
      try simp at hzw9
      have HX9 := hide (X8.q hqw9)
      have HS8 := hide S8
      have HT8 := hide T8
      clear X8 S8 T8
      go_wp2_with fail
      go_ret
      exact ⟨m2, HX9.out.ls, .inr ⟨HBF.out, rfl, HS8.out, HT5.out.trans HT8.out⟩⟩
end
end Go.Proofs.YtdaklffbfadghaaGreat

namespace Go.Proofs.YtdaklffbfadghaaGreat
open Go.RowKit HP
set_option linter.unusedVariables false
set_option linter.unusedSimpArgs false
/-- what Push says -/
def PushO (m m' : HM) (r r2 : Rw) (Ls L2 : List (List Int)) (t n what err t2 : Int) : Prop :=
  (fits2 (n, what) = false ∧ err = 1 ∧ m' = m ∧ r2 = r ∧ L2 = Ls ∧ t2 = t) ∨
  (fits2 (n, what) = true ∧ ∃ (ok : Bool) (m1 : HM), err = (if ok then 0 else 3) ∧ Insd m m1 3 r.ps r2.ps Ls Ls.length [n, what, t] ok ∧ Wrtn m1 m' 3 r2.ps ∧ QueR m' r2 L2 t2 ∧ t2 = (if ok then t + 1 else t) ∧ (ok = false → L2 = Ls) ∧ (ok = true → L2.Perm (Ls ++ [[n, what, t]]) ∧ Ord L2))
section
variable {w W W' : World} {h : Hp} {r r1 : Rw} {m : HM} {Ls : List (List Int)} {t : Int}
theorem ls_swap (X : LS w h r W m r1) (hty : r.ty = 124) (S : QueR m r1 Ls t) (i k : Nat) (hi : i < Ls.length) (hk : k < Ls.length) (hne : i ≠ k) :
    Calls Tryz.prog 79 #[.pointer (some ⟨r.blk, 0, none⟩), .int .i64 (i : Int), .int .i64 (k : Int)] W fun e W' => ∃ m', LS w h r W' m' r1 ∧ ((bf (rw_ Ls i) (rw_ Ls k) = false ∧ e = .returned (.bool false) ∧ m' = m) ∨ (bf (rw_ Ls i) (rw_ Ls k) = true ∧ e = .returned (.bool true) ∧ QueR m' r1 (swp Ls i k) t ∧ Wrtn m m' 3 r1.ps)) := by
  have ht := X.ty hty
  have hrb := X.rb
  obtain ⟨h1, D, e⟩ := X
  have := swap_any D.lr ht (by rw [e]; exact S) i k hi hk hne
  unfold Rw.ptr at this
  rw [hrb, e] at this
  refine this.mono ?_
  rintro en W' ⟨m', ⟨h2, D2, e2⟩, hP⟩
  exact ⟨m', ⟨h2, D.trans D2, e2⟩, hP⟩
theorem LS.setT (X : LS w h r W m r1) {t t' : Int} (hm : r1.more = [.int .i64 t]) : LS w h r (W.setCell ⟨r.blk, 4, none⟩ (.int .i64 t')) m { r1 with more := [.int .i64 t'] } := by
  have hrb := X.rb
  obtain ⟨h1, D, e⟩ := X
  rw [← hrb]
  refine ⟨h1, D.set 4 _ rfl rfl ?_ rfl rfl, e⟩
  unfold Rw.cells
  rw [hm]
  rfl
theorem LS.k4 (X : LS w h r W m r1) {t : Int} (hm : r1.more = [.int .i64 t]) : W.cell? ⟨r.blk, 4, none⟩ = some (.int .i64 t) := by
  rw [X.kj 4]
  unfold Rw.cells
  rw [hm]
  rfl
theorem ls_insert3 (X : LS w h r W m r1) (S : QueR m r1 Ls t) (hc : m.calls < 1000000000) (i : Nat) (hi : i = Ls.length) (x0 x1 x2 : Int) :
    Calls Tryz.prog 78 #[.pointer (some ⟨r.blk, 0, none⟩), .int .i64 (i : Int), .agg #[.int .i64 x0, .int .i64 x1, .int .i64 x2]] W fun e W' => ∃ (ok : Bool) (m' : HM) (r2 : Rw) (er : Int), e = .returned (.int .i64 er) ∧ er = (if ok then 0 else 3) ∧ LS w h r W' m' r2 ∧ Insd m m' 3 r1.ps r2.ps Ls i [x0, x1, x2] ok ∧ r2.n = r1.n + (if ok then 1 else 0) ∧ r2.closed = r1.closed ∧ r2.more = r1.more := by
  have hrb := X.rb
  obtain ⟨h1, D, e⟩ := X
  have := lb_insert3 (LB.start D.lr) (by rw [e]; exact S.inv) (by rw [e]; exact S.kp) S.n (by rw [e]; exact hc) S.bd i (by rw [hi, S.n]; exact Nat.le_refl _) x0 x1 x2
  unfold Rw.ptr at this
  rw [hrb, e] at this
  refine this.mono ?_
  rintro en W' ⟨ok, m', r2, he, X2, hI, h2⟩
  obtain ⟨h2b, D2, e2⟩ := X2.ls
  exact ⟨ok, m', r2, _, he, rfl, ⟨h2b, D.trans D2, e2⟩, hI, h2⟩
theorem par_int {i : Nat} (h0 : 0 < i) : ((i : Int) - 1).tdiv 2 = ((par i : Nat) : Int) := by
  unfold par
  have e : ((i : Int) - 1) = ((i - 1 : Nat) : Int) := by omega
  rw [e]
  rfl
set_option maxHeartbeats 4000000 in
set_option maxRecDepth 100000 in
theorem push_bad (L : LR w h r) (hop : r.closed = false) (n what : Int) (hf : fits2 (n, what) = false) :
    Calls Tryz.prog 25 #[r.ptr, .int .i64 n, .int .i64 what] w fun e w' => e = .returned (.int .i64 1) ∧ Q w w' := by
  have HAS : Hid (∀ W : World, Q w W → Calls Tryz.prog 77 #[r.ptr, .slice (some ⟨W.heap.size, 0, none⟩) 2 2] (W.alloc (.cells #[.int .i64 n, .int .i64 what] 3)) fun e w' => e = .returned (.int .i64 1) ∧ Q (W.alloc (.cells #[.int .i64 n, .int .i64 what] 3)) w') := fun W hq => by
    have := askedQ_two L hop n what W hq
    rw [show (fitsB n && fitsB what) = false from hf] at this
    exact this
  have hrp : r.ptr = .pointer (some ⟨r.blk, 0, none⟩) := rfl
  rw [hrp] at HAS ⊢
  obtain ⟨b, eb⟩ : ∃ b, b = r.blk := ⟨_, rfl⟩
  rw [← eb] at HAS ⊢
  clear hrp eb L hf hop
  go_enter Tryz.func25, Tryz.ntmps25
  go_wp2_with (go_at_call 77; refine (HAS.out _ (Q.refl _)).mono ?_; rintro e w1 ⟨rfl, hq1⟩)
  go_ret
  exact ⟨rfl, ((Q.refl _).alloc _).trans hq1⟩
set_option maxHeartbeats 4000000 in
set_option maxRecDepth 100000 in
theorem push_good (L : LR w h r) (hty : r.ty = 124) (S : QueR h.m r Ls t) (hO : Ord Ls) (hc : h.calls < 1000000000) (ht : 0 ≤ t ∧ t < 1000000000) (n what : Int) (hf : fits2 (n, what) = true) :
    Calls Tryz.prog 25 #[r.ptr, .int .i64 n, .int .i64 what] w fun e w' => ∃ m' r2 L2 err t2, LS w h r w' m' r2 ∧ e = .returned (.int .i64 err) ∧ PushO h.m m' r r2 Ls L2 t n what err t2 := by
  have HAS : Hid (∀ W : World, Q w W → Calls Tryz.prog 77 #[r.ptr, .slice (some ⟨W.heap.size, 0, none⟩) 2 2] (W.alloc (.cells #[.int .i64 n, .int .i64 what] 3)) fun e w' => e = .returned (.int .i64 0) ∧ Q (W.alloc (.cells #[.int .i64 n, .int .i64 what] 3)) w') := fun W hq => by
    have := askedQ_two L S.op n what W hq
    rw [show (fitsB n && fitsB what) = true from hf] at this
    exact this
  have HX0 : Hid (LS w h r w h.m r) := LS.start L
  have HIN : Hid (∀ W, LS w h r W h.m r → Calls Tryz.prog 78 #[.pointer (some ⟨r.blk, 0, none⟩), .int .i64 (Ls.length : Int), .agg #[.int .i64 n, .int .i64 what, .int .i64 t]] W fun e W' => ∃ (ok : Bool) (m' : HM) (r2 : Rw) (er : Int), e = .returned (.int .i64 er) ∧ er = (if ok then 0 else 3) ∧ LS w h r W' m' r2 ∧ Insd h.m m' 3 r.ps r2.ps Ls Ls.length [n, what, t] ok ∧ r2.n = r.n + (if ok then 1 else 0) ∧ r2.closed = r.closed ∧ r2.more = r.more) := fun W X => ls_insert3 X S hc _ rfl n what t
  have HKC : Hid (∀ W, LS w h r W h.m r → W.cell? ⟨r.blk, 2, none⟩ = some (.int .i64 (Ls.length : Int)) ∧ W.cell? ⟨r.blk, 4, none⟩ = some (.int .i64 t) ∧ r.blk < W.heap.size) := fun W X => by
    rw [S.n]
    exact ⟨X.k2, X.k4 S.more, X.lt⟩
  have HK4 : Hid (∀ W m1 r1, LS w h r W m1 r1 → r1.more = r.more → W.cell? ⟨r.blk, 4, none⟩ = some (.int .i64 t) ∧ W.frozen? ⟨r.blk, 4, none⟩ = false ∧ r.blk < W.heap.size) := fun W m1 r1 X hm => ⟨X.k4 (hm.trans S.more), X.free 4, X.lt⟩
  have HST : Hid (∀ W m1 r1, LS w h r W m1 r1 → r1.more = r.more → LS w h r (W.setCell ⟨r.blk, 4, none⟩ (.int .i64 (t + 1))) m1 { r1 with more := [.int .i64 (t + 1)] }) := fun W m1 r1 X hm => X.setT (hm.trans S.more)
  have HSW : Hid (∀ W m1 r1 L1 t1 i, LS w h r W m1 r1 → QueR m1 r1 L1 t1 → 0 < i → i < L1.length → Calls Tryz.prog 79 #[.pointer (some ⟨r.blk, 0, none⟩), .int .i64 (i : Int), .int .i64 ((par i : Nat) : Int)] W fun e W' => ∃ m', LS w h r W' m' r1 ∧ ((bf (rw_ L1 i) (rw_ L1 (par i)) = false ∧ e = .returned (.bool false) ∧ m' = m1) ∨ (bf (rw_ L1 i) (rw_ L1 (par i)) = true ∧ e = .returned (.bool true) ∧ QueR m' r1 (swp L1 i (par i)) t1 ∧ Wrtn m1 m' 3 r1.ps))) := fun W m1 r1 L1 t1 i X S1 h0 hi => ls_swap X hty S1 i (par i) hi (by unfold par; omega) (by unfold par; omega)
  have HS := hide S
  have HO := hide hO
  have HF := hide hf
  have h64 := S.le
  have hbn : fitsB n = true ∧ fitsB what = true := by unfold fits2 at hf; rw [Bool.and_eq_true] at hf; exact hf
  have HBD : Hid (∀ v ∈ [n, what, t], -9223372036854775808 ≤ v ∧ v ≤ 9223372036854775807) := fun v hv => by
    have h1 := fits_bd hbn.1
    have h2 := fits_bd hbn.2
    simp at hv
    rcases hv with rfl | rfl | rfl <;> omega
  obtain ⟨ht0, ht1⟩ := ht
  have hrp : r.ptr = .pointer (some ⟨r.blk, 0, none⟩) := rfl
  rw [hrp] at HAS ⊢
  obtain ⟨b, eb⟩ : ∃ b, b = r.blk := ⟨_, rfl⟩
  have HBB := hide eb
  rw [← eb] at HAS HIN HKC HK4 HST HSW ⊢
  obtain ⟨len, el⟩ : ∃ len, len = Ls.length := ⟨_, rfl⟩
  have HEL := hide el
  rw [← el] at HIN HKC h64
  have hli : (len : Int) ≤ 64 := by omega
  clear hrp L hf S hO eb hc el hbn hty
  go_enter Tryz.func25, Tryz.ntmps25
  go_wp2_with (go_at_call 77; refine (HAS.out _ (Q.refl _)).mono ?_; rintro e w1 ⟨rfl, hq1⟩; have HX1 := hide (HX0.out.q (((Q.refl _).alloc _).trans hq1)); obtain ⟨c2, c4, hbl⟩ := HKC.out _ HX1.out)
  have hxc := ext_cell
  refine Ri.wp_region_cut 15 (fun w1 => ∃ k, w1 = ext _ k) (by kernel_rfl) (by kernel_rfl) rfl rfl (ext_of_q (Q.drew (Q.refl _))) ?_
  simp only [List.take_succ_cons, List.take_zero, List.drop_succ_cons, List.drop_zero]
  repeat (go_big_quiet_step ((fail)))
  clear hxc
  refine wpQuiet_nil ?_
  intro w4 hww4
  have hqw4 := q_of_ext hww4
  clear hww4
  obtain ⟨hcw4, hfw4, hzw4⟩ := hqw4.facts
  try simp at hzw4
  have HX4 := hide (HX1.out.q hqw4)
  refine Ri.wp_callP #[.pointer (some ⟨b, 0, none⟩), .int .i64 (len : Int), .agg #[.int .i64 n, .int .i64 what, .int .i64 t]] rfl (by simp [Act.eval]) Tryz.func78 (by kernel_rfl) (by kernel_rfl) ((HIN.out _ HX4.out).mono ?_)
  rintro e w5 ⟨ok, m5, r5, er, rfl, her, hX5, hI5, h5n, h5c, h5m⟩
  refine ⟨_, rfl, ?_⟩
  have HX5 := hide hX5
  have HI5 := hide hI5
  have H5N := hide h5n
  have H5C := hide h5c
  have H5M := hide h5m
  clear hX5 hI5 h5n h5c h5m hcw4 hfw4 hzw4 hqw4 c2 c4 hbl
  refine ⟨fun w1 => ∃ k, w1 = ext _ k, ext_of_q (Q.refl _), ?_⟩
  try simp only [Act.put, List.setIfInBounds_toArray, List.set_cons_succ, List.set_cons_zero]
  have hxc := ext_cell
  repeat (go_big_quiet_step ((fail)))
  clear hxc
  refine wpQuiet_nil ?_
  intro w6 hww6
  have hqw6 := q_of_ext hww6
  clear hww6
  obtain ⟨hcw6, hfw6, hzw6⟩ := hqw6.facts
  try simp at hzw6
  have HX6 := hide (HX5.out.q hqw6)
  clear hcw6 hfw6 hzw6 hqw6
  cases ok
  · have HER : Hid (er = 3) := her
    have hd3 : (er != 0) = true := by rw [HER.out]; decide
    clear her
    go_wp2_with fail
    go_ret
    have HI := HI5.out
    rw [HEL.out] at HI
    refine ⟨m5, r5, Ls, er, t, HX6.out, rfl, .inr ⟨HF.out, false, m5, by rw [HER.out]; rfl, HI, ⟨HI.inv, .refl _ _, rfl, rfl⟩, ⟨HI.inv, HI.kp, ?_, H5C.out.trans HS.out.op, HS.out.bd, H5M.out.trans HS.out.more⟩, rfl, fun _ => rfl, fun e => by cases e⟩⟩
    rw [H5N.out]
    exact HS.out.n
  · have HER : Hid (er = 0) := her
    have hd3 : (er != 0) = false := by rw [HER.out]; decide
    clear her
    obtain ⟨c4, f4, hbl⟩ := HK4.out _ _ _ HX6.out H5M.out
    have c2 : w6.cell? ⟨b, 2, none⟩ = some (.int .i64 ((len : Int) + 1)) := by
      rw [HBB.out, HX6.out.k2, H5N.out, ← HS.out.n, ← HEL.out]
      rfl
    have HI := HI5.out
    rw [HEL.out] at HI
    have HII := hide HI
    have HS7 : Hid (QueR m5 { r5 with more := [.int .i64 (t + 1)] } (Ls ++ [[n, what, t]]) (t + 1)) := by
      have hk : Kp m5 3 r5.ps (insAt Ls Ls.length [[n, what, t]]) := HI.kp
      have e : insAt Ls Ls.length [[n, what, t]] = Ls ++ [[n, what, t]] := by unfold insAt; simp
      rw [e] at hk
      refine ⟨HI.inv, hk, ?_, H5C.out.trans HS.out.op, fun row hr v hv => ?_, rfl⟩
      · show (Ls ++ [[n, what, t]]).length = r5.n
        rw [H5N.out, ← HS.out.n]
        simp
      · rcases List.mem_append.1 hr with h | h
        · exact HS.out.bd row h v hv
        · rw [List.mem_singleton] at h
          rw [h] at hv
          exact HBD.out v hv
    have HX7 := hide (HST.out _ _ _ HX6.out H5M.out)
    have HUP : Hid (UpI (Ls ++ [[n, what, t]]) len) := by rw [HEL.out]; exact UpI.start HO.out _
    have HLL : Hid ((Ls ++ [[n, what, t]]).length = len + 1) := by show (Ls ++ [[n, what, t]]).length = len + 1; rw [HEL.out]; simp
    clear HI
    go_wp2_with fail
    obtain ⟨w7, ew7⟩ : ∃ w7, w7 = w6.setCell ⟨b, 4, none⟩ (.int .i64 (t + 1)) := ⟨_, rfl⟩
    have hX7 := HX7.out
    rw [← ew7] at hX7
    rw [← ew7]
    have HX8 := hide hX7
    clear hX7 HX7 HX6 HX5 HX4 HX1 ew7 c4 f4 c2 hbl HIN HKC HK4 HST HAS
    obtain ⟨r7, er7⟩ : ∃ r7, r7 = { r5 with more := [Value.int .i64 (t + 1)] } := ⟨_, rfl⟩
    rw [← er7] at HX8 HS7
    have HPS : Hid (r7.ps = r5.ps) := by rw [er7]; rfl
    clear er7
    obtain ⟨L0, eL0⟩ : ∃ L0, L0 = Ls ++ [[n, what, t]] := ⟨_, rfl⟩
    rw [← eL0] at HS7 HUP HLL
    have HL0 := hide eL0
    clear eL0
    have HFIN : Hid (∀ W m1 L1, LS w h r W m1 r7 → QueR m1 r7 L1 (t + 1) → L1.Perm L0 → Wrtn m5 m1 3 r7.ps → Ord L1 → ∃ m' r2 L2 err t2, LS w h r W m' r2 ∧ (Ending.returned (.int .i64 0) : Ending) = .returned (.int .i64 err) ∧ PushO h.m m' r r2 Ls L2 t n what err t2) := fun W m1 L1 X S1 hp T1 hO1 =>
      ⟨m1, r7, L1, 0, t + 1, X, rfl, .inr ⟨HF.out, true, m5, rfl, by rw [HPS.out]; exact HII.out, T1, S1, rfl, (fun e => by cases e), fun _ => ⟨by rw [← HL0.out]; exact hp, hO1⟩⟩⟩
    go_loopw [9] (fun vi wr => ∃ (i : Nat) (L1 : List (List Int)) (m1 : HM), i ≤ 1000 ∧ vi = .int .i64 (i : Int) ∧ Hid (LS w h r wr m1 r7 ∧ QueR m1 r7 L1 (t + 1) ∧ UpI L1 i ∧ L1.Perm L0 ∧ Wrtn m5 m1 3 r7.ps ∧ i < L1.length)) (fun vi _ => (intOf vi).toNat)
    case atStart => exact ⟨len, L0, m5, by omega, by go_num, HX8.out, HS7.out, HUP.out, List.Perm.refl _, ⟨HS7.out.inv, .refl _ _, rfl, rfl⟩, by rw [HLL.out]; omega⟩
    case round =>
      obtain ⟨i, L1, m1, hi1, rfl, HR⟩ := hrel
      clear HX8 HS7 HUP
      by_cases h0 : 0 < i
      · have d0 : decide ((0 : Int) < (i : Int)) = true := by simp; omega
        have hpi := par_int h0
        have HI0 := hide h0
        obtain ⟨pp, epp⟩ : ∃ pp : Nat, pp = par i := ⟨_, rfl⟩
        have HSI := hide (HSW.out wr m1 r7 L1 (t + 1) i HR.out.1 HR.out.2.1 h0 HR.out.2.2.2.2.2)
        have hpl : pp < i := by rw [epp]; unfold par; omega
        rw [← epp] at hpi HSI
        have HPP := hide epp
        clear epp
        have hii : (1 : Int) ≤ (i : Int) := by omega
        go_wp2_with fail
        refine HSI.out.mono ?_
        rintro e w9 ⟨m2, hX9, (⟨hb, rfl, rfl⟩ | ⟨hb, rfl, S9, T9⟩)⟩
        · have HX9 := hide hX9
          have HB := hide hb
          clear hX9 hb HSI
          go_wp2_with fail
          go_ret
          exact HFIN.out _ _ _ HX9.out HR.out.2.1 HR.out.2.2.2.1 HR.out.2.2.2.2.1 (HR.out.2.2.1.stop (by rw [← HPP.out]; exact HB.out))
        · have HX9 := hide hX9
          have HB := hide hb
          have HS9 := hide S9
          have HT9 := hide T9
          clear hX9 hb HSI S9 T9
          go_wp2_with fail
          go_roundw
          case rel =>
            refine ⟨pp, swp L1 i pp, m2, by omega, by go_num, HX9.out, HS9.out, ?_, ?_, HR.out.2.2.2.2.1.trans HT9.out, ?_⟩
            · rw [HPP.out]
              exact HR.out.2.2.1.step HI0.out (by rw [← HPP.out]; exact HB.out)
            · exact (swp_perm HR.out.2.2.2.2.2 (by have := HR.out.2.2.2.2.2; omega)).trans HR.out.2.2.2.1
            · rw [swp_len]
              have := HR.out.2.2.2.2.2
              omega
          case measure => simp [intOf] <;> omega
      · obtain rfl : i = 0 := by omega
        go_wp2_with fail
        go_ret
        exact HFIN.out _ _ _ HR.out.1 HR.out.2.1 HR.out.2.2.2.1 HR.out.2.2.2.2.1 HR.out.2.2.1.top
end
end Go.Proofs.YtdaklffbfadghaaGreat

namespace Go.Proofs.YtdaklffbfadghaaGreat
open Go.RowKit HP
set_option linter.unusedVariables false
set_option linter.unusedSimpArgs false
namespace Ri
theorem run_lss {P : Program} {o : Oper} {A : Act} {w : World} {x y : Operand} {t t' : TypeId} {p u : Int} (ho : o.op = .binOp .lss t x y t') (hx : A.eval x = .int .i64 p) (hy : A.eval y = .int .i64 u) (hu : P.underlying t = some (.int .i64)) : (execOp A.eval o).run P w = .ok (.value (.bool (decide (p < u)))) w := by
  unfold execOp
  simp only [ho, hx, hy]
  simp [go_sem]
theorem run_subL {P : Program} {o : Oper} {A : Act} {w : World} {x y : Operand} {t t' : TypeId} {n : Nat} (ho : o.op = .binOp .sub t x y t') (hx : A.eval x = .int .i64 ((n : Int) + 1)) (hy : A.eval y = .int .i64 1) (hu : P.underlying t = some (.int .i64)) (hn : n < 1000 := by omega) : (execOp A.eval o).run P w = .ok (.value (.int .i64 (n : Int))) w := by
  have := Ri.run_sub (P := P) (w := w) ho hx hy hu (by omega) (by omega)
  rw [this]
  congr 4
  omega
end Ri
section
variable {w W W' : World} {h : Hp} {r r1 : Rw} {m : HM} {Ls : List (List Int)} {t : Int}
set_option maxHeartbeats 4000000 in
set_option maxRecDepth 100000 in
theorem peek_any (L : LR w h r) (hty : r.ty = 124) (S : QueR h.m r Ls t) :
    Calls Tryz.prog 53 #[r.ptr] w fun e W' => LS w h r W' h.m r ∧ e = .returned (.tuple #[.int .i64 (nw (rw_ Ls 0)).1, .int .i64 (nw (rw_ Ls 0)).2, .bool (decide (0 < Ls.length)), .int .i64 0]) := by
  have HX0 : Hid (LS w h r w h.m r) := LS.start L
  have HAS : Hid (∀ W : World, Q w W → Calls Tryz.prog 77 #[r.ptr, .slice none 0 0] W fun e w' => e = .returned (.int .i64 0) ∧ Q W w') := fun W hq => askedQ_zero L S.op W hq
  have HKC : Hid (∀ W, LS w h r W h.m r → W.cell? ⟨r.blk, 2, none⟩ = some (.int .i64 (Ls.length : Int)) ∧ r.blk < W.heap.size) := fun W X => by
    rw [S.n]
    exact ⟨X.k2, X.lt⟩
  have hrp : r.ptr = .pointer (some ⟨r.blk, 0, none⟩) := rfl
  by_cases hl : 0 < Ls.length
  · obtain ⟨a0, a1, a2, hi2, ea⟩ := S.row hl
    have HRD : Hid (∀ W, LS w h r W h.m r → Calls Tryz.prog 81 #[.pointer (some ⟨r.blk, 0, none⟩), .int .i64 0] W fun e W' => e = .returned (.agg #[.int .i64 a0, .int .i64 a1, .int .i64 a2]) ∧ LS w h r W' h.m r ∧ T3 W W') := fun W X => ls_read3 X hty S 0 hi2
    have e1 : (nw (rw_ Ls 0)).1 = a0 := by rw [ea]; rfl
    have e2 : (nw (rw_ Ls 0)).2 = a1 := by rw [ea]; rfl
    have e3 : decide (0 < Ls.length) = true := by simpa using hl
    rw [e1, e2, e3]
    rw [hrp] at HAS ⊢
    have h64 := S.le
    obtain ⟨b, eb⟩ : ∃ b, b = r.blk := ⟨_, rfl⟩
    rw [← eb] at HAS HRD HKC ⊢
    obtain ⟨len, el⟩ : ∃ len, len = Ls.length := ⟨_, rfl⟩
    rw [← el] at HKC h64 hl
    have d0 : ((len : Int) == 0) = false := by simp; omega
    clear hrp eb e1 e2 e3 ea hi2 S L hty el
    go_enter Tryz.func53, Tryz.ntmps53
    go_wp2_with (first
      | (go_at_call 77; refine (HAS.out _ (Q.refl _)).mono ?_; rintro e w1 ⟨rfl, hq1⟩; have HX1 := hide (HX0.out.q hq1); obtain ⟨c2, hbl⟩ := HKC.out _ HX1.out)
      | (go_at_call 81; refine (HRD.out _ HX1.out).mono ?_; rintro e w2 ⟨rfl, hX2, -⟩; have HX2 := hide hX2; clear hX2 c2 hbl))
    have hxc := ext_cell
    refine wp_region_ext (by kernel_rfl) (by kernel_rfl) ?_
    repeat (go_big_quiet_step ((fail)))
    clear hxc
    refine wpQuiet_nil ?_
    intro w3 hww3
    have hqw3 := q_of_ext hww3
    clear hww3
    obtain ⟨hcw3, hfw3, hzw3⟩ := hqw3.facts
    try simp at hzw3
    try have hs0w3 : w.heap.size < w3.heap.size := by omega
    try have hs1w3 : w.heap.size + 1 < w3.heap.size := by omega
    have HX3 := hide ((HX2.out.q ((Q.refl _).alloc _)).q hqw3)
    go_wp2_with fail
    refine bodyPost_ret (results_tmp4 rfl _ _) rfl ?_
    exact ⟨HX3.out, rfl⟩
  · have e0 : Ls = [] := List.eq_nil_of_length_eq_zero (by omega)
    have e1 : (nw (rw_ Ls 0)).1 = 0 := by rw [e0]; rfl
    have e2 : (nw (rw_ Ls 0)).2 = 0 := by rw [e0]; rfl
    have e3 : decide (0 < Ls.length) = false := by simpa using hl
    rw [e1, e2, e3]
    rw [hrp] at HAS ⊢
    obtain ⟨b, eb⟩ : ∃ b, b = r.blk := ⟨_, rfl⟩
    rw [← eb] at HAS HKC ⊢
    have HK0 : Hid (∀ W, LS w h r W h.m r → W.cell? ⟨b, 2, none⟩ = some (.int .i64 0) ∧ b < W.heap.size) := fun W X => by
      have := HKC.out W X
      rw [e0] at this
      exact this
    clear hrp eb e1 e2 e3 e0 S L hty hl HKC
    go_enter Tryz.func53, Tryz.ntmps53
    go_wp2_with (go_at_call 77; refine (HAS.out _ (Q.refl _)).mono ?_; rintro e w1 ⟨rfl, hq1⟩; have HX1 := hide (HX0.out.q hq1); obtain ⟨c2, hbl⟩ := HK0.out _ HX1.out)
    refine bodyPost_ret (results_tmp4 rfl _ _) rfl ?_
    exact ⟨HX1.out, rfl⟩
set_option maxHeartbeats 4000000 in
set_option maxRecDepth 100000 in
theorem lenQ_any (L : LR w h r) (S : QueR h.m r Ls t) :
    Calls Tryz.prog 56 #[r.ptr] w fun e W' => LS w h r W' h.m r ∧ e = .returned (.int .i64 (Ls.length : Int)) := by
  have HX0 : Hid (LS w h r w h.m r) := LS.start L
  have HAS : Hid (∀ W : World, Q w W → Calls Tryz.prog 77 #[r.ptr, .slice none 0 0] W fun e w' => e = .returned (.int .i64 0) ∧ Q W w') := fun W hq => askedQ_zero L S.op W hq
  have HKC : Hid (∀ W, LS w h r W h.m r → W.cell? ⟨r.blk, 2, none⟩ = some (.int .i64 (Ls.length : Int)) ∧ r.blk < W.heap.size) := fun W X => by
    rw [S.n]
    exact ⟨X.k2, X.lt⟩
  have hrp : r.ptr = .pointer (some ⟨r.blk, 0, none⟩) := rfl
  rw [hrp] at HAS ⊢
  obtain ⟨b, eb⟩ : ∃ b, b = r.blk := ⟨_, rfl⟩
  rw [← eb] at HAS HKC ⊢
  clear hrp eb S L
  go_enter Tryz.func56, Tryz.ntmps56
  go_wp2_with (go_at_call 77; refine (HAS.out _ (Q.refl _)).mono ?_; rintro e w1 ⟨rfl, hq1⟩; have HX1 := hide (HX0.out.q hq1); obtain ⟨c2, hbl⟩ := HKC.out _ HX1.out)
  go_ret
  exact ⟨HX1.out, rfl⟩
set_option maxHeartbeats 4000000 in
set_option maxRecDepth 100000 in
theorem closeQ_any (L : LR w h r) (S : QueR h.m r Ls t) :
    Calls Tryz.prog 32 #[r.ptr] w fun e w' => ∃ (m' : HM) (r2 : Rw), LS w h r w' m' r2 ∧ e = .returned (.int .i64 0) ∧ Clsd h.m m' r.ps ∧ r2.closed = true := by
  have HX0 : Hid (LB w h r w h.m r []) := LB.start L
  have HAS : Hid (∀ W : World, Q w W → Calls Tryz.prog 77 #[r.ptr, .slice none 0 0] W fun e w' => e = .returned (.int .i64 0) ∧ Q W w') := fun W hq => askedQ_zero L S.op W hq
  have HCL : Hid (∀ W, LB w h r W h.m r [] → Calls Tryz.prog 86 #[r.ptr] W fun e W' => e = .returned (.tuple #[]) ∧ ∃ (m' : HM) (r2 : Rw), LB w h r W' m' r2 [] ∧ Clsd h.m m' r.ps ∧ r2.ps = [] ∧ r2.n = 0 ∧ r2.closed = true ∧ r2.more = r.more) := fun W X => lb_close3 X S.inv (by rw [← S.n]; exact S.le) (by have := S.kp.pcs; rw [S.n] at this; exact this)
  have hrp : r.ptr = .pointer (some ⟨r.blk, 0, none⟩) := rfl
  rw [hrp] at HAS HCL ⊢
  obtain ⟨b, eb⟩ : ∃ b, b = r.blk := ⟨_, rfl⟩
  rw [← eb] at HAS HCL ⊢
  clear hrp eb S L
  go_enter Tryz.func32, Tryz.ntmps32
  go_wp2_with (first
    | (go_at_call 77; refine (HAS.out _ (Q.refl _)).mono ?_; rintro e w1 ⟨rfl, hq1⟩)
    | (go_at_call 86; refine (HCL.out _ (HX0.out.q hq1)).mono ?_; rintro e w2 ⟨rfl, m2, r2, hX2, hC⟩; have HX2 := hide hX2; have HC := hide hC; clear hX2 hC))
  go_ret
  exact ⟨m2, r2, HX2.out.ls, rfl, HC.out.1, HC.out.2.2.2.1⟩
/-- what has been taken out -/
structure Popd (m m' : HM) (ps qs : List Int) : Prop where
  inv : Inv m'
  fr : Fr m m' ps qs
  calls : m'.calls = m.calls
  low : ∀ d, Low m 3 ps d → Low m' 3 qs d
theorem ls_drop3 (X : LS w h r W m r1) (S : QueR m r1 (Ls.set 0 (rw_ Ls (Ls.length - 1))) t) (k : Nat) (hk : Ls.length = k + 1) :
    Calls Tryz.prog 82 #[.pointer (some ⟨r.blk, 0, none⟩)] W fun e W' => e = .returned (.tuple #[]) ∧ ∃ (m' : HM) (r2 : Rw), LS w h r W' m' r2 ∧ Dropd m m' 3 r1.ps r2.ps k ∧ QueR m' r2 (popL Ls) t := by
  have hrb := X.rb
  have hn := S.n
  rw [List.length_set] at hn
  have h64 := S.le
  rw [List.length_set] at h64
  have hp := S.kp.pcs
  rw [List.length_set, hk] at hp
  obtain ⟨h1, D, e⟩ := X
  have := lb_drop3 (LB.start D.lr) (by rw [e]; exact S.inv) k (by rw [← hn, hk]) (by omega) (by rw [e]; exact hp)
  unfold Rw.ptr at this
  rw [hrb, e] at this
  refine this.mono ?_
  rintro en W' ⟨he, m', r2, X2, Dr, h2n, h2c, h2m⟩
  obtain ⟨h2b, D2, e2⟩ := X2.ls
  have hpl : popL Ls = (Ls.set 0 (rw_ Ls (Ls.length - 1))).take k := by unfold popL; rw [hk]; rfl
  have hll : (popL Ls).length = k := by rw [popL_len, hk]; rfl
  refine ⟨he, m', r2, ⟨h2b, D.trans D2, e2⟩, Dr, ⟨Dr.inv, ⟨by rw [hll]; exact Dr.pcs, by omega, fun j row hj => ?_⟩, by rw [hll, h2n], h2c.trans S.op, fun row hr => ?_, h2m.trans S.more⟩⟩
  · have hjl := (List.getElem?_eq_some_iff.1 hj).1
    rw [hpl, List.getElem?_take, if_pos (by omega)] at hj
    exact Dr.rows j row (by omega) (S.kp.row j row hj)
  · rw [hpl] at hr
    exact S.bd row (List.mem_of_mem_take hr)
set_option maxHeartbeats 8000000 in
set_option maxRecDepth 100000 in
theorem pop_none (L : LR w h r) (hty : r.ty = 124) (S : QueR h.m r Ls t) (hl : ¬ 0 < Ls.length) :
    Calls Tryz.prog 27 #[r.ptr] w fun e W' => LS w h r W' h.m r ∧ e = .returned (.tuple #[.int .i64 0, .int .i64 0, .bool false, .int .i64 0]) := by
  have HPK : Hid (Calls Tryz.prog 53 #[r.ptr] w fun e W' => LS w h r W' h.m r ∧ e = .returned (.tuple #[.int .i64 (nw (rw_ Ls 0)).1, .int .i64 (nw (rw_ Ls 0)).2, .bool false, .int .i64 0])) := by
    have := peek_any L hty S
    rw [show decide (0 < Ls.length) = false by simpa using hl] at this
    exact this
  obtain ⟨x0, e0⟩ : ∃ x, x = (nw (rw_ Ls 0)).1 := ⟨_, rfl⟩
  obtain ⟨x1, e1⟩ : ∃ x, x = (nw (rw_ Ls 0)).2 := ⟨_, rfl⟩
  rw [← e0, ← e1] at HPK
  have hrp : r.ptr = .pointer (some ⟨r.blk, 0, none⟩) := rfl
  rw [hrp] at HPK ⊢
  obtain ⟨b, eb⟩ : ∃ b, b = r.blk := ⟨_, rfl⟩
  rw [← eb] at HPK ⊢
  clear hrp eb e0 e1 S L hl hty
  go_enter Tryz.func27, Tryz.ntmps27
  go_wp2_with (go_at_call 53; refine HPK.out.mono ?_; rintro e w1 ⟨hX1, rfl⟩; have HX1 := hide hX1; clear hX1)
  refine bodyPost_ret (results_tmp4 rfl _ _) rfl ?_
  exact ⟨HX1.out, rfl⟩
set_option maxHeartbeats 8000000 in
set_option maxRecDepth 100000 in
theorem pop_some (L : LR w h r) (hty : r.ty = 124) (S : QueR h.m r Ls t) (hO : Ord Ls) (len : Nat) (hl : Ls.length = len + 1) :
    Calls Tryz.prog 27 #[r.ptr] w fun e W' => ∃ m' r2 L2, LS w h r W' m' r2 ∧ e = .returned (.tuple #[.int .i64 (nw (rw_ Ls 0)).1, .int .i64 (nw (rw_ Ls 0)).2, .bool true, .int .i64 0]) ∧ QueR m' r2 L2 t ∧ Popd h.m m' r.ps r2.ps ∧ L2.Perm (popL Ls) ∧ Ord L2 := by
  have h64 := S.le
  have HPK : Hid (Calls Tryz.prog 53 #[r.ptr] w fun e W' => LS w h r W' h.m r ∧ e = .returned (.tuple #[.int .i64 (nw (rw_ Ls 0)).1, .int .i64 (nw (rw_ Ls 0)).2, .bool true, .int .i64 0])) := by
    have := peek_any L hty S
    rw [show decide (0 < Ls.length) = true by simp; omega] at this
    exact this
  obtain ⟨a0, a1, a2, hi2, ea⟩ := S.row (i := len) (by omega)
  have HRD : Hid (∀ W, LS w h r W h.m r → Calls Tryz.prog 81 #[.pointer (some ⟨r.blk, 0, none⟩), .int .i64 (len : Int)] W fun e W' => e = .returned (.agg #[.int .i64 a0, .int .i64 a1, .int .i64 a2]) ∧ LS w h r W' h.m r ∧ T3 W W') := fun W X => ls_read3 X hty S len hi2
  have HKN : Hid (∀ W, LS w h r W h.m r → W.cell? ⟨r.blk, 2, none⟩ = some (.int .i64 ((len : Int) + 1))) := fun W X => by
    have := X.k2
    rw [← S.n, hl] at this
    exact this
  have HWR : Hid (∀ W, LS w h r W h.m r → Calls Tryz.prog 80 #[.pointer (some ⟨r.blk, 0, none⟩), .int .i64 0, .agg #[.int .i64 a0, .int .i64 a1, .int .i64 a2]] W fun e W' => e = .returned (.tuple #[]) ∧ ∃ m1, LS w h r W' m1 r ∧ QueR m1 r (Ls.set 0 (rw_ Ls (Ls.length - 1))) t ∧ Wrtn h.m m1 3 r.ps) := fun W X => by
    have hrb := X.rb
    obtain ⟨h1, D, e⟩ := X
    have := lb_setrow (LB.start D.lr) (by rw [e]; exact S) 0 (by omega) a0 a1 a2 (S.bd _ (List.mem_of_getElem? hi2))
    rw [e] at this
    rw [show rw_ Ls (Ls.length - 1) = [a0, a1, a2] by rw [hl]; exact ea]
    refine this.mono ?_
    rintro en W' ⟨he, m1, X1, S1, T1⟩
    obtain ⟨h2, D2, e2⟩ := X1.ls
    exact ⟨he, m1, ⟨h2, D.trans D2, e2⟩, S1, T1⟩
  have HDR : Hid (∀ W m1, LS w h r W m1 r → QueR m1 r (Ls.set 0 (rw_ Ls (Ls.length - 1))) t → Calls Tryz.prog 82 #[.pointer (some ⟨r.blk, 0, none⟩)] W fun e W' => e = .returned (.tuple #[]) ∧ ∃ (m' : HM) (r2 : Rw), LS w h r W' m' r2 ∧ Dropd m1 m' 3 r.ps r2.ps len ∧ QueR m' r2 (popL Ls) t) := fun W m1 X S1 => ls_drop3 X S1 len hl
  have HSW : Hid (∀ W m1 r1 L1 i k, LS w h r W m1 r1 → QueR m1 r1 L1 t → i < L1.length → k < L1.length → k ≠ i → Calls Tryz.prog 79 #[.pointer (some ⟨r.blk, 0, none⟩), .int .i64 (k : Int), .int .i64 (i : Int)] W fun e W' => ∃ m', LS w h r W' m' r1 ∧ ((bf (rw_ L1 k) (rw_ L1 i) = false ∧ e = .returned (.bool false) ∧ m' = m1) ∨ (bf (rw_ L1 k) (rw_ L1 i) = true ∧ e = .returned (.bool true) ∧ QueR m' r1 (swp L1 k i) t ∧ Wrtn m1 m' 3 r1.ps))) := fun W m1 r1 L1 i k X S1 hi hk hne => ls_swap X hty S1 k i hk hi hne
  have HR3 : Hid (∀ W m1 r1 L1 (i : Nat) x0 x1 x2, LS w h r W m1 r1 → QueR m1 r1 L1 t → L1[i]? = some [x0, x1, x2] → Calls Tryz.prog 81 #[.pointer (some ⟨r.blk, 0, none⟩), .int .i64 (i : Int)] W fun e W' => e = .returned (.agg #[.int .i64 x0, .int .i64 x1, .int .i64 x2]) ∧ LS w h r W' m1 r1) := fun W m1 r1 L1 i x0 x1 x2 X S1 hx => (ls_read3 X hty S1 i hx).mono fun e W' ⟨he, h1, _⟩ => ⟨he, h1⟩
  have HK2 : Hid (∀ W m1 r1 L1, LS w h r W m1 r1 → QueR m1 r1 L1 t → W.cell? ⟨r.blk, 2, none⟩ = some (.int .i64 (L1.length : Int)) ∧ r.blk < W.heap.size) := fun W m1 r1 L1 X S1 => by
    rw [S1.n]
    exact ⟨X.k2, X.lt⟩
  have HDN : Hid (DnI (popL Ls) 0) := popL_dn hO
  obtain ⟨x0, e0⟩ : ∃ x, x = (nw (rw_ Ls 0)).1 := ⟨_, rfl⟩
  obtain ⟨x1, e1⟩ : ∃ x, x = (nw (rw_ Ls 0)).2 := ⟨_, rfl⟩
  rw [← e0, ← e1] at HPK
  rw [← e0, ← e1]
  have hrp : r.ptr = .pointer (some ⟨r.blk, 0, none⟩) := rfl
  rw [hrp] at HPK ⊢
  obtain ⟨b, eb⟩ : ∃ b, b = r.blk := ⟨_, rfl⟩
  rw [← eb] at HPK HRD HKN HWR HDR HSW HR3 HK2 ⊢
  have HBL : Hid (∀ W m1 r1, LS w h r W m1 r1 → b < W.heap.size) := fun W m1 r1 X => by rw [eb]; exact X.lt
  have hli : len < 1000 := by omega
  clear hrp eb e0 e1 S L hty hO ea hi2 h64
  go_enter Tryz.func27, Tryz.ntmps27
  go_wp2_with (go_at_call 53; refine HPK.out.mono ?_; rintro e w1 ⟨hX1, rfl⟩; have HX1 := hide hX1; clear hX1)
  refine Ri.madeE (C := fun W => LS w h r W h.m r) (T := T3) [12] [0, 1, 2, 3, 4, 5, 6, 7, 8, 9, 10, 11, 12] (fun _ => 0) 13 (fun w1 w2 X hq => X.q hq) (fun w => ⟨Nat.le_refl _, fun _ _ _ _ => rfl⟩) (Ri.phi [Ri.isV (.pointer (some ⟨b, 0, none⟩)), Ri.isV (.pointer (some ⟨b, 0, none⟩)), Ri.isV (.pointer (some ⟨b, 0, none⟩)), Ri.isV (.pointer (some ⟨b, 0, none⟩)), Ri.isV (.pointer (some ⟨b, 0, none⟩)), Ri.isV (.pointer (some ⟨b, 0, none⟩)), Ri.isV (.pointer (some ⟨b, 0, none⟩)), Ri.isV (.pointer (some ⟨b, 0, none⟩)), Ri.isV (.pointer (some ⟨b, 0, none⟩)), Ri.isV (.pointer (some ⟨b, 2, none⟩)), Ri.isV (.int .i64 ((len : Int) + 1)), Ri.isV (.int .i64 (len : Int)), Ri.isV (.agg #[.int .i64 a0, .int .i64 a1, .int .i64 a2])]) (by kernel_rfl) (by kernel_rfl) (by kernel_rfl) (by kernel_rfl) (by decide) (by kernel_rfl) (HX1.out.q (Q.refl _).drew) (Ri.phi_mono ?_) (Ri.phi_fixT ?_) ?_ ?_
  · exact ⟨Ri.mono_isV _, Ri.mono_isV _, Ri.mono_isV _, Ri.mono_isV _, Ri.mono_isV _, Ri.mono_isV _, Ri.mono_isV _, Ri.mono_isV _, Ri.mono_isV _, Ri.mono_isV _, Ri.mono_isV _, Ri.mono_isV _, Ri.mono_isV _, trivial⟩
  · exact ⟨fun _ => Ri.fixT_isV _, fun _ => Ri.fixT_isV _, fun _ => Ri.fixT_isV _, fun _ => Ri.fixT_isV _, fun _ => Ri.fixT_isV _, fun _ => Ri.fixT_isV _, fun _ => Ri.fixT_isV _, fun _ => Ri.fixT_isV _, fun _ => Ri.fixT_isV _, fun _ => Ri.fixT_isV _, fun _ => Ri.fixT_isV _, fun _ => Ri.fixT_isV _, fun _ => Ri.fixT_isV _, trivial⟩
  · refine Ri.All.cons ?_ (Ri.All.cons ?_ (Ri.All.cons ?_ (Ri.All.cons ?_ (Ri.All.cons ?_ (Ri.All.cons ?_ (Ri.All.cons ?_ (Ri.All.cons ?_ (Ri.All.cons ?_ (Ri.All.cons ?_ (Ri.All.cons ?_ (Ri.All.cons ?_ (Ri.All.cons ?_ (Ri.All.nil)))))))))))))
    · refine Ri.StepE.z (by kernel_rfl) rfl (Ri.StepZ.q (by kernel_rfl) rfl fun f W hq hf A hA hB hO => ?_)
      have e1 := (hB 0 (by kernel_rfl)).trans (show _ = .pointer (some ⟨b, 0, none⟩) by simp [Act.eval])
      exact Ri.wp_value _ (Ri.run_mv rfl e1) rfl
    · refine Ri.StepE.z (by kernel_rfl) rfl (Ri.StepZ.q (by kernel_rfl) rfl fun f W hq hf A hA hB hO => ?_)
      have e1 := (hA 26 0 (by kernel_rfl) (by simp)).trans (show f 0 = _ from hf 0 (by kernel_rfl))
      exact Ri.wp_value _ (Ri.run_nil rfl e1) rfl
    · refine Ri.StepE.z (by kernel_rfl) rfl (Ri.StepZ.q (by kernel_rfl) rfl fun f W hq hf A hA hB hO => ?_)
      have e1 := (hA 27 1 (by kernel_rfl) (by simp)).trans (show f 1 = _ from hf 1 (by kernel_rfl))
      exact Ri.wp_value _ (Ri.run_fld (f := _) rfl e1 Tryz.underlying124 rfl (sz := 3) (by kernel_rfl)) rfl
    · refine Ri.StepE.z (by kernel_rfl) rfl (Ri.StepZ.q (by kernel_rfl) rfl fun f W hq hf A hA hB hO => ?_)
      have e1 := (hB 0 (by kernel_rfl)).trans (show _ = .pointer (some ⟨b, 0, none⟩) by simp [Act.eval])
      exact Ri.wp_value _ (Ri.run_mv rfl e1) rfl
    · refine Ri.StepE.z (by kernel_rfl) rfl (Ri.StepZ.q (by kernel_rfl) rfl fun f W hq hf A hA hB hO => ?_)
      have e1 := (hA 29 3 (by kernel_rfl) (by simp)).trans (show f 3 = _ from hf 3 (by kernel_rfl))
      exact Ri.wp_value _ (Ri.run_nil rfl e1) rfl
    · refine Ri.StepE.z (by kernel_rfl) rfl (Ri.StepZ.q (by kernel_rfl) rfl fun f W hq hf A hA hB hO => ?_)
      have e1 := (hA 30 4 (by kernel_rfl) (by simp)).trans (show f 4 = _ from hf 4 (by kernel_rfl))
      exact Ri.wp_value _ (Ri.run_fld (f := _) rfl e1 Tryz.underlying124 rfl (sz := 3) (by kernel_rfl)) rfl
    · refine Ri.StepE.z (by kernel_rfl) rfl (Ri.StepZ.q (by kernel_rfl) rfl fun f W hq hf A hA hB hO => ?_)
      have e1 := (hB 0 (by kernel_rfl)).trans (show _ = .pointer (some ⟨b, 0, none⟩) by simp [Act.eval])
      exact Ri.wp_value _ (Ri.run_mv rfl e1) rfl
    · refine Ri.StepE.z (by kernel_rfl) rfl (Ri.StepZ.q (by kernel_rfl) rfl fun f W hq hf A hA hB hO => ?_)
      have e1 := (hA 32 6 (by kernel_rfl) (by simp)).trans (show f 6 = _ from hf 6 (by kernel_rfl))
      exact Ri.wp_value _ (Ri.run_nil rfl e1) rfl
    · refine Ri.StepE.z (by kernel_rfl) rfl (Ri.StepZ.q (by kernel_rfl) rfl fun f W hq hf A hA hB hO => ?_)
      have e1 := (hA 33 7 (by kernel_rfl) (by simp)).trans (show f 7 = _ from hf 7 (by kernel_rfl))
      exact Ri.wp_value _ (Ri.run_fld (f := _) rfl e1 Tryz.underlying124 rfl (sz := 3) (by kernel_rfl)) rfl
    · refine Ri.StepE.z (by kernel_rfl) rfl (Ri.StepZ.q (by kernel_rfl) rfl fun f W hq hf A hA hB hO => ?_)
      have e1 := (hA 34 8 (by kernel_rfl) (by simp)).trans (show f 8 = _ from hf 8 (by kernel_rfl))
      exact Ri.wp_value _ (Ri.run_fld (f := _) rfl e1 Tryz.underlying122 rfl (sz := 0) (by kernel_rfl)) rfl
    · refine Ri.StepE.z (by kernel_rfl) rfl (Ri.StepZ.q (by kernel_rfl) rfl fun f W hq hf A hA hB hO => ?_)
      have e1 := (hA 35 9 (by kernel_rfl) (by simp)).trans (show f 9 = _ from hf 9 (by kernel_rfl))
      exact Ri.wp_value _ (Ri.run_ld1 rfl e1 Tryz.underlying3 rfl (HKN.out W hq)) rfl
    · refine Ri.StepE.z (by kernel_rfl) rfl (Ri.StepZ.q (by kernel_rfl) rfl fun f W hq hf A hA hB hO => ?_)
      have e1 := (hA 36 10 (by kernel_rfl) (by simp)).trans (show f 10 = _ from hf 10 (by kernel_rfl))
      have e2 : A.eval (.const (.int .i64 1)) = .int .i64 1 := rfl
      exact Ri.wp_value _ (Ri.run_subL rfl e1 e2 Tryz.underlying3) rfl
    · refine Ri.StepE.c (by kernel_rfl) rfl rfl fun f W hq hf A hA hB hO => ?_
      have e1 := (hA 31 5 (by kernel_rfl) (by simp)).trans (show f 5 = _ from hf 5 (by kernel_rfl))
      have e2 := (hA 37 11 (by kernel_rfl) (by simp)).trans (show f 11 = _ from hf 11 (by kernel_rfl))
      refine Ri.wp_callZ (C := fun W' => LS w h r W' h.m r ∧ T3 W W' ∧ W.heap.size ≤ W'.heap.size) #[.pointer (some ⟨b, 0, none⟩), .int .i64 (len : Int)] rfl (by simp [e1, e2]) Tryz.func81 (by kernel_rfl) (by kernel_rfl) ((HRD.out W hq).mono ?_)
      rintro e w3 ⟨rfl, h1, h2⟩
      exact ⟨_, rfl, ⟨h1, h2, h2.1⟩, rfl⟩
  · intro f W hq hsz hf hD
    have e2 : f 2 = .pointer (some ⟨b, 0, none⟩) := hf 2 (by decide) (by kernel_rfl)
    have e12 : f 12 = .agg #[.int .i64 a0, .int .i64 a1, .int .i64 a2] := hf 12 (by decide) (by kernel_rfl)
    simp only [Ri.acts, Act.put, List.setIfInBounds_toArray, List.set_cons_zero, List.set_cons_succ, Nat.zero_add, Nat.reduceAdd, List.drop_succ_cons, List.drop_zero]
    rw [e2, e12]
    have HXA := hide hq
    clear hf hD hq hsz e2 e12
    go_wp2_with (first
      | (go_at_call 80; refine (HWR.out _ HXA.out).mono ?_; rintro e w3 ⟨rfl, m3, hX3, S3, T3'⟩; have HX3 := hide hX3; have HS3 := hide S3; have HT3 := hide T3'; clear hX3 S3 T3'; have hbl3 := HBL.out _ _ _ HX3.out)
      | (go_at_call 82; refine (HDR.out _ _ HX3.out HS3.out).mono ?_; rintro e w4 ⟨rfl, m4, r7, hX4, D4, S4⟩; have HX4 := hide hX4; have HD4 := hide D4; have HS4 := hide S4; clear hX4 D4 S4))
    have HPD : Hid (Popd h.m m4 r.ps r7.ps) := ⟨HD4.out.inv, HT3.out.fr.trans HD4.out.fr, HD4.out.calls.trans HT3.out.calls, fun d hL => HD4.out.low d (hL.same HT3.out.fr HT3.out.failIn)⟩
    have HFIN : Hid (∀ W m1 L1, LS w h r W m1 r7 → QueR m1 r7 L1 t → L1.Perm (popL Ls) → Wrtn m4 m1 3 r7.ps → Ord L1 → ∃ m' r2 L2, LS w h r W m' r2 ∧ QueR m' r2 L2 t ∧ Popd h.m m' r.ps r2.ps ∧ L2.Perm (popL Ls) ∧ Ord L2) := fun W m1 L1 X S1 hp T1 hO1 =>
      ⟨m1, r7, L1, X, S1, ⟨T1.inv, HPD.out.fr.trans T1.fr, T1.calls.trans HPD.out.calls, fun d hL => (HPD.out.low d hL).same T1.fr T1.failIn⟩, hp, hO1⟩
    clear HPK HRD HKN HWR HDR HX1 HXA HX3 HS3 HT3 HD4
    go_loopw [10] (fun vi wr => ∃ (i : Nat) (L1 : List (List Int)) (m1 : HM), i ≤ 64 ∧ vi = .int .i64 (i : Int) ∧ Hid (LS w h r wr m1 r7 ∧ QueR m1 r7 L1 t ∧ DnI L1 i ∧ L1.Perm (popL Ls) ∧ Wrtn m4 m1 3 r7.ps)) (fun vi _ => 100 - (intOf vi).toNat)
    case atStart => exact ⟨0, popL Ls, m4, by omega, by go_num, HX4.out, HS4.out, HDN.out, List.Perm.refl _, ⟨HS4.out.inv, .refl _ _, rfl, rfl⟩⟩
    case round =>
      obtain ⟨i, L1, m1, hi1, rfl, HR⟩ := hrel
      clear HX4 HS4 HDN
      have hl64 := HR.out.2.1.le
      have HXR : Hid (LS w h r wr m1 r7) := HR.out.1
      obtain ⟨c2, hbl⟩ := HK2.out _ _ _ _ HR.out.1 HR.out.2.1
      by_cases hlt : 2 * i + 1 < L1.length
      · have d0 : decide (2 * (i : Int) + 1 < (L1.length : Int)) = true := by simp; omega
        obtain ⟨a0, a1, a2, hp2, ep⟩ := HR.out.2.1.row hlt
        have HLT := hide hlt
        have HEP := hide ep
        have HR1 : Hid (∀ W, LS w h r W m1 r7 → Calls Tryz.prog 81 #[.pointer (some ⟨b, 0, none⟩), .int .i64 (2 * (i : Int) + 1)] W fun e W' => e = .returned (.agg #[.int .i64 a0, .int .i64 a1, .int .i64 a2]) ∧ LS w h r W' m1 r7) := fun W X => by
          have := HR3.out W m1 r7 L1 (2 * i + 1) a0 a1 a2 X HR.out.2.1 hp2
          push_cast at this
          exact this
        have HK9 : Hid (∀ W, LS w h r W m1 r7 → W.cell? ⟨b, 2, none⟩ = some (.int .i64 (L1.length : Int))) := fun W X => (HK2.out W m1 r7 L1 X HR.out.2.1).1
        have HLS := hide (lesser_of hlt)
        have hil : i < L1.length := by omega
        have HIL := hide hil
        by_cases hlt2 : 2 * i + 2 < L1.length
        · obtain ⟨b0, b1, b2, hq2, eq2⟩ := HR.out.2.1.row hlt2
          have HR2 : Hid (∀ W, LS w h r W m1 r7 → Calls Tryz.prog 81 #[.pointer (some ⟨b, 0, none⟩), .int .i64 (2 * (i : Int) + 1 + 1)] W fun e W' => e = .returned (.agg #[.int .i64 b0, .int .i64 b1, .int .i64 b2]) ∧ LS w h r W' m1 r7) := fun W X => by
            have := HR3.out W m1 r7 L1 (2 * i + 1 + 1) b0 b1 b2 X HR.out.2.1 hq2
            push_cast at this
            exact this
          have HLT2 := hide hlt2
          obtain ⟨bb, ebb⟩ : ∃ bb, bb = bf [b0, b1, b2] [a0, a1, a2] := ⟨_, rfl⟩
          have HBA : Hid (∀ W, Calls Tryz.prog 83 #[.agg #[.int .i64 b0, .int .i64 b1, .int .i64 b2], .agg #[.int .i64 a0, .int .i64 a1, .int .i64 a2]] W fun e w' => e = .returned (.bool bb) ∧ Q W w') := fun W => by rw [ebb]; exact isBefore_any _ _ _ _ _ _ W
          have HEB : Hid (bf (rw_ L1 (2 * i + 2)) (rw_ L1 (2 * i + 1)) = bb) := by rw [eq2, ep]; exact ebb.symm
          have hd2 : decide (2 * (i : Int) + 1 + 1 < (L1.length : Int)) = true := by simp; omega
          clear hp2 ep hq2 eq2 ebb hlt hlt2 hil
          go_upto_region 9 with fail
          refine Ri.madeZ (C := (fun W => LS w h r W m1 r7)) [14, 19] [0, 1, 2, 3, 4, 5, 6, 7, 8, 9, 10, 11, 12, 13, 14, 15, 16, 17, 18, 19, 20, 21] (fun w1 w2 X hq => X.q hq) (Ri.phi [Ri.isV (.int .i64 (2 * (i : Int) + 1)), Ri.isV (.int .i64 (2 * (i : Int) + 1 + 1)), Ri.isV (.pointer (some ⟨b, 0, none⟩)), Ri.isV (.pointer (some ⟨b, 0, none⟩)), Ri.isV (.pointer (some ⟨b, 0, none⟩)), Ri.isV (.pointer (some ⟨b, 2, none⟩)), Ri.isV (.int .i64 (L1.length : Int)), Ri.isV (.bool true), Ri.isV (.bool true), Ri.isV (.pointer (some ⟨b, 0, none⟩)), Ri.isV (.pointer (some ⟨b, 0, none⟩)), Ri.isV (.pointer (some ⟨b, 0, none⟩)), Ri.isV (.int .i64 (2 * (i : Int) + 1)), Ri.isV (.int .i64 (2 * (i : Int) + 1 + 1)), Ri.isV (.agg #[.int .i64 b0, .int .i64 b1, .int .i64 b2]), Ri.isV (.pointer (some ⟨b, 0, none⟩)), Ri.isV (.pointer (some ⟨b, 0, none⟩)), Ri.isV (.pointer (some ⟨b, 0, none⟩)), Ri.isV (.int .i64 (2 * (i : Int) + 1)), Ri.isV (.agg #[.int .i64 a0, .int .i64 a1, .int .i64 a2]), Ri.isV (.bool bb), Ri.isV (.bool bb)]) (by kernel_rfl) (by kernel_rfl) (by kernel_rfl) (HXR.out.q (Q.refl _).drew) (Ri.phi_mono ?_) (Ri.phi_fix ?_) ?_ ?_
          · exact ⟨Ri.mono_isV _, Ri.mono_isV _, Ri.mono_isV _, Ri.mono_isV _, Ri.mono_isV _, Ri.mono_isV _, Ri.mono_isV _, Ri.mono_isV _, Ri.mono_isV _, Ri.mono_isV _, Ri.mono_isV _, Ri.mono_isV _, Ri.mono_isV _, Ri.mono_isV _, Ri.mono_isV _, Ri.mono_isV _, Ri.mono_isV _, Ri.mono_isV _, Ri.mono_isV _, Ri.mono_isV _, Ri.mono_isV _, Ri.mono_isV _, trivial⟩
          · exact ⟨fun _ => Ri.fix_isV _, fun _ => Ri.fix_isV _, fun _ => Ri.fix_isV _, fun _ => Ri.fix_isV _, fun _ => Ri.fix_isV _, fun _ => Ri.fix_isV _, fun _ => Ri.fix_isV _, fun _ => Ri.fix_isV _, fun _ => Ri.fix_isV _, fun _ => Ri.fix_isV _, fun _ => Ri.fix_isV _, fun _ => Ri.fix_isV _, fun _ => Ri.fix_isV _, fun _ => Ri.fix_isV _, fun _ => Ri.fix_isV _, fun _ => Ri.fix_isV _, fun _ => Ri.fix_isV _, fun _ => Ri.fix_isV _, fun _ => Ri.fix_isV _, fun _ => Ri.fix_isV _, fun _ => Ri.fix_isV _, fun _ => Ri.fix_isV _, trivial⟩
          · refine Ri.All.cons ?_ (Ri.All.cons ?_ (Ri.All.cons ?_ (Ri.All.cons ?_ (Ri.All.cons ?_ (Ri.All.cons ?_ (Ri.All.cons ?_ (Ri.All.cons ?_ (Ri.All.cons ?_ (Ri.All.cons ?_ (Ri.All.cons ?_ (Ri.All.cons ?_ (Ri.All.cons ?_ (Ri.All.cons ?_ (Ri.All.cons ?_ (Ri.All.cons ?_ (Ri.All.cons ?_ (Ri.All.cons ?_ (Ri.All.cons ?_ (Ri.All.cons ?_ (Ri.All.cons ?_ (Ri.All.cons ?_ (Ri.All.nil))))))))))))))))))))))
            · refine Ri.StepZ.q (by kernel_rfl) rfl fun f W hq hf A hA hB hO => ?_
              have e1 := (hB 11 (by kernel_rfl)).trans (show _ = .int .i64 (2 * (i : Int) + 1) by simp [Act.eval])
              exact Ri.wp_value _ (Ri.run_mv rfl e1) rfl
            · refine Ri.StepZ.q (by kernel_rfl) rfl fun f W hq hf A hA hB hO => ?_
              have e1 := (hA 56 0 (by kernel_rfl) (by simp)).trans (show f 0 = _ from hf 0 (by kernel_rfl))
              have e2 : A.eval (.const (.int .i64 1)) = .int .i64 1 := rfl
              exact Ri.wp_value _ (run_addI rfl e1 e2 Tryz.underlying3 (by omega) (by omega)) rfl
            · refine Ri.StepZ.q (by kernel_rfl) rfl fun f W hq hf A hA hB hO => ?_
              have e1 := (hB 0 (by kernel_rfl)).trans (show _ = .pointer (some ⟨b, 0, none⟩) by simp [Act.eval])
              exact Ri.wp_value _ (Ri.run_mv rfl e1) rfl
            · refine Ri.StepZ.q (by kernel_rfl) rfl fun f W hq hf A hA hB hO => ?_
              have e1 := (hA 58 2 (by kernel_rfl) (by simp)).trans (show f 2 = _ from hf 2 (by kernel_rfl))
              exact Ri.wp_value _ (Ri.run_nil rfl e1) rfl
            · refine Ri.StepZ.q (by kernel_rfl) rfl fun f W hq hf A hA hB hO => ?_
              have e1 := (hA 59 3 (by kernel_rfl) (by simp)).trans (show f 3 = _ from hf 3 (by kernel_rfl))
              exact Ri.wp_value _ (Ri.run_fld (f := _) rfl e1 Tryz.underlying124 rfl (sz := 3) (by kernel_rfl)) rfl
            · refine Ri.StepZ.q (by kernel_rfl) rfl fun f W hq hf A hA hB hO => ?_
              have e1 := (hA 60 4 (by kernel_rfl) (by simp)).trans (show f 4 = _ from hf 4 (by kernel_rfl))
              exact Ri.wp_value _ (Ri.run_fld (f := _) rfl e1 Tryz.underlying122 rfl (sz := 0) (by kernel_rfl)) rfl
            · refine Ri.StepZ.q (by kernel_rfl) rfl fun f W hq hf A hA hB hO => ?_
              have e1 := (hA 61 5 (by kernel_rfl) (by simp)).trans (show f 5 = _ from hf 5 (by kernel_rfl))
              exact Ri.wp_value _ (Ri.run_ld1 rfl e1 Tryz.underlying3 rfl (HK9.out W hq)) rfl
            · refine Ri.StepZ.q (by kernel_rfl) rfl fun f W hq hf A hA hB hO => ?_
              have e1 := (hA 57 1 (by kernel_rfl) (by simp)).trans (show f 1 = _ from hf 1 (by kernel_rfl))
              have e2 := (hA 62 6 (by kernel_rfl) (by simp)).trans (show f 6 = _ from hf 6 (by kernel_rfl))
              exact Ri.wp_value _ ((Ri.run_lss rfl e1 e2 Tryz.underlying3).trans (by rw [hd2])) rfl
            · refine Ri.StepZ.q (by kernel_rfl) rfl fun f W hq hf A hA hB hO => ?_
              have e1 := (hA 63 7 (by kernel_rfl) (by simp)).trans (show f 7 = _ from hf 7 (by kernel_rfl))
              exact Ri.wp_value _ (Ri.run_mv rfl e1) rfl
            · refine Ri.StepZ.gq (by kernel_rfl) rfl rfl (by simp) fun f W hq hf A hA hB hO => ⟨hf 8 (by kernel_rfl), ?_⟩
              have e1 := (hB 0 (by kernel_rfl)).trans (show _ = .pointer (some ⟨b, 0, none⟩) by simp [Act.eval])
              exact Ri.wp_value _ (Ri.run_mv rfl e1) rfl
            · refine Ri.StepZ.gq (by kernel_rfl) rfl rfl (by simp) fun f W hq hf A hA hB hO => ⟨hf 8 (by kernel_rfl), ?_⟩
              have e1 := (hA 65 9 (by kernel_rfl) (by simp)).trans (show f 9 = _ from hf 9 (by kernel_rfl))
              exact Ri.wp_value _ (Ri.run_nil rfl e1) rfl
            · refine Ri.StepZ.gq (by kernel_rfl) rfl rfl (by simp) fun f W hq hf A hA hB hO => ⟨hf 8 (by kernel_rfl), ?_⟩
              have e1 := (hA 66 10 (by kernel_rfl) (by simp)).trans (show f 10 = _ from hf 10 (by kernel_rfl))
              exact Ri.wp_value _ (Ri.run_fld (f := _) rfl e1 Tryz.underlying124 rfl (sz := 3) (by kernel_rfl)) rfl
            · refine Ri.StepZ.gq (by kernel_rfl) rfl rfl (by simp) fun f W hq hf A hA hB hO => ⟨hf 8 (by kernel_rfl), ?_⟩
              have e1 := (hB 11 (by kernel_rfl)).trans (show _ = .int .i64 (2 * (i : Int) + 1) by simp [Act.eval])
              exact Ri.wp_value _ (Ri.run_mv rfl e1) rfl
            · refine Ri.StepZ.gq (by kernel_rfl) rfl rfl (by simp) fun f W hq hf A hA hB hO => ⟨hf 8 (by kernel_rfl), ?_⟩
              have e1 := (hA 68 12 (by kernel_rfl) (by simp)).trans (show f 12 = _ from hf 12 (by kernel_rfl))
              have e2 : A.eval (.const (.int .i64 1)) = .int .i64 1 := rfl
              exact Ri.wp_value _ (run_addI rfl e1 e2 Tryz.underlying3 (by omega) (by omega)) rfl
            · refine Ri.StepZ.gc (by kernel_rfl) rfl rfl (by simp) fun f W hq hf A hA hB hO => ⟨hf 8 (by kernel_rfl), ?_⟩
              have e1 := (hA 67 11 (by kernel_rfl) (by simp)).trans (show f 11 = _ from hf 11 (by kernel_rfl))
              have e2 := (hA 69 13 (by kernel_rfl) (by simp)).trans (show f 13 = _ from hf 13 (by kernel_rfl))
              refine Ri.wp_callZ #[.pointer (some ⟨b, 0, none⟩), .int .i64 (2 * (i : Int) + 1 + 1)] rfl (by simp [e1, e2]) Tryz.func81 (by kernel_rfl) (by kernel_rfl) ((HR2.out W hq).mono ?_)
              rintro e w3 ⟨rfl, h1⟩
              exact ⟨_, rfl, h1, rfl⟩
            · refine Ri.StepZ.gq (by kernel_rfl) rfl rfl (by simp) fun f W hq hf A hA hB hO => ⟨hf 8 (by kernel_rfl), ?_⟩
              have e1 := (hB 0 (by kernel_rfl)).trans (show _ = .pointer (some ⟨b, 0, none⟩) by simp [Act.eval])
              exact Ri.wp_value _ (Ri.run_mv rfl e1) rfl
            · refine Ri.StepZ.gq (by kernel_rfl) rfl rfl (by simp) fun f W hq hf A hA hB hO => ⟨hf 8 (by kernel_rfl), ?_⟩
              have e1 := (hA 71 15 (by kernel_rfl) (by simp)).trans (show f 15 = _ from hf 15 (by kernel_rfl))
              exact Ri.wp_value _ (Ri.run_nil rfl e1) rfl
            · refine Ri.StepZ.gq (by kernel_rfl) rfl rfl (by simp) fun f W hq hf A hA hB hO => ⟨hf 8 (by kernel_rfl), ?_⟩
              have e1 := (hA 72 16 (by kernel_rfl) (by simp)).trans (show f 16 = _ from hf 16 (by kernel_rfl))
              exact Ri.wp_value _ (Ri.run_fld (f := _) rfl e1 Tryz.underlying124 rfl (sz := 3) (by kernel_rfl)) rfl
            · refine Ri.StepZ.gq (by kernel_rfl) rfl rfl (by simp) fun f W hq hf A hA hB hO => ⟨hf 8 (by kernel_rfl), ?_⟩
              have e1 := (hB 11 (by kernel_rfl)).trans (show _ = .int .i64 (2 * (i : Int) + 1) by simp [Act.eval])
              exact Ri.wp_value _ (Ri.run_mv rfl e1) rfl
            · refine Ri.StepZ.gc (by kernel_rfl) rfl rfl (by simp) fun f W hq hf A hA hB hO => ⟨hf 8 (by kernel_rfl), ?_⟩
              have e1 := (hA 73 17 (by kernel_rfl) (by simp)).trans (show f 17 = _ from hf 17 (by kernel_rfl))
              have e2 := (hA 74 18 (by kernel_rfl) (by simp)).trans (show f 18 = _ from hf 18 (by kernel_rfl))
              refine Ri.wp_callZ #[.pointer (some ⟨b, 0, none⟩), .int .i64 (2 * (i : Int) + 1)] rfl (by simp [e1, e2]) Tryz.func81 (by kernel_rfl) (by kernel_rfl) ((HR1.out W hq).mono ?_)
              rintro e w3 ⟨rfl, h1⟩
              exact ⟨_, rfl, h1, rfl⟩
            · refine Ri.StepZ.gq (by kernel_rfl) rfl rfl (by simp) fun f W hq hf A hA hB hO => ⟨hf 8 (by kernel_rfl), ?_⟩
              have e1 := (hA 70 14 (by kernel_rfl) (by simp)).trans (show f 14 = _ from hf 14 (by kernel_rfl))
              have e2 := (hA 75 19 (by kernel_rfl) (by simp)).trans (show f 19 = _ from hf 19 (by kernel_rfl))
              refine Ri.wp_call #[.agg #[.int .i64 b0, .int .i64 b1, .int .i64 b2], .agg #[.int .i64 a0, .int .i64 a1, .int .i64 a2]] rfl (by simp [e1, e2]) Tryz.func83 (by kernel_rfl) (by kernel_rfl) ((HBA.out W).mono ?_)
              rintro e w3 ⟨rfl, h1⟩
              exact ⟨_, rfl, h1, rfl⟩
            · refine Ri.StepZ.q (by kernel_rfl) rfl fun f W hq hf A hA hB hO => ?_
              have e1 := (hA 64 8 (by kernel_rfl) (by simp)).trans (show f 8 = _ from hf 8 (by kernel_rfl))
              have e2 := (hA 76 20 (by kernel_rfl) (by simp)).trans (show f 20 = _ from hf 20 (by kernel_rfl))
              exact Ri.wp_value _ (Ri.run_pick rfl e1 (by simpa using e2)) rfl
          · intro f W hq hf
            have e21 : f 21 = .bool bb := hf 21 (by decide) (by kernel_rfl)
            simp only [Ri.acts, Act.put, List.setIfInBounds_toArray, List.set_cons_zero, List.set_cons_succ, Nat.zero_add, Nat.reduceAdd]
            rw [e21]
            have HXW := hide hq
            clear hf hq e21
            cases bb with
            | true =>
              have HLK : Hid (Lesser L1 i (2 * i + 2)) := by have := HLS.out; rw [if_pos ⟨HLT2.out, HEB.out⟩] at this; exact this
              have HSI : Hid (Calls Tryz.prog 79 #[.pointer (some ⟨b, 0, none⟩), .int .i64 (2 * (i : Int) + 1 + 1), .int .i64 (i : Int)] W fun e W' => ∃ m', LS w h r W' m' r7 ∧ ((bf (rw_ L1 (2 * i + 2)) (rw_ L1 i) = false ∧ e = .returned (.bool false) ∧ m' = m1) ∨ (bf (rw_ L1 (2 * i + 2)) (rw_ L1 i) = true ∧ e = .returned (.bool true) ∧ QueR m' r7 (swp L1 (2 * i + 2) i) t ∧ Wrtn m1 m' 3 r7.ps))) := by
                have := HSW.out W m1 r7 L1 i (2 * i + 2) HXW.out HR.out.2.1 HIL.out HLK.out.2.2.1 (by omega)
                rw [show (((2 * i + 2 : Nat)) : Int) = 2 * (i : Int) + 1 + 1 by push_cast; try omega] at this
                exact this
              go_wp2_with fail
              refine HSI.out.mono ?_
              rintro e w9 ⟨m2, hX9, (⟨hb, rfl, rfl⟩ | ⟨hb, rfl, S9, T9⟩)⟩
              · have HX9 := hide hX9
                have HB := hide hb
                clear hX9 hb HSI
                go_wp2_with fail
                refine bodyPost_ret (results_tmp4 rfl _ _) rfl ?_
                obtain ⟨m9, r9, L9, z1, z2⟩ := HFIN.out _ _ _ HX9.out HR.out.2.1 HR.out.2.2.2.1 HR.out.2.2.2.2 (HR.out.2.2.1.stop HLK.out HB.out)
                exact ⟨m9, r9, L9, z1, rfl, z2⟩
              · have HX9 := hide hX9
                have HB := hide hb
                have HS9 := hide S9
                have HT9 := hide T9
                clear hX9 hb HSI S9 T9
                go_wp2_with fail
                go_roundw
                case rel =>
                  have hk9 := HLK.out.2.2.1
                  refine ⟨2 * i + 2, swp L1 (2 * i + 2) i, m2, by omega, by simp <;> omega, HX9.out, HS9.out, HR.out.2.2.1.step HLK.out HB.out, (swp_perm hk9 HIL.out).trans HR.out.2.2.2.1, HR.out.2.2.2.2.trans HT9.out⟩
                case measure =>
                  have hk9 := HLK.out.2.2.1
                  simp [intOf] <;> omega
            | false =>
              have HLK : Hid (Lesser L1 i (2 * i + 1)) := by have := HLS.out; rw [if_neg (fun x => by have := x.2; rw [HEB.out] at this; cases this)] at this; exact this
              have HSI : Hid (Calls Tryz.prog 79 #[.pointer (some ⟨b, 0, none⟩), .int .i64 (2 * (i : Int) + 1), .int .i64 (i : Int)] W fun e W' => ∃ m', LS w h r W' m' r7 ∧ ((bf (rw_ L1 (2 * i + 1)) (rw_ L1 i) = false ∧ e = .returned (.bool false) ∧ m' = m1) ∨ (bf (rw_ L1 (2 * i + 1)) (rw_ L1 i) = true ∧ e = .returned (.bool true) ∧ QueR m' r7 (swp L1 (2 * i + 1) i) t ∧ Wrtn m1 m' 3 r7.ps))) := by
                have := HSW.out W m1 r7 L1 i (2 * i + 1) HXW.out HR.out.2.1 HIL.out HLK.out.2.2.1 (by omega)
                rw [show (((2 * i + 1 : Nat)) : Int) = 2 * (i : Int) + 1 by push_cast; try omega] at this
                exact this
              go_wp2_with fail
              refine HSI.out.mono ?_
              rintro e w9 ⟨m2, hX9, (⟨hb, rfl, rfl⟩ | ⟨hb, rfl, S9, T9⟩)⟩
              · have HX9 := hide hX9
                have HB := hide hb
                clear hX9 hb HSI
                go_wp2_with fail
                refine bodyPost_ret (results_tmp4 rfl _ _) rfl ?_
                obtain ⟨m9, r9, L9, z1, z2⟩ := HFIN.out _ _ _ HX9.out HR.out.2.1 HR.out.2.2.2.1 HR.out.2.2.2.2 (HR.out.2.2.1.stop HLK.out HB.out)
                exact ⟨m9, r9, L9, z1, rfl, z2⟩
              · have HX9 := hide hX9
                have HB := hide hb
                have HS9 := hide S9
                have HT9 := hide T9
                clear hX9 hb HSI S9 T9
                go_wp2_with fail
                go_roundw
                case rel =>
                  have hk9 := HLK.out.2.2.1
                  refine ⟨2 * i + 1, swp L1 (2 * i + 1) i, m2, by omega, by simp <;> omega, HX9.out, HS9.out, HR.out.2.2.1.step HLK.out HB.out, (swp_perm hk9 HIL.out).trans HR.out.2.2.2.1, HR.out.2.2.2.2.trans HT9.out⟩
                case measure =>
                  have hk9 := HLK.out.2.2.1
                  simp [intOf] <;> omega
        · have HNL := hide hlt2
          have hd2 : decide (2 * (i : Int) + 1 + 1 < (L1.length : Int)) = false := by simp; omega
          clear hp2 ep hlt hlt2 hil
          go_upto_region 9 with fail
          refine Ri.madeZ (C := (fun W => LS w h r W m1 r7)) [] [0, 1, 2, 3, 4, 5, 6, 7, 8, 9, 10, 11, 12, 13, 14, 15, 16, 17, 18, 19, 20, 21] (fun w1 w2 X hq => X.q hq) (Ri.phi [Ri.isV (.int .i64 (2 * (i : Int) + 1)), Ri.isV (.int .i64 (2 * (i : Int) + 1 + 1)), Ri.isV (.pointer (some ⟨b, 0, none⟩)), Ri.isV (.pointer (some ⟨b, 0, none⟩)), Ri.isV (.pointer (some ⟨b, 0, none⟩)), Ri.isV (.pointer (some ⟨b, 2, none⟩)), Ri.isV (.int .i64 (L1.length : Int)), Ri.isV (.bool false), Ri.isV (.bool false), Ri.isV (undef), Ri.isV (undef), Ri.isV (undef), Ri.isV (undef), Ri.isV (undef), Ri.isV (undef), Ri.isV (undef), Ri.isV (undef), Ri.isV (undef), Ri.isV (undef), Ri.isV (undef), Ri.isV (undef), Ri.isV (.bool false)]) (by kernel_rfl) (by kernel_rfl) (by kernel_rfl) (HXR.out.q (Q.refl _).drew) (Ri.phi_mono ?_) (Ri.phi_fix ?_) ?_ ?_
          · exact ⟨Ri.mono_isV _, Ri.mono_isV _, Ri.mono_isV _, Ri.mono_isV _, Ri.mono_isV _, Ri.mono_isV _, Ri.mono_isV _, Ri.mono_isV _, Ri.mono_isV _, Ri.mono_isV _, Ri.mono_isV _, Ri.mono_isV _, Ri.mono_isV _, Ri.mono_isV _, Ri.mono_isV _, Ri.mono_isV _, Ri.mono_isV _, Ri.mono_isV _, Ri.mono_isV _, Ri.mono_isV _, Ri.mono_isV _, Ri.mono_isV _, trivial⟩
          · exact ⟨fun _ => Ri.fix_isV _, fun _ => Ri.fix_isV _, fun _ => Ri.fix_isV _, fun _ => Ri.fix_isV _, fun _ => Ri.fix_isV _, fun _ => Ri.fix_isV _, fun _ => Ri.fix_isV _, fun _ => Ri.fix_isV _, fun _ => Ri.fix_isV _, fun _ => Ri.fix_isV _, fun _ => Ri.fix_isV _, fun _ => Ri.fix_isV _, fun _ => Ri.fix_isV _, fun _ => Ri.fix_isV _, fun _ => Ri.fix_isV _, fun _ => Ri.fix_isV _, fun _ => Ri.fix_isV _, fun _ => Ri.fix_isV _, fun _ => Ri.fix_isV _, fun _ => Ri.fix_isV _, fun _ => Ri.fix_isV _, fun _ => Ri.fix_isV _, trivial⟩
          · refine Ri.All.cons ?_ (Ri.All.cons ?_ (Ri.All.cons ?_ (Ri.All.cons ?_ (Ri.All.cons ?_ (Ri.All.cons ?_ (Ri.All.cons ?_ (Ri.All.cons ?_ (Ri.All.cons ?_ (Ri.All.cons ?_ (Ri.All.cons ?_ (Ri.All.cons ?_ (Ri.All.cons ?_ (Ri.All.cons ?_ (Ri.All.cons ?_ (Ri.All.cons ?_ (Ri.All.cons ?_ (Ri.All.cons ?_ (Ri.All.cons ?_ (Ri.All.cons ?_ (Ri.All.cons ?_ (Ri.All.cons ?_ (Ri.All.nil))))))))))))))))))))))
            · refine Ri.StepZ.q (by kernel_rfl) rfl fun f W hq hf A hA hB hO => ?_
              have e1 := (hB 11 (by kernel_rfl)).trans (show _ = .int .i64 (2 * (i : Int) + 1) by simp [Act.eval])
              exact Ri.wp_value _ (Ri.run_mv rfl e1) rfl
            · refine Ri.StepZ.q (by kernel_rfl) rfl fun f W hq hf A hA hB hO => ?_
              have e1 := (hA 56 0 (by kernel_rfl) (by simp)).trans (show f 0 = _ from hf 0 (by kernel_rfl))
              have e2 : A.eval (.const (.int .i64 1)) = .int .i64 1 := rfl
              exact Ri.wp_value _ (run_addI rfl e1 e2 Tryz.underlying3 (by omega) (by omega)) rfl
            · refine Ri.StepZ.q (by kernel_rfl) rfl fun f W hq hf A hA hB hO => ?_
              have e1 := (hB 0 (by kernel_rfl)).trans (show _ = .pointer (some ⟨b, 0, none⟩) by simp [Act.eval])
              exact Ri.wp_value _ (Ri.run_mv rfl e1) rfl
            · refine Ri.StepZ.q (by kernel_rfl) rfl fun f W hq hf A hA hB hO => ?_
              have e1 := (hA 58 2 (by kernel_rfl) (by simp)).trans (show f 2 = _ from hf 2 (by kernel_rfl))
              exact Ri.wp_value _ (Ri.run_nil rfl e1) rfl
            · refine Ri.StepZ.q (by kernel_rfl) rfl fun f W hq hf A hA hB hO => ?_
              have e1 := (hA 59 3 (by kernel_rfl) (by simp)).trans (show f 3 = _ from hf 3 (by kernel_rfl))
              exact Ri.wp_value _ (Ri.run_fld (f := _) rfl e1 Tryz.underlying124 rfl (sz := 3) (by kernel_rfl)) rfl
            · refine Ri.StepZ.q (by kernel_rfl) rfl fun f W hq hf A hA hB hO => ?_
              have e1 := (hA 60 4 (by kernel_rfl) (by simp)).trans (show f 4 = _ from hf 4 (by kernel_rfl))
              exact Ri.wp_value _ (Ri.run_fld (f := _) rfl e1 Tryz.underlying122 rfl (sz := 0) (by kernel_rfl)) rfl
            · refine Ri.StepZ.q (by kernel_rfl) rfl fun f W hq hf A hA hB hO => ?_
              have e1 := (hA 61 5 (by kernel_rfl) (by simp)).trans (show f 5 = _ from hf 5 (by kernel_rfl))
              exact Ri.wp_value _ (Ri.run_ld1 rfl e1 Tryz.underlying3 rfl (HK9.out W hq)) rfl
            · refine Ri.StepZ.q (by kernel_rfl) rfl fun f W hq hf A hA hB hO => ?_
              have e1 := (hA 57 1 (by kernel_rfl) (by simp)).trans (show f 1 = _ from hf 1 (by kernel_rfl))
              have e2 := (hA 62 6 (by kernel_rfl) (by simp)).trans (show f 6 = _ from hf 6 (by kernel_rfl))
              exact Ri.wp_value _ ((Ri.run_lss rfl e1 e2 Tryz.underlying3).trans (by rw [hd2])) rfl
            · refine Ri.StepZ.q (by kernel_rfl) rfl fun f W hq hf A hA hB hO => ?_
              have e1 := (hA 63 7 (by kernel_rfl) (by simp)).trans (show f 7 = _ from hf 7 (by kernel_rfl))
              exact Ri.wp_value _ (Ri.run_mv rfl e1) rfl
            · refine Ri.StepZ.off rfl rfl (by simp) fun f W hq hf => ⟨hf 8 (by kernel_rfl), rfl⟩
            · refine Ri.StepZ.off rfl rfl (by simp) fun f W hq hf => ⟨hf 8 (by kernel_rfl), rfl⟩
            · refine Ri.StepZ.off rfl rfl (by simp) fun f W hq hf => ⟨hf 8 (by kernel_rfl), rfl⟩
            · refine Ri.StepZ.off rfl rfl (by simp) fun f W hq hf => ⟨hf 8 (by kernel_rfl), rfl⟩
            · refine Ri.StepZ.off rfl rfl (by simp) fun f W hq hf => ⟨hf 8 (by kernel_rfl), rfl⟩
            · refine Ri.StepZ.off rfl rfl (by simp) fun f W hq hf => ⟨hf 8 (by kernel_rfl), rfl⟩
            · refine Ri.StepZ.off rfl rfl (by simp) fun f W hq hf => ⟨hf 8 (by kernel_rfl), rfl⟩
            · refine Ri.StepZ.off rfl rfl (by simp) fun f W hq hf => ⟨hf 8 (by kernel_rfl), rfl⟩
            · refine Ri.StepZ.off rfl rfl (by simp) fun f W hq hf => ⟨hf 8 (by kernel_rfl), rfl⟩
            · refine Ri.StepZ.off rfl rfl (by simp) fun f W hq hf => ⟨hf 8 (by kernel_rfl), rfl⟩
            · refine Ri.StepZ.off rfl rfl (by simp) fun f W hq hf => ⟨hf 8 (by kernel_rfl), rfl⟩
            · refine Ri.StepZ.off rfl rfl (by simp) fun f W hq hf => ⟨hf 8 (by kernel_rfl), rfl⟩
            · refine Ri.StepZ.q (by kernel_rfl) rfl fun f W hq hf A hA hB hO => ?_
              have e1 := (hA 64 8 (by kernel_rfl) (by simp)).trans (show f 8 = _ from hf 8 (by kernel_rfl))
              exact Ri.wp_value _ (Ri.run_pick rfl e1 (by simp [Act.eval])) rfl
          · intro f W hq hf
            have e21 : f 21 = .bool false := hf 21 (by decide) (by kernel_rfl)
            simp only [Ri.acts, Act.put, List.setIfInBounds_toArray, List.set_cons_zero, List.set_cons_succ, Nat.zero_add, Nat.reduceAdd]
            rw [e21]
            have HXW := hide hq
            clear hf hq e21
            have HLK : Hid (Lesser L1 i (2 * i + 1)) := by have := HLS.out; rw [if_neg (fun x => HNL.out x.1)] at this; exact this
            have HSI : Hid (Calls Tryz.prog 79 #[.pointer (some ⟨b, 0, none⟩), .int .i64 (2 * (i : Int) + 1), .int .i64 (i : Int)] W fun e W' => ∃ m', LS w h r W' m' r7 ∧ ((bf (rw_ L1 (2 * i + 1)) (rw_ L1 i) = false ∧ e = .returned (.bool false) ∧ m' = m1) ∨ (bf (rw_ L1 (2 * i + 1)) (rw_ L1 i) = true ∧ e = .returned (.bool true) ∧ QueR m' r7 (swp L1 (2 * i + 1) i) t ∧ Wrtn m1 m' 3 r7.ps))) := by
              have := HSW.out W m1 r7 L1 i (2 * i + 1) HXW.out HR.out.2.1 HIL.out HLK.out.2.2.1 (by omega)
              rw [show (((2 * i + 1 : Nat)) : Int) = 2 * (i : Int) + 1 by push_cast; try omega] at this
              exact this
            go_wp2_with fail
            refine HSI.out.mono ?_
            rintro e w9 ⟨m2, hX9, (⟨hb, rfl, rfl⟩ | ⟨hb, rfl, S9, T9⟩)⟩
            · have HX9 := hide hX9
              have HB := hide hb
              clear hX9 hb HSI
              go_wp2_with fail
              refine bodyPost_ret (results_tmp4 rfl _ _) rfl ?_
              obtain ⟨m9, r9, L9, z1, z2⟩ := HFIN.out _ _ _ HX9.out HR.out.2.1 HR.out.2.2.2.1 HR.out.2.2.2.2 (HR.out.2.2.1.stop HLK.out HB.out)
              exact ⟨m9, r9, L9, z1, rfl, z2⟩
            · have HX9 := hide hX9
              have HB := hide hb
              have HS9 := hide S9
              have HT9 := hide T9
              clear hX9 hb HSI S9 T9
              go_wp2_with fail
              go_roundw
              case rel =>
                have hk9 := HLK.out.2.2.1
                refine ⟨2 * i + 1, swp L1 (2 * i + 1) i, m2, by omega, by simp <;> omega, HX9.out, HS9.out, HR.out.2.2.1.step HLK.out HB.out, (swp_perm hk9 HIL.out).trans HR.out.2.2.2.1, HR.out.2.2.2.2.trans HT9.out⟩
              case measure =>
                have hk9 := HLK.out.2.2.1
                simp [intOf] <;> omega
      · have d0 : decide (2 * (i : Int) + 1 < (L1.length : Int)) = false := by simp; omega
        have HNL := hide hlt
        obtain ⟨nl, enl⟩ : ∃ nl : Int, nl = (L1.length : Int) := ⟨_, rfl⟩
        rw [← enl] at c2 d0
        clear enl
        go_wp2_with fail
        refine bodyPost_ret (results_tmp4 rfl _ _) rfl ?_
        obtain ⟨m9, r9, L9, z1, z2⟩ := HFIN.out _ _ _ HR.out.1 HR.out.2.1 HR.out.2.2.2.1 HR.out.2.2.2.2 (HR.out.2.2.1.leaf (by have := HNL.out; omega))
        exact ⟨m9, r9, L9, z1, rfl, z2⟩
end
end Go.Proofs.YtdaklffbfadghaaGreat

namespace Go.Proofs.YtdaklffbfadghaaGreat
open Go.RowKit HP
set_option linter.unusedVariables false
set_option linter.unusedSimpArgs false
/-- the place of the least number among the first k, -1 if k is 0 -/
def lsU (ns : List Int) : Nat → Int
  | 0 => -1
  | k + 1 => if lsU ns k < 0 ∨ ns.getD k 0 < ns.getD (lsU ns k).toNat 0 then (k : Int) else lsU ns k
def lsI (ns : List Int) : Int := lsU ns ns.length
theorem lsU_bd (ns : List Int) : ∀ k, -1 ≤ lsU ns k ∧ lsU ns k < (k : Int) ∧ (0 < k → 0 ≤ lsU ns k)
  | 0 => ⟨Int.le_refl _, by show (-1 : Int) < 0; omega, fun h => by omega⟩
  | k + 1 => by
    obtain ⟨h1, h2, h3⟩ := lsU_bd ns k
    unfold lsU
    split
    · exact ⟨by omega, by omega, fun _ => by omega⟩
    · rename_i h
      exact ⟨h1, by omega, fun _ => by omega⟩
theorem lsU_least (ns : List Int) : ∀ k, 0 < k → k ≤ ns.length → ∃ i : Nat, lsU ns k = (i : Int) ∧ i < k ∧ (∀ j, j < k → ns.getD i 0 ≤ ns.getD j 0) ∧ ∀ j, j < i → ns.getD i 0 < ns.getD j 0
  | 0, h, _ => by omega
  | k + 1, _, hk => by
    unfold lsU
    by_cases h0 : 0 < k
    · obtain ⟨i, e, hi, h1, h2⟩ := lsU_least ns k h0 (by omega)
      rw [e]
      split
      · rename_i h
        have h : ns.getD k 0 < ns.getD i 0 := by
          rcases h with h | h
          · omega
          · simpa using h
        refine ⟨k, rfl, by omega, fun j hj => ?_, fun j hj => ?_⟩
        · by_cases ej : j = k
          · rw [ej]; exact Int.le_refl _
          · have := h1 j (by omega); omega
        · have := h1 j hj
          omega
      · rename_i h
        have h : ¬ ns.getD k 0 < ns.getD i 0 := fun x => h (.inr (by simpa using x))
        refine ⟨i, rfl, by omega, fun j hj => ?_, h2⟩
        by_cases ej : j = k
        · rw [ej]; omega
        · exact h1 j (by omega)
    · obtain rfl : k = 0 := by omega
      rw [if_pos (.inl (by show (-1 : Int) < 0; omega))]
      refine ⟨0, rfl, by omega, fun j hj => ?_, fun j hj => by omega⟩
      obtain rfl : j = 0 := by omega
      exact Int.le_refl _
theorem getD_at {ns : List Int} {j : Nat} {y : Int} (h : ns[j]? = some y) : ns.getD j 0 = y := by rw [List.getD_eq_getElem?_getD, h]; rfl
theorem lsI_at {ns : List Int} {i : Nat} {x : Int} (h : IsLeast ns i x) : lsI ns = (i : Int) := by
  have hi := (List.getElem?_eq_some_iff.1 h.get).1
  obtain ⟨k, e, hk, h1, h2⟩ := lsU_least ns ns.length (by omega) (Nat.le_refl _)
  have hg : ns[k]? = some ns[k] := List.getElem?_eq_getElem hk
  have e1 := getD_at hg
  rw [e1] at h1 h2
  have : i = k := h.uniq (y := ns[k]) ⟨hg, fun j y hj => by
    have := h1 j (List.getElem?_eq_some_iff.1 hj).1
    rw [getD_at hj] at this
    exact this, fun j y hjk hj => by
    have := h2 j hjk
    rw [getD_at hj] at this
    exact this⟩
  rw [this]
  exact e
/-- a map of the document at its place -/
structure RQ (W : World) (nb : Nat) (A : Option Addr) (n c : Nat) (B : Option Addr) (c2 : Nat) (kv : List (Int × Int)) : Prop where
  box : W.heap[nb]? = some (.cells #[.slice A n c, .slice B n c2] 51 (0, 0))
  sk : Sl 1 (encI .i64) W A n c (keysOf kv)
  sv : Sl 1 (encI .i64) W B n c2 (valsOf kv)
section
variable {w W : World} {nb n c c2 : Nat} {A B : Option Addr} {kv : List (Int × Int)}
theorem RQ.q (R : RQ w nb A n c B c2 kv) (hq : Q w W) : RQ W nb A n c B c2 kv := ⟨(hq.below.block _ (blk_lt R.box)).trans R.box, R.sk.up hq, R.sv.up hq⟩
theorem RQ.len (R : RQ w nb A n c B c2 kv) : n = kv.length := by
  have := R.sk.len
  unfold keysOf at this
  rw [List.length_map] at this
  exact this.symm
theorem RQ.k (R : RQ w nb A n c B c2 kv) : w.cell? ⟨nb, 0, none⟩ = some (.slice A n c) ∧ w.cell? ⟨nb, 1, none⟩ = some (.slice B n c2) ∧ nb < w.heap.size ∧ w.frozen? ⟨nb, 0, none⟩ = false ∧ w.frozen? ⟨nb, 1, none⟩ = false := by
  refine ⟨?_, ?_, blk_lt R.box, frozen_of_row _ _ _ _ _ R.box, frozen_of_row _ _ _ _ _ R.box⟩
  all_goals (rw [cell_of_row _ _ _ _ _ _ R.box]; rfl)
set_option maxHeartbeats 4000000 in
set_option maxRecDepth 100000 in
theorem leastR_any (R : RQ w nb A n c B c2 kv) (hn : n ≤ 1000) : Calls Tryz.prog 84 #[.pointer (some ⟨nb, 0, none⟩)] w fun e w' => e = .returned (.int .i64 (lsI (keysOf kv))) ∧ Q w w' := by
  have HR : Hid (∀ W, Q w W → RQ W nb A n c B c2 kv) := fun W hq => R.q hq
  have HL : Hid (n = (keysOf kv).length) := R.sk.len.symm
  have hni : (n : Int) ≤ 1000 := by omega
  obtain ⟨k0, -, hl, -, -⟩ := R.k
  clear R
  go_enter Tryz.func84, Tryz.ntmps84
  go_wp2_with fail
  go_loopw [3, 4] (fun vo vi wr => ∃ (i : Nat) (o : Int), i ≤ n ∧ vi = .int .i64 (i : Int) ∧ vo = .int .i64 o ∧ Q w wr ∧ Hid (o = lsU (keysOf kv) i)) (fun _ vi _ => n - (intOf vi).toNat)
  case atStart => exact ⟨0, -1, by omega, by go_num, by go_num, Q.refl _, rfl⟩
  case round =>
    obtain ⟨i, o, hi, rfl, rfl, hq, HO⟩ := hrel
    obtain ⟨c0, -, hbl, -, -⟩ := (HR.out _ hq).k
    clear k0 hl
    by_cases hlt : i < n
    · have hd1 : decide ((i : Int) < (n : Int)) = true := by simp; omega
      have hd0 : decide (i < n) = true := by simp; omega
      have hlti : (i : Int) < (n : Int) := by omega
      obtain ⟨b1, o1, x, rfl, hb1, g1, k1⟩ := (HR.out _ hq).sk.i1 i hlt
      have HG1 := hide g1
      have HLT := hide hlt
      clear g1
      have hbd := lsU_bd (keysOf kv) i
      rw [← HO.out] at hbd
      by_cases h0 : o < 0
      · have d0 : decide (o < 0) = true := by simpa using h0
        have HS : Hid (lsU (keysOf kv) (i + 1) = (i : Int)) := by
          show lsU (keysOf kv) (i + 1) = (i : Int)
          show (if lsU (keysOf kv) i < 0 ∨ _ then (i : Int) else _) = (i : Int)
          rw [if_pos (.inl (by rw [← HO.out]; exact h0))]
        clear hbd h0
        go_wp2_with fail
        have hxc := ext_cell
        refine wp_region_ext (by kernel_rfl) (by kernel_rfl) ?_
        repeat (go_big_quiet_step ((fail)))
        clear hxc
        refine wpQuiet_nil ?_
        intro wz hwwz
        have hqwz := q_of_ext hwwz
        clear hwwz
        obtain ⟨hcwz, hfwz, hzwz⟩ := hqwz.facts
        try simp at hzwz
        try have hs0wz : w.heap.size < wz.heap.size := by omega
        try have hs1wz : w.heap.size + 1 < wz.heap.size := by omega
        clear hcwz hfwz k1
        go_wp2_with fail
        go_roundw
        case rel => exact ⟨i + 1, i, by omega, by go_num, by go_num, hq.trans hqwz, HS.out.symm⟩
        case measure => simp [intOf] <;> omega
      · obtain ⟨j, rfl⟩ : ∃ j : Nat, o = (j : Int) := ⟨o.toNat, by omega⟩
        have hjn : j < n := by omega
        have hjl : (j : Int) < (n : Int) := by omega
        obtain ⟨b2, o2, y, e2, hb2, g2, k2⟩ := (HR.out _ hq).sk.i1 j hjn
        injection e2 with e2
        injection e2 with e3 e4
        subst e3
        subst e4
        have HG2 := hide g2
        have d0 : decide ((j : Int) < 0) = false := by simp
        clear g2 hbd h0
        cases hxy : decide (x < y) with
        | true =>
          have HS : Hid (lsU (keysOf kv) (i + 1) = (i : Int)) := by
            show (if lsU (keysOf kv) i < 0 ∨ (keysOf kv).getD i 0 < (keysOf kv).getD (lsU (keysOf kv) i).toNat 0 then (i : Int) else _) = (i : Int)
            rw [if_pos (.inr (by rw [← HO.out, Int.toNat_natCast, getD_at HG1.out, getD_at HG2.out]; simpa using hxy))]
          go_wp2_with fail
          have hxc := ext_cell
          refine wp_region_ext (by kernel_rfl) (by kernel_rfl) ?_
          repeat (go_big_quiet_step ((fail)))
          clear hxc
          refine wpQuiet_nil ?_
          intro wz hwwz
          have hqwz := q_of_ext hwwz
          clear hwwz
          obtain ⟨hcwz, hfwz, hzwz⟩ := hqwz.facts
          try simp at hzwz
          try have hs0wz : w.heap.size < wz.heap.size := by omega
          try have hs1wz : w.heap.size + 1 < wz.heap.size := by omega
          clear hcwz hfwz k1 k2
          go_wp2_with fail
          go_roundw
          case rel => exact ⟨i + 1, i, by omega, by go_num, by go_num, hq.trans hqwz, HS.out.symm⟩
          case measure => simp [intOf] <;> omega
        | false =>
          have HS : Hid (lsU (keysOf kv) (i + 1) = (j : Int)) := by
            show (if lsU (keysOf kv) i < 0 ∨ (keysOf kv).getD i 0 < (keysOf kv).getD (lsU (keysOf kv) i).toNat 0 then (i : Int) else lsU (keysOf kv) i) = (j : Int)
            rw [← HO.out, if_neg]
            rintro (h | h)
            · omega
            · rw [Int.toNat_natCast, getD_at HG1.out, getD_at HG2.out] at h
              simp at hxy
              omega
          go_wp2_with fail
          have hxc := ext_cell
          refine wp_region_ext (by kernel_rfl) (by kernel_rfl) ?_
          repeat (go_big_quiet_step ((fail)))
          clear hxc
          refine wpQuiet_nil ?_
          intro wz hwwz
          have hqwz := q_of_ext hwwz
          clear hwwz
          obtain ⟨hcwz, hfwz, hzwz⟩ := hqwz.facts
          try simp at hzwz
          try have hs0wz : w.heap.size < wz.heap.size := by omega
          try have hs1wz : w.heap.size + 1 < wz.heap.size := by omega
          clear hcwz hfwz k1 k2
          go_wp2_with fail
          go_roundw
          case rel => exact ⟨i + 1, j, by omega, by go_num, by go_num, hq.trans hqwz, HS.out.symm⟩
          case measure => simp [intOf] <;> omega
    · have hd1 : decide ((i : Int) < (n : Int)) = false := by simp; omega
      have hd0 : decide (i < n) = false := by simp; omega
      obtain rfl : i = n := by omega
      go_wp2_with fail
      go_ret
      exact ⟨ret_int (by rw [HO.out]; unfold lsI; rw [← HL.out]), hq⟩
set_option maxHeartbeats 4000000 in
set_option maxRecDepth 100000 in
theorem peekR_some (R : RQ w nb A n c B c2 kv) (hn : n ≤ 1000) (j : Nat) (hj : lsI (keysOf kv) = (j : Int)) (hjl : j < n) : Calls Tryz.prog 54 #[.pointer (some ⟨nb, 0, none⟩)] w fun e w' => e = .returned (.tuple #[.int .i64 ((keysOf kv).getD j 0), .int .i64 ((valsOf kv).getD j 0), .bool true]) ∧ Q w w' := by
  have HF : Hid (Calls Tryz.prog 84 #[.pointer (some ⟨nb, 0, none⟩)] w fun e w' => e = .returned (.int .i64 (j : Int)) ∧ Q w w') := by
    have := leastR_any R hn
    rw [hj] at this
    exact this
  obtain ⟨b1, o1, x, rfl, -, g1, -⟩ := R.sk.i1 j hjl
  obtain ⟨b2, o2, y, rfl, -, g2, -⟩ := R.sv.i1 j hjl
  have HR : Hid (∀ W, Q w W → W.cell? ⟨nb, 0, none⟩ = some (.slice (some ⟨b1, o1, none⟩) n c) ∧ W.cell? ⟨nb, 1, none⟩ = some (.slice (some ⟨b2, o2, none⟩) n c2) ∧ nb < W.heap.size ∧ W.cell? ⟨b1, o1 + j, none⟩ = some (.int .i64 x) ∧ b1 < W.heap.size ∧ W.cell? ⟨b2, o2 + j, none⟩ = some (.int .i64 y) ∧ b2 < W.heap.size) := fun W hq => by
    obtain ⟨b3, o3, z, e3, h3, g3, k3⟩ := (R.q hq).sk.i1 j hjl
    obtain ⟨b4, o4, z2, e4, h4, g4, k4⟩ := (R.q hq).sv.i1 j hjl
    injection e3 with e3
    injection e3 with e5 e6
    injection e4 with e4
    injection e4 with e7 e8
    subst e5 e6 e7 e8
    rw [g1] at g3
    rw [g2] at g4
    obtain rfl := Option.some.inj g3
    obtain rfl := Option.some.inj g4
    exact ⟨(R.q hq).k.1, (R.q hq).k.2.1, (R.q hq).k.2.2.1, k3, h3, k4, h4⟩
  rw [getD_at g1, getD_at g2]
  have d0 : decide ((j : Int) < 0) = false := by simp
  have hli : (j : Int) < (n : Int) := by omega
  clear R g1 g2 hj
  go_enter Tryz.func54, Tryz.ntmps54
  go_wp2_with (go_at_call 84; refine HF.out.mono ?_; rintro e w1 ⟨rfl, hq1⟩; obtain ⟨c0, c1, hbl, k1, hb1, k2, hb2⟩ := HR.out _ hq1)
  have hxc := ext_cell
  refine wp_region_ext (by kernel_rfl) (by kernel_rfl) ?_
  repeat (go_big_quiet_step ((fail)))
  clear hxc
  refine wpQuiet_nil ?_
  intro wz hwwz
  have hqwz := q_of_ext hwwz
  clear hwwz
  obtain ⟨hcwz, hfwz, hzwz⟩ := hqwz.facts
  try simp at hzwz
  try have hs0wz : w.heap.size < wz.heap.size := by omega
  try have hs1wz : w.heap.size + 1 < wz.heap.size := by omega
  clear hcwz hfwz
  go_wp2_with fail
  refine bodyPost_ret (results_tmp3 rfl _ _) rfl ?_
  exact ⟨rfl, hq1.trans hqwz⟩
set_option maxHeartbeats 4000000 in
set_option maxRecDepth 100000 in
theorem peekR_none (R : RQ w nb A n c B c2 kv) (hn : n = 0) : Calls Tryz.prog 54 #[.pointer (some ⟨nb, 0, none⟩)] w fun e w' => e = .returned (.tuple #[.int .i64 0, .int .i64 0, .bool false]) ∧ Q w w' := by
  have HF : Hid (Calls Tryz.prog 84 #[.pointer (some ⟨nb, 0, none⟩)] w fun e w' => e = .returned (.int .i64 (-1)) ∧ Q w w') := by
    have := leastR_any R (by omega)
    have e : lsI (keysOf kv) = -1 := by
      have h := R.sk.len
      unfold lsI
      rw [h, hn]
      rfl
    rw [e] at this
    exact this
  clear R hn
  go_enter Tryz.func54, Tryz.ntmps54
  go_wp2_with (go_at_call 84; refine HF.out.mono ?_; rintro e w1 ⟨rfl, hq1⟩)
  refine bodyPost_ret (results_tmp3 rfl _ _) rfl ?_
  exact ⟨rfl, hq1⟩
end
/-- a map of the document at its place, whose rows are its own -/
structure OQ (W : World) (B nb : Nat) (vk vv : Value) (ks vs : List Int) : Prop where
  box : W.heap[nb]? = some (.cells #[vk, vv] 51 (0, 0))
  ok : W.ownsRow B 3 1 vk ks.length (intsV ks)
  ov : W.ownsRow B 3 1 vv vs.length (intsV vs)
  ap : ∀ g, vk.ownBlock = some g → vv.ownBlock ≠ some g
/-- what has become of it -/
def OQok (w : World) (B nb : Nat) (vk vv : Value) (ks vs : List Int) (W : World) : Prop := ∃ vk2 vv2, OQ W B nb vk2 vv2 ks vs ∧ Turn (OMt nb vk vv) w W ∧ ∀ b, OMt nb vk2 vv2 b → OMt nb vk vv b ∨ w.heap.size ≤ b
theorem boxQ_ne {w : World} {b B : Nat} {cs : Array Value} {f : Nat × Nat} {v : Value} {n : Nat} {xs : List Value} (hb : w.heap[b]? = some (.cells cs 51 f)) (h : w.ownsRow B 3 1 v n xs) : v.ownBlock ≠ some b := fun e => by
  obtain ⟨c2, h2⟩ := own_blk h e
  rw [hb] at h2
  injection h2 with h2
  injection h2 with _ h3 _
  exact absurd h3 (by decide)
section
variable {w W : World} {B nb : Nat} {vk vv v2 : Value} {ks vs : List Int} {kv : List (Int × Int)}
theorem OQ.q (X : OQ w B nb vk vv ks vs) (hq : Q w W) : OQ W B nb vk vv ks vs := ⟨(hq.below.block _ (blk_lt X.box)).trans X.box, own_q X.ok hq, own_q X.ov hq, X.ap⟩
theorem OQ.lt (X : OQ w B nb vk vv ks vs) : ∀ b, OMt nb vk vv b → b < w.heap.size := fun b e => by
  rcases e with rfl | e | e
  · exact blk_lt X.box
  · exact (X.ok.lt b e).2
  · exact (X.ov.lt b e).2
theorem OQ.same (X : OQ w B nb vk vv ks vs) (h : ∀ b, OMt nb vk vv b → W.heap[b]? = w.heap[b]?) : OQ W B nb vk vv ks vs :=
  ⟨(h _ (.inl rfl)).trans X.box, own_same X.ok fun g hg => h g (.inr (.inl hg)), own_same X.ov fun g hg => h g (.inr (.inr hg)), X.ap⟩
theorem OQ.rq (X : OQ w B nb vk vv (keysOf kv) (valsOf kv)) : ∃ A c A2 c2, vk = .slice A kv.length c ∧ vv = .slice A2 kv.length c2 ∧ RQ w nb A kv.length c A2 c2 kv := by
  have lk : (keysOf kv).length = kv.length := by unfold keysOf; rw [List.length_map]
  have lv : (valsOf kv).length = kv.length := by unfold valsOf; rw [List.length_map]
  obtain ⟨A, c, e1, -⟩ := own_form X.ok
  obtain ⟨A2, c2, e2, -⟩ := own_form X.ov
  subst e1
  subst e2
  refine ⟨A, c, A2, c2, by rw [lk], by rw [lv], ?_, ?_, ?_⟩
  · have := X.box
    rw [lk, lv] at this
    exact this
  · have := own_sl rfl X.ok
    rw [lk] at this
    exact this
  · have := own_sl rfl X.ov
    rw [lv] at this
    exact this
theorem OQ.k (X : OQ w B nb vk vv ks vs) : w.cell? ⟨nb, 0, none⟩ = some vk ∧ w.cell? ⟨nb, 1, none⟩ = some vv ∧ nb < w.heap.size ∧ w.frozen? ⟨nb, 0, none⟩ = false ∧ w.frozen? ⟨nb, 1, none⟩ = false := by
  refine ⟨?_, ?_, blk_lt X.box, frozen_of_row _ _ _ _ _ X.box, frozen_of_row _ _ _ _ _ X.box⟩
  all_goals (rw [cell_of_row _ _ _ _ _ _ X.box]; rfl)
theorem OQ.kg (X : OQ w B nb vk vv ks vs) {row : Option Nat} (hg : w.grownBy W row) (hr : ∀ g, row = some g → vk.ownBlock = some g ∨ vv.ownBlock = some g) : W.cell? ⟨nb, 0, none⟩ = some vk ∧ W.cell? ⟨nb, 1, none⟩ = some vv ∧ nb < W.heap.size ∧ W.frozen? ⟨nb, 0, none⟩ = false ∧ W.frozen? ⟨nb, 1, none⟩ = false := by
  have hb : W.heap[nb]? = some (.cells #[vk, vv] 51 (0, 0)) := (hg.block _ (blk_lt X.box) fun e => (hr _ e.symm).elim (boxQ_ne X.box X.ok) (boxQ_ne X.box X.ov)).trans X.box
  refine ⟨?_, ?_, blk_lt hb, frozen_of_row _ _ _ _ _ hb, frozen_of_row _ _ _ _ _ hb⟩
  all_goals (rw [cell_of_row _ _ _ _ _ _ hb]; rfl)
/-- another row of keys is laid into the box -/
theorem OQ.layK (X : OQ w B nb vk vv ks vs) {row : Option Nat} (hg : w.grownBy W row) (hr : ∀ g, row = some g → vk.ownBlock = some g) {ys : List Int} (ho : W.ownsRow B 3 1 v2 ys.length (intsV ys)) (hn : ∀ b, v2.ownBlock = some b → vk.ownBlock = some b ∨ w.heap.size ≤ b) :
    OQ (W.setCell ⟨nb, 0, none⟩ v2) B nb v2 vv ys vs ∧ Turn (OMt nb vk vv) w (W.setCell ⟨nb, 0, none⟩ v2) ∧ ∀ b, OMt nb v2 vv b → OMt nb vk vv b ∨ w.heap.size ≤ b := by
  have hl := blk_lt X.box
  have n1 := boxQ_ne X.box X.ok
  have n2 := boxQ_ne X.box X.ov
  have hb : W.heap[nb]? = some (.cells #[vk, vv] 51 (0, 0)) := (hg.block _ hl fun e => n1 (hr _ e.symm)).trans X.box
  have n3 := boxQ_ne hb ho
  refine ⟨⟨?_, own_same ho fun g hg2 => heap_setCell_other _ _ _ _ fun e => n3 (hg2.trans (congrArg some e)), own_same X.ov fun g hg2 => (heap_setCell_other _ _ _ _ fun e => n2 (hg2.trans (congrArg some e))).trans (hg.block _ (X.ov.lt g hg2).2 fun e => X.ap g (hr _ e.symm) hg2), fun g hg2 h2 => ?_⟩, ?_, fun b e => ?_⟩
  · have := heap_setCell_same W nb 0 _ _ v2 hb
    rw [this]
    rfl
  · rcases hn g hg2 with e | e
    · exact X.ap g e h2
    · have := (X.ov.lt g h2).2
      omega
  · exact ((Turn.refl (OMt nb vk vv) w).grown hg fun k hk _ => .inr (.inl (hr k hk))).set (p := ⟨nb, 0, none⟩) (.inl rfl) _
  · rcases e with e | e | e
    · exact .inl (.inl e)
    · rcases hn b e with e | e
      · exact .inl (.inr (.inl e))
      · exact .inr e
    · exact .inl (.inr (.inr e))
/-- another row of values -/
theorem OQ.layV (X : OQ w B nb vk vv ks vs) {row : Option Nat} (hg : w.grownBy W row) (hr : ∀ g, row = some g → vv.ownBlock = some g) {ys : List Int} (ho : W.ownsRow B 3 1 v2 ys.length (intsV ys)) (hn : ∀ b, v2.ownBlock = some b → vv.ownBlock = some b ∨ w.heap.size ≤ b) :
    OQ (W.setCell ⟨nb, 1, none⟩ v2) B nb vk v2 ks ys ∧ Turn (OMt nb vk vv) w (W.setCell ⟨nb, 1, none⟩ v2) ∧ ∀ b, OMt nb vk v2 b → OMt nb vk vv b ∨ w.heap.size ≤ b := by
  have hl := blk_lt X.box
  have n1 := boxQ_ne X.box X.ok
  have n2 := boxQ_ne X.box X.ov
  have hb : W.heap[nb]? = some (.cells #[vk, vv] 51 (0, 0)) := (hg.block _ hl fun e => n2 (hr _ e.symm)).trans X.box
  have n3 := boxQ_ne hb ho
  refine ⟨⟨?_, own_same X.ok fun g hg2 => (heap_setCell_other _ _ _ _ fun e => n1 (hg2.trans (congrArg some e))).trans (hg.block _ (X.ok.lt g hg2).2 fun e => X.ap g hg2 (hr _ e.symm)), own_same ho fun g hg2 => heap_setCell_other _ _ _ _ fun e => n3 (hg2.trans (congrArg some e)), fun g hg2 h2 => ?_⟩, ?_, fun b e => ?_⟩
  · have := heap_setCell_same W nb 1 _ _ v2 hb
    rw [this]
    rfl
  · rcases hn g h2 with e | e
    · exact X.ap g hg2 e
    · have := (X.ok.lt g hg2).2
      omega
  · exact ((Turn.refl (OMt nb vk vv) w).grown hg fun k hk _ => .inr (.inr (hr k hk))).set (p := ⟨nb, 1, none⟩) (.inl rfl) _
  · rcases e with e | e | e
    · exact .inl (.inl e)
    · exact .inl (.inr (.inl e))
    · rcases hn b e with e | e
      · exact .inl (.inr (.inr e))
      · exact .inr e
theorem OQok.step {vk2 vv2 : Value} {ks2 vs2 : List Int} {W2 : World} (t : Turn (OMt nb vk vv) w W) (h : ∀ b, OMt nb vk2 vv2 b → OMt nb vk vv b ∨ w.heap.size ≤ b) (k : OQok W B nb vk2 vv2 ks2 vs2 W2) : OQok w B nb vk vv ks2 vs2 W2 := by
  obtain ⟨v5, v6, X, t2, h2⟩ := k
  have hsz := t.size
  refine ⟨v5, v6, X, t.trans t2 fun i hi e => (h i e).elim id fun e => absurd hi (by omega), fun b e => ?_⟩
  rcases h2 b e with e | e
  · exact h b e
  · exact .inr (by omega)
theorem OQok.refl (X : OQ w B nb vk vv ks vs) (hq : Q w W) : OQok w B nb vk vv ks vs W := ⟨vk, vv, X.q hq, .of_q hq, fun b e => .inl e⟩
set_option maxHeartbeats 4000000 in
set_option maxRecDepth 100000 in
theorem pushR_bad (X : OQ w B nb vk vv (keysOf kv) (valsOf kv)) (k v : Int) (hf : fits2 (k, v) = false) : Calls Tryz.prog 26 #[.pointer (some ⟨nb, 0, none⟩), .int .i64 k, .int .i64 v] w fun e w' => e = .returned (.int .i64 1) ∧ Q w w' := by
  have HFT : Hid (∀ v W, Calls Tryz.prog 68 #[.int .i64 v] W fun e w' => e = .returned (.bool (fitsB v)) ∧ Q W w') := fun v W => fits_any v W
  have hf2 : fitsB k = false ∨ (fitsB k = true ∧ fitsB v = false) := by
    unfold fits2 at hf
    cases h1 : fitsB k
    · exact .inl rfl
    · rw [h1] at hf
      exact .inr ⟨rfl, hf⟩
  clear X hf
  rcases hf2 with h1 | ⟨h1, h2⟩
  · go_enter Tryz.func26, Tryz.ntmps26
    go_wp2_with (go_at_call 68; refine (HFT.out _ _).mono ?_; rintro e w1 ⟨rfl, hq1⟩)
    go_ret
    exact ⟨rfl, hq1⟩
  · have HK : Hid (∀ W, Calls Tryz.prog 68 #[.int .i64 k] W fun e w' => e = .returned (.bool true) ∧ Q W w') := fun W => by have := HFT.out k W; rw [h1] at this; exact this
    have HV : Hid (∀ W, Calls Tryz.prog 68 #[.int .i64 v] W fun e w' => e = .returned (.bool false) ∧ Q W w') := fun W => by have := HFT.out v W; rw [h2] at this; exact this
    clear h1 h2 HFT
    have tok1 : True := trivial
    go_enter Tryz.func26, Tryz.ntmps26
    go_wp2_with (first
      | (go_at_call 68; have _t := tok1; refine (HK.out _).mono ?_; rintro e w1 ⟨rfl, hq1⟩; clear tok1; have tok2 : True := trivial)
      | (go_at_call 68; have _t := tok2; refine (HV.out _).mono ?_; rintro e w2 ⟨rfl, hq2⟩; clear tok2))
    go_ret
    exact ⟨rfl, hq1.trans hq2⟩
set_option maxHeartbeats 4000000 in
set_option maxRecDepth 100000 in
theorem pushR_full (X : OQ w B nb vk vv (keysOf kv) (valsOf kv)) (hn : kv.length ≤ 1000) (k v : Int) (hf : fits2 (k, v) = true) (hl : 64 ≤ kv.length) : Calls Tryz.prog 26 #[.pointer (some ⟨nb, 0, none⟩), .int .i64 k, .int .i64 v] w fun e w' => e = .returned (.int .i64 3) ∧ Q w w' := by
  unfold fits2 at hf
  rw [Bool.and_eq_true] at hf
  have HK : Hid (∀ W, Calls Tryz.prog 68 #[.int .i64 k] W fun e w' => e = .returned (.bool true) ∧ Q W w') := fun W => by have := fits_any k W; rw [hf.1] at this; exact this
  have HV : Hid (∀ W, Calls Tryz.prog 68 #[.int .i64 v] W fun e w' => e = .returned (.bool true) ∧ Q W w') := fun W => by have := fits_any v W; rw [hf.2] at this; exact this
  obtain ⟨A, c, A2, c2, rfl, rfl, R⟩ := X.rq
  have HKK : Hid (∀ W, Q w W → W.cell? ⟨nb, 0, none⟩ = some (.slice A kv.length c) ∧ nb < W.heap.size) := fun W hq => ⟨(R.q hq).k.1, (R.q hq).k.2.2.1⟩
  obtain ⟨n, en⟩ : ∃ n, n = kv.length := ⟨_, rfl⟩
  rw [← en] at hn hl HKK
  have d1 : decide ((64 : Int) ≤ (n : Int)) = true := by simp; omega
  clear X R hf en hl
  have tok1 : True := trivial
  go_enter Tryz.func26, Tryz.ntmps26
  go_wp2_with (first
    | (go_at_call 68; have _t := tok1; refine (HK.out _).mono ?_; rintro e w1 ⟨rfl, hq1⟩; clear tok1; have tok2 : True := trivial)
    | (go_at_call 68; have _t := tok2; refine (HV.out _).mono ?_; rintro e w2 ⟨rfl, hq2⟩; clear tok2; have hq13 := hq1.trans hq2; obtain ⟨c0, hbl⟩ := HKK.out _ hq13))
  go_ret
  exact ⟨rfl, hq13⟩
set_option maxHeartbeats 4000000 in
set_option maxRecDepth 100000 in
theorem pushR_new (X : OQ w B nb vk vv (keysOf kv) (valsOf kv)) (hB : B ≤ w.heap.size) (k v : Int) (hf : fits2 (k, v) = true) (hl : kv.length < 64) : Calls Tryz.prog 26 #[.pointer (some ⟨nb, 0, none⟩), .int .i64 k, .int .i64 v] w fun e w' => e = .returned (.int .i64 0) ∧ OQok w B nb vk vv (keysOf kv ++ [k]) (valsOf kv ++ [v]) w' := by
  unfold fits2 at hf
  rw [Bool.and_eq_true] at hf
  have HK : Hid (∀ W, Calls Tryz.prog 68 #[.int .i64 k] W fun e w' => e = .returned (.bool true) ∧ Q W w') := fun W => by have := fits_any k W; rw [hf.1] at this; exact this
  have HV : Hid (∀ W, Calls Tryz.prog 68 #[.int .i64 v] W fun e w' => e = .returned (.bool true) ∧ Q W w') := fun W => by have := fits_any v W; rw [hf.2] at this; exact this
  obtain ⟨A, c, A2, c2, e1, e2, R⟩ := X.rq
  have HX : Hid (∀ W, Q w W → OQ W B nb vk vv (keysOf kv) (valsOf kv)) := fun W hq => X.q hq
  have lk : (keysOf kv).length = kv.length := by unfold keysOf; rw [List.length_map]
  have lv : (valsOf kv).length = kv.length := by unfold valsOf; rw [List.length_map]
  obtain ⟨ks, eks⟩ : ∃ ks, ks = keysOf kv := ⟨_, rfl⟩
  obtain ⟨vs, evs⟩ : ∃ vs, vs = valsOf kv := ⟨_, rfl⟩
  rw [← eks] at HX lk
  rw [← evs] at HX lv
  rw [← eks, ← evs]
  have HAK : Hid (intsV ks ++ [.int .i64 k] = intsV (ks ++ [k])) := by show _ = _; unfold intsV; rw [List.map_append]; rfl
  have HAV : Hid (intsV vs ++ [.int .i64 v] = intsV (vs ++ [v])) := by show _ = _; unfold intsV; rw [List.map_append]; rfl
  obtain ⟨n, en⟩ : ∃ n, n = kv.length := ⟨_, rfl⟩
  rw [← en] at lk lv hl
  rw [← en] at e1 e2
  subst e1
  subst e2
  have HLK := hide lk
  have HLV := hide lv
  have d1 : decide ((64 : Int) ≤ (n : Int)) = false := by simp; omega
  have hni : (n : Int) < 64 := by omega
  clear X R hf en eks evs lk lv
  have tok1 : True := trivial
  go_enter Tryz.func26, Tryz.ntmps26
  go_wp2_with (first
    | (go_at_call 68; have _t := tok1; refine (HK.out _).mono ?_; rintro e w1 ⟨rfl, hq1⟩; clear tok1; have tok2 : True := trivial)
    | (go_at_call 68; have _t := tok2; refine (HV.out _).mono ?_; rintro e w2 ⟨rfl, hq2⟩; clear tok2; have hq13 := hq1.trans hq2; have HX3 := hide (HX.out _ hq13); have HQ13 := hide hq13; obtain ⟨c0, c1, hbl, f0, f1⟩ := HX3.out.k; have hok := HX3.out.ok; rw [HLK.out] at hok; clear hq1 hq2; have tok3 : True := trivial)
    | (at_builtin; have _t := tok3; go_loud (refine wpList_app1b rfl El_int _ _ rfl rfl hok rfl rfl rfl ?_ ?_ ?_ ?_; (focus (simp [Value.oneCell'])); (focus omega); (focus (exact Nat.le_trans hB hq13.size)); intro v4 w4 hown4 hg4 hn4; have HG4 := hide hg4; obtain ⟨c04, c14, hbl4, f04, f14⟩ := HX3.out.kg hg4 (fun g h => .inl h); have ho5 : w4.ownsRow B 3 1 v4 (ks ++ [k]).length (intsV (ks ++ [k])) := (by rw [List.length_append, HLK.out, ← HAK.out]; exact hown4); have HX5 := hide (HX3.out.layK hg4 (fun g h => h) ho5 hn4); obtain ⟨A4, c4, e4, -⟩ := own_form hown4; subst e4; have hov := HX5.out.1.ov; rw [HLV.out] at hov; clear hown4 hg4 hn4 ho5 tok3 hok c0 c1 hbl f0 f1; have tok4 : True := trivial))
    | (at_builtin; have _t := tok4; go_loud (refine wpList_app1b rfl El_int _ _ rfl rfl hov (by simp [World.setCell]) rfl rfl ?_ ?_ ?_ ?_; (focus (simp [Value.oneCell'])); (focus omega); (focus (have h1 := HX5.out.2.1.size; have h2 := HQ13.out.size; omega)); intro v6 w6 hown6 hg6 hn6; obtain ⟨c06, c16, hbl6, f06, f16⟩ := HX5.out.1.kg hg6 (fun g h => .inr h); have ho7 : w6.ownsRow B 3 1 v6 (vs ++ [v]).length (intsV (vs ++ [v])) := (by rw [List.length_append, HLV.out, ← HAV.out]; exact hown6); have HX7 := hide (HX5.out.1.layV hg6 (fun g h => h) ho7 hn6); obtain ⟨A6, c6, e6, -⟩ := own_form hown6; subst e6; clear hown6 hg6 hn6 ho7 tok4 hov c04 c14 hbl4 f04 f14)))
  go_ret
  refine ⟨rfl, ?_⟩
  exact OQok.step (.of_q HQ13.out) (fun b e => .inl e) (OQok.step HX5.out.2.1 HX5.out.2.2 ⟨_, _, HX7.out.1, HX7.out.2.1, HX7.out.2.2⟩)
set_option maxHeartbeats 4000000 in
set_option maxRecDepth 100000 in
theorem popR_none (X : OQ w B nb vk vv (keysOf kv) (valsOf kv)) (hn : kv.length = 0) : Calls Tryz.prog 28 #[.pointer (some ⟨nb, 0, none⟩)] w fun e w' => e = .returned (.tuple #[.int .i64 0, .int .i64 0, .bool false]) ∧ Q w w' := by
  obtain ⟨A, c, A2, c2, rfl, rfl, R⟩ := X.rq
  have HG : Hid (Calls Tryz.prog 54 #[.pointer (some ⟨nb, 0, none⟩)] w fun e w' => e = .returned (.tuple #[.int .i64 0, .int .i64 0, .bool false]) ∧ Q w w') := peekR_none R hn
  clear X R
  go_enter Tryz.func28, Tryz.ntmps28
  go_wp2_with fail
  refine HG.out.mono ?_
  rintro e w1 ⟨rfl, hq1⟩
  go_wp2_with fail
  refine bodyPost_ret (results_tmp3 rfl _ _) rfl ?_
  exact ⟨rfl, hq1⟩
set_option maxHeartbeats 4000000 in
set_option maxRecDepth 100000 in
theorem popR_some (X : OQ w B nb vk vv (keysOf kv) (valsOf kv)) (hBB : B ≤ w.heap.size) (hn : kv.length ≤ 1000) (j : Nat) (hj : lsI (keysOf kv) = (j : Int)) (hjl : j < kv.length) : Calls Tryz.prog 28 #[.pointer (some ⟨nb, 0, none⟩)] w fun e w' => e = .returned (.tuple #[.int .i64 ((keysOf kv).getD j 0), .int .i64 ((valsOf kv).getD j 0), .bool true]) ∧ OQok w B nb vk vv (delAt (keysOf kv) j 1) (delAt (valsOf kv) j 1) w' := by
  have X0 := X
  obtain ⟨A, c, A2, c2, rfl, rfl, R⟩ := X0.rq
  have HGT : Hid (Calls Tryz.prog 54 #[.pointer (some ⟨nb, 0, none⟩)] w fun e w' => e = .returned (.tuple #[.int .i64 ((keysOf kv).getD j 0), .int .i64 ((valsOf kv).getD j 0), .bool true]) ∧ Q w w') := by
    have := peekR_some R hn j hj hjl
    exact this
  have HFN : Hid (∀ W, Q w W → Calls Tryz.prog 84 #[.pointer (some ⟨nb, 0, none⟩)] W fun e w' => e = .returned (.int .i64 (j : Int)) ∧ Q W w') := fun W hq => by rw [← hj]; exact leastR_any (R.q hq) hn
  have lk : (keysOf kv).length = kv.length := by unfold keysOf; rw [List.length_map]
  have lv : (valsOf kv).length = kv.length := by unfold valsOf; rw [List.length_map]
  obtain ⟨b1, o1, x1, eA, -, -, -⟩ := R.sk.i1 j hjl
  obtain ⟨b2, o2, x2, eA2, -, -, -⟩ := R.sv.i1 j hjl
  have z1 : o1 = 0 := by
    have := X.ok.2
    rw [eA] at this
    rcases this with ⟨h0, -⟩ | ⟨g, cap, cur, h0, -⟩
    · cases h0
    · injection h0 with h0
      injection h0 with h0
      injection h0
  have z2 : o2 = 0 := by
    have := X.ov.2
    rw [eA2] at this
    rcases this with ⟨h0, -⟩ | ⟨g, cap, cur, h0, -⟩
    · cases h0
    · injection h0 with h0
      injection h0 with h0
      injection h0
  subst z1
  subst z2
  subst eA
  subst eA2
  have hck := R.sk.cap
  have hcv := R.sv.cap
  obtain ⟨len, el⟩ : ∃ len, len = kv.length := ⟨_, rfl⟩
  obtain ⟨ks, eks⟩ : ∃ ks, ks = keysOf kv := ⟨_, rfl⟩
  obtain ⟨vs, evs⟩ : ∃ vs, vs = valsOf kv := ⟨_, rfl⟩
  rw [← eks, ← evs] at X
  rw [← eks, ← evs] at HGT
  rw [← eks, ← evs]
  rw [← eks, ← el] at lk
  rw [← evs, ← el] at lv
  rw [← el] at X hn hjl
  rw [← el]
  obtain ⟨vx, evx⟩ : ∃ vx, vx = vs.getD j 0 := ⟨_, rfl⟩
  obtain ⟨kx, ekx⟩ : ∃ kx, kx = ks.getD j 0 := ⟨_, rfl⟩
  rw [← evx, ← ekx] at HGT
  rw [← evx, ← ekx]
  have hcv : len ≤ c2 := by have := (own_form X.ov); obtain ⟨a1, a2, a3, a4, -⟩ := this; injection a3 with a5 a6 a7; omega
  have hck : len ≤ c := by have := (own_form X.ok); obtain ⟨a1, a2, a3, a4, -⟩ := this; injection a3 with a5 a6 a7; omega
  have hli : (len : Int) ≤ 1000 := by omega
  have hjlt : (j : Int) < (len : Int) := by omega
  have HX := hide X
  have HLK : Hid ((delAt ks j 1).length = len - 1) := by show (delAt ks j 1).length = len - 1; rw [delAt_len _ _ _ (by omega), lk]
  have HLV : Hid ((delAt vs j 1).length = len - 1) := by show (delAt vs j 1).length = len - 1; rw [delAt_len _ _ _ (by omega), lv]
  have hlenK : (intsV ks).length = len := by unfold intsV; rw [List.length_map, lk]
  have hlenV : (intsV vs).length = len := by unfold intsV; rw [List.length_map, lv]
  have HLV0 := hide lv
  have HLK0 := hide lk
  clear R X X0 hj el eks evs evx ekx lk lv
  go_enter Tryz.func28, Tryz.ntmps28
  go_wp2_with (first
    | (go_at_call 54; refine HGT.out.mono ?_; rintro e w1 ⟨rfl, hq1⟩)
    | (go_at_call 84; refine (HFN.out _ hq1).mono ?_; rintro e w2 ⟨rfl, hq2⟩; have HQ2 := hide (hq1.trans hq2); clear hq1 hq2))
  have X2 := HX.out.q HQ2.out
  have HX2 := hide X2
  have ok2 := X2.ok
  have ov2 := X2.ov
  rw [HLK0.out] at ok2
  have HKKK : Hid (∀ W, Q w2 W → W.cell? ⟨nb, 0, none⟩ = some (.slice (some ⟨b1, 0, none⟩) len c) ∧ W.frozen? ⟨nb, 0, none⟩ = false ∧ nb < W.heap.size) := fun W hq => ⟨(X2.q hq).k.1, (X2.q hq).k.2.2.2.1, (X2.q hq).k.2.2.1⟩
  clear X2
  have HRDK : Hid (∀ W, Q w2 W → Rd W W.heap.size (some ⟨b1, 0, none⟩) ((intsV ks).take j)) := fun W hq => (own_rd (own_q ok2 hq)).take j
  have HRD2K : Hid (∀ W, Q w2 W → Rd W W.heap.size (some (if c = j + 1 then ⟨b1, 0, none⟩ else ⟨b1, j + 1, none⟩)) ((intsV ks).drop (j + 1))) := fun W hq => by
    split
    · have h0 : (intsV ks).drop (j + 1) = [] := List.eq_nil_of_length_eq_zero (by rw [List.length_drop, hlenK]; omega)
      rw [h0]
      exact Rd.nil _ _ _
    · have := (own_rd (own_q ok2 hq)).dropAt (j + 1)
      simpa using this
  have HEK : Hid ((intsV ks).take j ++ (intsV ks).drop (j + 1) = intsV (delAt ks j 1)) := by
    unfold intsV delAt
    rw [List.map_append, List.map_take, List.map_drop]
    exact rfl
  have HT1K : Hid (((intsV ks).take j).length = j * 1) := by show ((intsV ks).take j).length = j * 1; rw [List.length_take]; omega
  have HT2K : Hid (((intsV ks).drop (j + 1)).length = (len - (j + 1)) * 1) := by show ((intsV ks).drop (j + 1)).length = _; rw [List.length_drop]; omega
  have HC1K : Hid (∀ u ∈ (intsV ks).take j, u.oneCell' = true) := fun u hu => intsV_cell ks u (List.mem_of_mem_take hu)
  have HC2K : Hid (∀ u ∈ (intsV ks).drop (j + 1), u.oneCell' = true) := fun u hu => intsV_cell ks u (List.mem_of_mem_drop hu)
  clear ok2 ov2
  refine Ri.called_last 16 [0, 17, 18] (Ri.phi [Ri.isV (.pointer (some ⟨nb, 0, none⟩)), isLit w2.heap.size, Ri.isV (.pointer (some ⟨nb, 0, none⟩)), Ri.isV (.pointer (some ⟨nb, 0, none⟩)), Ri.isV (.pointer (some ⟨nb, 0, none⟩)), Ri.isV (.slice (some ⟨b1, 0, none⟩) len c), Ri.isV (.int .i64 (j : Int)), Ri.isV (.slice (some ⟨b1, 0, none⟩) j c), isOwnI w2.heap.size j ((intsV ks).take j), Ri.isV (.pointer (some ⟨nb, 0, none⟩)), Ri.isV (.pointer (some ⟨nb, 0, none⟩)), Ri.isV (.pointer (some ⟨nb, 0, none⟩)), Ri.isV (.slice (some ⟨b1, 0, none⟩) len c), Ri.isV (.int .i64 (j : Int)), Ri.isV (.int .i64 ((j : Int) + 1)), Ri.isV (.slice (some (if c = j + 1 then ⟨b1, 0, none⟩ else ⟨b1, j + 1, none⟩)) (len - (j + 1)) (c - (j + 1))), fun _ _ => True, Ri.isV (.pointer (some ⟨nb, 0, none⟩)), Ri.isV (.pointer (some ⟨nb, 0, none⟩))]) (fun v W => W.ownsRow w2.heap.size 3 1 v (len - 1) (intsV (delAt ks j 1)) ∧ Q w2 W) (by kernel_rfl) (by kernel_rfl) rfl (by kernel_rfl) rfl (by decide) (by kernel_rfl) (Ri.phi_mono ?_) ?_ ?_ ?_
  · exact ⟨Ri.mono_isV _, mono_lit _, Ri.mono_isV _, Ri.mono_isV _, Ri.mono_isV _, Ri.mono_isV _, Ri.mono_isV _, Ri.mono_isV _, mono_ownI _ _ _, Ri.mono_isV _, Ri.mono_isV _, Ri.mono_isV _, Ri.mono_isV _, Ri.mono_isV _, Ri.mono_isV _, Ri.mono_isV _, fun _ _ _ h _ => h, Ri.mono_isV _, Ri.mono_isV _, trivial⟩
  · intro i v w1 w2 hk hv
    match i, hk, hv with
    | 0, _, hv => exact hv
    | 1, hk, _ => exact absurd hk (by decide)
    | 2, hk, _ => exact absurd hk (by decide)
    | 3, hk, _ => exact absurd hk (by decide)
    | 4, hk, _ => exact absurd hk (by decide)
    | 5, hk, _ => exact absurd hk (by decide)
    | 6, hk, _ => exact absurd hk (by decide)
    | 7, hk, _ => exact absurd hk (by decide)
    | 8, hk, _ => exact absurd hk (by decide)
    | 9, hk, _ => exact absurd hk (by decide)
    | 10, hk, _ => exact absurd hk (by decide)
    | 11, hk, _ => exact absurd hk (by decide)
    | 12, hk, _ => exact absurd hk (by decide)
    | 13, hk, _ => exact absurd hk (by decide)
    | 14, hk, _ => exact absurd hk (by decide)
    | 15, hk, _ => exact absurd hk (by decide)
    | 16, hk, _ => exact absurd hk (by decide)
    | 17, _, hv => exact hv
    | 18, _, hv => exact hv
    | i + 19, hk, _ => exact absurd hk (by unfold Ri.kindOf; rw [if_neg (by omega), if_neg (by first | (simp; done) | (simp; omega))]; decide)
  · refine Ri.All.cons ?_ (Ri.All.cons ?_ (Ri.All.cons ?_ (Ri.All.cons ?_ (Ri.All.cons ?_ (Ri.All.cons ?_ (Ri.All.cons ?_ (Ri.All.cons ?_ (Ri.All.cons ?_ (Ri.All.cons ?_ (Ri.All.cons ?_ (Ri.All.cons ?_ (Ri.All.cons ?_ (Ri.All.cons ?_ (Ri.All.cons ?_ (Ri.All.cons ?_ (Ri.All.cons ?_ (Ri.All.cons ?_ (Ri.All.cons ?_ (Ri.All.nil)))))))))))))))))))
    · refine Ri.StepK.p (by decide) ⟨rfl, fun f W hf A hA hB => ?_⟩
      have e1 := (hB 0 (by kernel_rfl)).trans (show _ = .pointer (some ⟨nb, 0, none⟩) by simp [Act.eval])
      exact Ri.wp_pure _ (Ri.run_mv rfl e1) rfl
    · refine Ri.StepK.g (by decide) ⟨rfl, fun f W hq hf A hA hB hO => ?_⟩
      exact Ri.wp_lit0 El_int rfl ⟨_, rfl, own_lit0 W _ _ _ _ rfl ((Q.refl w2).drew.trans hq).size⟩
    · refine Ri.StepK.g (by decide) ⟨rfl, fun f W hq hf A hA hB hO => ?_⟩
      have e1 := (hB 0 (by kernel_rfl)).trans (show _ = .pointer (some ⟨nb, 0, none⟩) by simp [Act.eval])
      exact Ri.wp_value _ (Ri.run_mv rfl e1) rfl
    · refine Ri.StepK.g (by decide) ⟨rfl, fun f W hq hf A hA hB hO => ?_⟩
      have e1 := (hA 20 2 (by kernel_rfl) (by simp)).trans (show f 2 = _ from hf 2 (by kernel_rfl))
      exact Ri.wp_value _ (Ri.run_nil rfl e1) rfl
    · refine Ri.StepK.g (by decide) ⟨rfl, fun f W hq hf A hA hB hO => ?_⟩
      have e1 := (hA 21 3 (by kernel_rfl) (by simp)).trans (show f 3 = _ from hf 3 (by kernel_rfl))
      exact Ri.wp_value _ (Ri.run_fld (f := _) rfl e1 Tryz.underlying51 rfl (sz := 0) (by kernel_rfl)) rfl
    · refine Ri.StepK.g (by decide) ⟨rfl, fun f W hq hf A hA hB hO => ?_⟩
      have e1 := (hA 22 4 (by kernel_rfl) (by simp)).trans (show f 4 = _ from hf 4 (by kernel_rfl))
      exact Ri.wp_value _ (Ri.run_ld1 rfl e1 Tryz.underlying45 rfl ((HKKK.out _ ((Q.refl w2).drew.trans hq)).1)) rfl
    · refine Ri.StepK.g (by decide) ⟨rfl, fun f W hq hf A hA hB hO => ?_⟩
      have e1 := (hB 8 (by kernel_rfl)).trans (show _ = .int .i64 (j : Int) by simp [Act.eval])
      exact Ri.wp_value _ (Ri.run_mv rfl e1) rfl
    · refine Ri.StepK.g (by decide) ⟨rfl, fun f W hq hf A hA hB hO => ?_⟩
      have e1 := (hA 23 5 (by kernel_rfl) (by simp)).trans (show f 5 = _ from hf 5 (by kernel_rfl))
      have e2 := (hA 24 6 (by kernel_rfl) (by simp)).trans (show f 6 = _ from hf 6 (by kernel_rfl))
      exact Ri.wp_value _ (Ri.run_cut rfl e1 e2 Tryz.underlying45 (sz := 1) (by kernel_rfl) (by omega)) rfl
    · refine Ri.StepK.g (by decide) ⟨rfl, fun f W hq hf A hA hB hO => ?_⟩
      obtain ⟨b0, hb, hw⟩ : isLit w2.heap.size (f 1) W := hf 1 (by kernel_rfl)
      have e1 := (hA 19 1 (by kernel_rfl) (by simp)).trans hb
      have e2 := (hA 25 7 (by kernel_rfl) (by simp)).trans (show f 7 = _ from hf 7 (by kernel_rfl))
      refine Ri.wp_append El_int _ _ rfl e1 e2 hw (fun h => by cases h) HT1K.out (HRDK.out _ ((Q.refl w2).drew.trans hq)) HC1K.out (by omega) ((Q.refl w2).drew.trans hq).size (fun v w3 h => h)
    · refine Ri.StepK.g (by decide) ⟨rfl, fun f W hq hf A hA hB hO => ?_⟩
      have e1 := (hB 0 (by kernel_rfl)).trans (show _ = .pointer (some ⟨nb, 0, none⟩) by simp [Act.eval])
      exact Ri.wp_value _ (Ri.run_mv rfl e1) rfl
    · refine Ri.StepK.g (by decide) ⟨rfl, fun f W hq hf A hA hB hO => ?_⟩
      have e1 := (hA 27 9 (by kernel_rfl) (by simp)).trans (show f 9 = _ from hf 9 (by kernel_rfl))
      exact Ri.wp_value _ (Ri.run_nil rfl e1) rfl
    · refine Ri.StepK.g (by decide) ⟨rfl, fun f W hq hf A hA hB hO => ?_⟩
      have e1 := (hA 28 10 (by kernel_rfl) (by simp)).trans (show f 10 = _ from hf 10 (by kernel_rfl))
      exact Ri.wp_value _ (Ri.run_fld (f := _) rfl e1 Tryz.underlying51 rfl (sz := 0) (by kernel_rfl)) rfl
    · refine Ri.StepK.g (by decide) ⟨rfl, fun f W hq hf A hA hB hO => ?_⟩
      have e1 := (hA 29 11 (by kernel_rfl) (by simp)).trans (show f 11 = _ from hf 11 (by kernel_rfl))
      exact Ri.wp_value _ (Ri.run_ld1 rfl e1 Tryz.underlying45 rfl ((HKKK.out _ ((Q.refl w2).drew.trans hq)).1)) rfl
    · refine Ri.StepK.g (by decide) ⟨rfl, fun f W hq hf A hA hB hO => ?_⟩
      have e1 := (hB 8 (by kernel_rfl)).trans (show _ = .int .i64 (j : Int) by simp [Act.eval])
      exact Ri.wp_value _ (Ri.run_mv rfl e1) rfl
    · refine Ri.StepK.g (by decide) ⟨rfl, fun f W hq hf A hA hB hO => ?_⟩
      have e1 := (hA 31 13 (by kernel_rfl) (by simp)).trans (show f 13 = _ from hf 13 (by kernel_rfl))
      have e2 : A.eval (.const (.int .i64 1)) = .int .i64 1 := rfl
      exact Ri.wp_value _ (run_addI rfl e1 e2 Tryz.underlying3 (by omega) (by omega)) rfl
    · refine Ri.StepK.g (by decide) ⟨rfl, fun f W hq hf A hA hB hO => ?_⟩
      have e1 := (hA 30 12 (by kernel_rfl) (by simp)).trans (show f 12 = _ from hf 12 (by kernel_rfl))
      have e2 := (hA 32 14 (by kernel_rfl) (by simp)).trans (show f 14 = _ from hf 14 (by kernel_rfl))
      exact Ri.wp_value _ (run_cutlo rfl e1 (e2.trans (by push_cast; rfl)) Tryz.underlying45 (by kernel_rfl) (by omega)) rfl
    · refine Ri.StepK.w (by decide) ⟨rfl, fun f W hq hf A hA hB => ?_⟩
      have ho8 : W.ownsRow w2.heap.size 3 1 (f 8) j ((intsV ks).take j) := hf 8 (by kernel_rfl)
      have e1 := hA 26 8 (by kernel_rfl) (by simp)
      have e2 := (hA 33 15 (by kernel_rfl) (by simp)).trans (show f 15 = _ from hf 15 (by kernel_rfl))
      have hqW : Q w2 W := ((Q.refl w2).drew.trans hq)
      refine Ri.wp_appW El_int _ _ rfl e1 ho8 e2 HT2K.out (HRD2K.out _ hqW) HC2K.out (by omega) hqW.size (fun v2 w3 h1 h2 => ?_)
      rw [HEK.out, show j + (len - (j + 1)) = len - 1 by omega] at h1
      exact ⟨h1, q_below hqW (below_own ho8 h2 hqW.size) (Nat.le_refl _)⟩
    · refine Ri.StepK.p (by decide) ⟨rfl, fun f W hf A hA hB => ?_⟩
      have e1 := (hA 18 0 (by kernel_rfl) (by simp)).trans (show f 0 = _ from hf 0 (by kernel_rfl) (by decide))
      exact Ri.wp_pure _ (Ri.run_nil rfl e1) rfl
    · refine Ri.StepK.p (by decide) ⟨rfl, fun f W hf A hA hB => ?_⟩
      have e1 := (hA 35 17 (by kernel_rfl) (by simp)).trans (show f 17 = _ from hf 17 (by kernel_rfl) (by decide))
      exact Ri.wp_pure _ (Ri.run_fld (f := _) rfl e1 Tryz.underlying51 rfl (sz := 0) (by kernel_rfl)) rfl
  · intro f W hP hpu A hAe hA hB
    have e1 := (hA 36 18 (by kernel_rfl) (by simp)).trans (show f 18 = _ from hpu 18 (by simp) (by decide))
    have e2 := hA 34 16 (by kernel_rfl) (by simp)
    obtain ⟨u, hu⟩ : ∃ u, u = f 16 := ⟨_, rfl⟩
    rw [← hu] at hP e2
    obtain ⟨ho, hq2⟩ := hP
    obtain ⟨k0, f0, hl⟩ := HKKK.out _ hq2
    obtain ⟨A9, c9, eu, -⟩ := own_form ho
    subst eu
    rw [← HLK.out] at ho
    have hF := HX2.out.layK (grown_q hq2) (fun g h => by cases h) (own_low ho (Nat.le_trans hBB HQ2.out.size)) (fun b e => .inr (ho.lt b e).1)
    rw [HLK.out] at hF
    have HFK := hide hF
    refine Ri.wp_store rfl e1 e2 rfl (by kernel_rfl) rfl rfl k0 f0 ?_
    rw [hAe]
    simp only [Ri.acts, Act.put, List.setIfInBounds_toArray, List.set_cons_zero, List.set_cons_succ]
    clear hpu hA hB hAe e1 e2 ho hF k0 f0 hl hu
    obtain ⟨w6, ew6⟩ : ∃ w6, w6 = W.setCell ⟨nb, 0, none⟩ (.slice A9 (len - 1) c9) := ⟨_, rfl⟩
    have hF := HFK.out
    rw [← ew6] at hF
    rw [← ew6]
    have HS6 : Hid (w.heap.size ≤ w6.heap.size) := hide (by rw [ew6]; simp [World.setCell]; exact Nat.le_trans HQ2.out.size hq2.size)
    clear HFK ew6 hq2
    have HF6 := hide hF
    have ov6 := hF.1.ov
    have X6 := hF.1
    rw [HLV0.out] at ov6
    have HKKV : Hid (∀ W, Q w6 W → W.cell? ⟨nb, 1, none⟩ = some (.slice (some ⟨b2, 0, none⟩) len c2) ∧ W.frozen? ⟨nb, 1, none⟩ = false ∧ nb < W.heap.size) := fun W hq => ⟨(X6.q hq).k.2.1, (X6.q hq).k.2.2.2.2, (X6.q hq).k.2.2.1⟩
    have HX6 := hide X6
    clear hF X6 HRDK HRD2K HEK HT1K HT2K HC1K HC2K HKKK hlenK
    have HRDV : Hid (∀ W, Q w6 W → Rd W W.heap.size (some ⟨b2, 0, none⟩) ((intsV vs).take j)) := fun W hq => (own_rd (own_q ov6 hq)).take j
    have HRD2V : Hid (∀ W, Q w6 W → Rd W W.heap.size (some (if c2 = j + 1 then ⟨b2, 0, none⟩ else ⟨b2, j + 1, none⟩)) ((intsV vs).drop (j + 1))) := fun W hq => by
      split
      · have h0 : (intsV vs).drop (j + 1) = [] := List.eq_nil_of_length_eq_zero (by rw [List.length_drop, hlenV]; omega)
        rw [h0]
        exact Rd.nil _ _ _
      · have := (own_rd (own_q ov6 hq)).dropAt (j + 1)
        simpa using this
    have HEV : Hid ((intsV vs).take j ++ (intsV vs).drop (j + 1) = intsV (delAt vs j 1)) := by
      unfold intsV delAt
      rw [List.map_append, List.map_take, List.map_drop]
      exact rfl
    have HT1V : Hid (((intsV vs).take j).length = j * 1) := by show ((intsV vs).take j).length = j * 1; rw [List.length_take]; omega
    have HT2V : Hid (((intsV vs).drop (j + 1)).length = (len - (j + 1)) * 1) := by show ((intsV vs).drop (j + 1)).length = _; rw [List.length_drop]; omega
    have HC1V : Hid (∀ u ∈ (intsV vs).take j, u.oneCell' = true) := fun u hu => intsV_cell vs u (List.mem_of_mem_take hu)
    have HC2V : Hid (∀ u ∈ (intsV vs).drop (j + 1), u.oneCell' = true) := fun u hu => intsV_cell vs u (List.mem_of_mem_drop hu)
    clear ov6
    go_upto_region 5 with fail
    refine Ri.called_last 16 [0, 17, 18] (Ri.phi [Ri.isV (.pointer (some ⟨nb, 0, none⟩)), isLit w6.heap.size, Ri.isV (.pointer (some ⟨nb, 0, none⟩)), Ri.isV (.pointer (some ⟨nb, 0, none⟩)), Ri.isV (.pointer (some ⟨nb, 1, none⟩)), Ri.isV (.slice (some ⟨b2, 0, none⟩) len c2), Ri.isV (.int .i64 (j : Int)), Ri.isV (.slice (some ⟨b2, 0, none⟩) j c2), isOwnI w6.heap.size j ((intsV vs).take j), Ri.isV (.pointer (some ⟨nb, 0, none⟩)), Ri.isV (.pointer (some ⟨nb, 0, none⟩)), Ri.isV (.pointer (some ⟨nb, 1, none⟩)), Ri.isV (.slice (some ⟨b2, 0, none⟩) len c2), Ri.isV (.int .i64 (j : Int)), Ri.isV (.int .i64 ((j : Int) + 1)), Ri.isV (.slice (some (if c2 = j + 1 then ⟨b2, 0, none⟩ else ⟨b2, j + 1, none⟩)) (len - (j + 1)) (c2 - (j + 1))), fun _ _ => True, Ri.isV (.pointer (some ⟨nb, 0, none⟩)), Ri.isV (.pointer (some ⟨nb, 1, none⟩))]) (fun v W => W.ownsRow w6.heap.size 3 1 v (len - 1) (intsV (delAt vs j 1)) ∧ Q w6 W) (by kernel_rfl) (by kernel_rfl) rfl (by kernel_rfl) rfl (by decide) (by kernel_rfl) (Ri.phi_mono ?_) ?_ ?_ ?_
    · exact ⟨Ri.mono_isV _, mono_lit _, Ri.mono_isV _, Ri.mono_isV _, Ri.mono_isV _, Ri.mono_isV _, Ri.mono_isV _, Ri.mono_isV _, mono_ownI _ _ _, Ri.mono_isV _, Ri.mono_isV _, Ri.mono_isV _, Ri.mono_isV _, Ri.mono_isV _, Ri.mono_isV _, Ri.mono_isV _, fun _ _ _ h _ => h, Ri.mono_isV _, Ri.mono_isV _, trivial⟩
    · intro i v w1 w2 hk hv
      match i, hk, hv with
      | 0, _, hv => exact hv
      | 1, hk, _ => exact absurd hk (by decide)
      | 2, hk, _ => exact absurd hk (by decide)
      | 3, hk, _ => exact absurd hk (by decide)
      | 4, hk, _ => exact absurd hk (by decide)
      | 5, hk, _ => exact absurd hk (by decide)
      | 6, hk, _ => exact absurd hk (by decide)
      | 7, hk, _ => exact absurd hk (by decide)
      | 8, hk, _ => exact absurd hk (by decide)
      | 9, hk, _ => exact absurd hk (by decide)
      | 10, hk, _ => exact absurd hk (by decide)
      | 11, hk, _ => exact absurd hk (by decide)
      | 12, hk, _ => exact absurd hk (by decide)
      | 13, hk, _ => exact absurd hk (by decide)
      | 14, hk, _ => exact absurd hk (by decide)
      | 15, hk, _ => exact absurd hk (by decide)
      | 16, hk, _ => exact absurd hk (by decide)
      | 17, _, hv => exact hv
      | 18, _, hv => exact hv
      | i + 19, hk, _ => exact absurd hk (by unfold Ri.kindOf; rw [if_neg (by omega), if_neg (by first | (simp; done) | (simp; omega))]; decide)
    · refine Ri.All.cons ?_ (Ri.All.cons ?_ (Ri.All.cons ?_ (Ri.All.cons ?_ (Ri.All.cons ?_ (Ri.All.cons ?_ (Ri.All.cons ?_ (Ri.All.cons ?_ (Ri.All.cons ?_ (Ri.All.cons ?_ (Ri.All.cons ?_ (Ri.All.cons ?_ (Ri.All.cons ?_ (Ri.All.cons ?_ (Ri.All.cons ?_ (Ri.All.cons ?_ (Ri.All.cons ?_ (Ri.All.cons ?_ (Ri.All.cons ?_ (Ri.All.nil)))))))))))))))))))
      · refine Ri.StepK.p (by decide) ⟨rfl, fun f W hf A hA hB => ?_⟩
        have e1 := (hB 0 (by kernel_rfl)).trans (show _ = .pointer (some ⟨nb, 0, none⟩) by simp [Act.eval])
        exact Ri.wp_pure _ (Ri.run_mv rfl e1) rfl
      · refine Ri.StepK.g (by decide) ⟨rfl, fun f W hq hf A hA hB hO => ?_⟩
        exact Ri.wp_lit0 El_int rfl ⟨_, rfl, own_lit0 W _ _ _ _ rfl ((Q.refl w6).drew.trans hq).size⟩
      · refine Ri.StepK.g (by decide) ⟨rfl, fun f W hq hf A hA hB hO => ?_⟩
        have e1 := (hB 0 (by kernel_rfl)).trans (show _ = .pointer (some ⟨nb, 0, none⟩) by simp [Act.eval])
        exact Ri.wp_value _ (Ri.run_mv rfl e1) rfl
      · refine Ri.StepK.g (by decide) ⟨rfl, fun f W hq hf A hA hB hO => ?_⟩
        have e1 := (hA 39 2 (by kernel_rfl) (by simp)).trans (show f 2 = _ from hf 2 (by kernel_rfl))
        exact Ri.wp_value _ (Ri.run_nil rfl e1) rfl
      · refine Ri.StepK.g (by decide) ⟨rfl, fun f W hq hf A hA hB hO => ?_⟩
        have e1 := (hA 40 3 (by kernel_rfl) (by simp)).trans (show f 3 = _ from hf 3 (by kernel_rfl))
        exact Ri.wp_value _ (Ri.run_fld (f := _) rfl e1 Tryz.underlying51 rfl (sz := 0) (by kernel_rfl)) rfl
      · refine Ri.StepK.g (by decide) ⟨rfl, fun f W hq hf A hA hB hO => ?_⟩
        have e1 := (hA 41 4 (by kernel_rfl) (by simp)).trans (show f 4 = _ from hf 4 (by kernel_rfl))
        exact Ri.wp_value _ (Ri.run_ld1 rfl e1 Tryz.underlying45 rfl ((HKKV.out _ ((Q.refl w6).drew.trans hq)).1)) rfl
      · refine Ri.StepK.g (by decide) ⟨rfl, fun f W hq hf A hA hB hO => ?_⟩
        have e1 := (hB 8 (by kernel_rfl)).trans (show _ = .int .i64 (j : Int) by simp [Act.eval])
        exact Ri.wp_value _ (Ri.run_mv rfl e1) rfl
      · refine Ri.StepK.g (by decide) ⟨rfl, fun f W hq hf A hA hB hO => ?_⟩
        have e1 := (hA 42 5 (by kernel_rfl) (by simp)).trans (show f 5 = _ from hf 5 (by kernel_rfl))
        have e2 := (hA 43 6 (by kernel_rfl) (by simp)).trans (show f 6 = _ from hf 6 (by kernel_rfl))
        exact Ri.wp_value _ (Ri.run_cut rfl e1 e2 Tryz.underlying45 (sz := 1) (by kernel_rfl) (by omega)) rfl
      · refine Ri.StepK.g (by decide) ⟨rfl, fun f W hq hf A hA hB hO => ?_⟩
        obtain ⟨b0, hb, hw⟩ : isLit w6.heap.size (f 1) W := hf 1 (by kernel_rfl)
        have e1 := (hA 38 1 (by kernel_rfl) (by simp)).trans hb
        have e2 := (hA 44 7 (by kernel_rfl) (by simp)).trans (show f 7 = _ from hf 7 (by kernel_rfl))
        refine Ri.wp_append El_int _ _ rfl e1 e2 hw (fun h => by cases h) HT1V.out (HRDV.out _ ((Q.refl w6).drew.trans hq)) HC1V.out (by omega) ((Q.refl w6).drew.trans hq).size (fun v w3 h => h)
      · refine Ri.StepK.g (by decide) ⟨rfl, fun f W hq hf A hA hB hO => ?_⟩
        have e1 := (hB 0 (by kernel_rfl)).trans (show _ = .pointer (some ⟨nb, 0, none⟩) by simp [Act.eval])
        exact Ri.wp_value _ (Ri.run_mv rfl e1) rfl
      · refine Ri.StepK.g (by decide) ⟨rfl, fun f W hq hf A hA hB hO => ?_⟩
        have e1 := (hA 46 9 (by kernel_rfl) (by simp)).trans (show f 9 = _ from hf 9 (by kernel_rfl))
        exact Ri.wp_value _ (Ri.run_nil rfl e1) rfl
      · refine Ri.StepK.g (by decide) ⟨rfl, fun f W hq hf A hA hB hO => ?_⟩
        have e1 := (hA 47 10 (by kernel_rfl) (by simp)).trans (show f 10 = _ from hf 10 (by kernel_rfl))
        exact Ri.wp_value _ (Ri.run_fld (f := _) rfl e1 Tryz.underlying51 rfl (sz := 0) (by kernel_rfl)) rfl
      · refine Ri.StepK.g (by decide) ⟨rfl, fun f W hq hf A hA hB hO => ?_⟩
        have e1 := (hA 48 11 (by kernel_rfl) (by simp)).trans (show f 11 = _ from hf 11 (by kernel_rfl))
        exact Ri.wp_value _ (Ri.run_ld1 rfl e1 Tryz.underlying45 rfl ((HKKV.out _ ((Q.refl w6).drew.trans hq)).1)) rfl
      · refine Ri.StepK.g (by decide) ⟨rfl, fun f W hq hf A hA hB hO => ?_⟩
        have e1 := (hB 8 (by kernel_rfl)).trans (show _ = .int .i64 (j : Int) by simp [Act.eval])
        exact Ri.wp_value _ (Ri.run_mv rfl e1) rfl
      · refine Ri.StepK.g (by decide) ⟨rfl, fun f W hq hf A hA hB hO => ?_⟩
        have e1 := (hA 50 13 (by kernel_rfl) (by simp)).trans (show f 13 = _ from hf 13 (by kernel_rfl))
        have e2 : A.eval (.const (.int .i64 1)) = .int .i64 1 := rfl
        exact Ri.wp_value _ (run_addI rfl e1 e2 Tryz.underlying3 (by omega) (by omega)) rfl
      · refine Ri.StepK.g (by decide) ⟨rfl, fun f W hq hf A hA hB hO => ?_⟩
        have e1 := (hA 49 12 (by kernel_rfl) (by simp)).trans (show f 12 = _ from hf 12 (by kernel_rfl))
        have e2 := (hA 51 14 (by kernel_rfl) (by simp)).trans (show f 14 = _ from hf 14 (by kernel_rfl))
        exact Ri.wp_value _ (run_cutlo rfl e1 (e2.trans (by push_cast; rfl)) Tryz.underlying45 (by kernel_rfl) (by omega)) rfl
      · refine Ri.StepK.w (by decide) ⟨rfl, fun f W hq hf A hA hB => ?_⟩
        have ho8 : W.ownsRow w6.heap.size 3 1 (f 8) j ((intsV vs).take j) := hf 8 (by kernel_rfl)
        have e1 := hA 45 8 (by kernel_rfl) (by simp)
        have e2 := (hA 52 15 (by kernel_rfl) (by simp)).trans (show f 15 = _ from hf 15 (by kernel_rfl))
        have hqW : Q w6 W := ((Q.refl w6).drew.trans hq)
        refine Ri.wp_appW El_int _ _ rfl e1 ho8 e2 HT2V.out (HRD2V.out _ hqW) HC2V.out (by omega) hqW.size (fun v2 w3 h1 h2 => ?_)
        rw [HEV.out, show j + (len - (j + 1)) = len - 1 by omega] at h1
        exact ⟨h1, q_below hqW (below_own ho8 h2 hqW.size) (Nat.le_refl _)⟩
      · refine Ri.StepK.p (by decide) ⟨rfl, fun f W hf A hA hB => ?_⟩
        have e1 := (hA 37 0 (by kernel_rfl) (by simp)).trans (show f 0 = _ from hf 0 (by kernel_rfl) (by decide))
        exact Ri.wp_pure _ (Ri.run_nil rfl e1) rfl
      · refine Ri.StepK.p (by decide) ⟨rfl, fun f W hf A hA hB => ?_⟩
        have e1 := (hA 54 17 (by kernel_rfl) (by simp)).trans (show f 17 = _ from hf 17 (by kernel_rfl) (by decide))
        exact Ri.wp_pure _ (Ri.run_fld (f := _) rfl e1 Tryz.underlying51 rfl (sz := 0) (by kernel_rfl)) rfl
    · intro f W hP hpu A hAe hA hB
      have e1 := (hA 55 18 (by kernel_rfl) (by simp)).trans (show f 18 = _ from hpu 18 (by simp) (by decide))
      have e2 := hA 53 16 (by kernel_rfl) (by simp)
      obtain ⟨u, hu⟩ : ∃ u, u = f 16 := ⟨_, rfl⟩
      rw [← hu] at hP e2
      obtain ⟨ho, hq2⟩ := hP
      obtain ⟨k0, f0, hl⟩ := HKKV.out _ hq2
      obtain ⟨A9, c9, eu, -⟩ := own_form ho
      subst eu
      rw [← HLV.out] at ho
      have hF := HX6.out.layV (grown_q hq2) (fun g h => by cases h) (own_low ho (Nat.le_trans hBB HS6.out)) (fun b e => .inr (ho.lt b e).1)
      rw [HLV.out] at hF
      have HFV := hide hF
      refine Ri.wp_store rfl e1 e2 rfl (by kernel_rfl) rfl rfl k0 f0 ?_
      rw [hAe]
      simp only [Ri.acts, Act.put, List.setIfInBounds_toArray, List.set_cons_zero, List.set_cons_succ]
      clear hpu hA hB hAe e1 e2 ho hF k0 f0 hl hu
      go_wp2_with fail
      refine bodyPost_ret (results_tmp3 rfl _ _) rfl ?_
      refine ⟨rfl, ?_⟩
      exact OQok.step (.of_q HQ2.out) (fun b e => .inl e) (OQok.step HF6.out.2.1 HF6.out.2.2 ⟨_, _, HFV.out.1, HFV.out.2.1, HFV.out.2.2⟩)
end
end Go.Proofs.YtdaklffbfadghaaGreat

namespace Go.Proofs.YtdaklffbfadghaaGreat
open Go.RowKit HP
set_option linter.unusedVariables false
set_option linter.unusedSimpArgs false
/-- the queue against the document's, behind k acts -/
structure QI (m : HM) (r : Rw) (Ls : List (List Int)) (kv : List (Int × Int)) (t : Int) (k : Nat) : Prop where
  que : QueR m r Ls t
  ord : Ord Ls
  sim : QSim Ls kv t
  t0 : 0 ≤ t
  tk : t ≤ (k : Int)
  fit : ∀ x ∈ kv, fits2 x = true
structure AQ (w W : World) (hb lb gb mb ab nb : Nat) (vk vv vk3 vv3 : Value) (m : HM) (r : Rw) (G : Gd) (op A B : Int) (kv ys : List (Int × Int)) : Prop where
  rb : r.blk = lb
  gk : G.blk = gb
  ty : r.ty = 124
  lg : LG w W hb m r G (fun b => b = ab ∨ OMt mb vk vv b ∨ OMt nb vk3 vv3 b)
  mo : OQ W w.heap.size mb vk vv (keysOf kv) (valsOf kv)
  no : OQ W w.heap.size nb vk3 vv3 (keysOf ys) (valsOf ys)
  abox : W.heap[ab]? = some (.cells #[.int .i64 op, .int .i64 A, .int .i64 B] 53 (0, 0))
  ne : (∀ b, OMt mb vk vv b → ¬ OMt nb vk3 vv3 b) ∧ ¬ OMt nb vk3 vv3 ab
/-- what Pop and Peek hand out -/
def lsP (kv : List (Int × Int)) : Int × Int := if 0 < kv.length then ((keysOf kv).getD (lsI (keysOf kv)).toNat 0, (valsOf kv).getD (lsI (keysOf kv)).toNat 0) else (0, 0)
def popY (kv : List (Int × Int)) : List (Int × Int) := if 0 < kv.length then delAt kv (lsI (keysOf kv)).toNat 1 else kv
section
variable {w W W' : World} {hb lb gb mb ab nb k : Nat} {vk vv vk3 vv3 : Value} {m m2 : HM} {r r2 : Rw} {G G2 : Gd} {op A B t t2 : Int} {kv ys zs us : List (Int × Int)} {Ls L2 : List (List Int)} {f : FuncId} {args : Array Value}
theorem LS.ty' {h : Hp} {r1 : Rw} (X : LS w h r W m r1) : r1.ty = r.ty := by
  obtain ⟨h1, D, e⟩ := X
  exact D.rt
theorem QI.len (I : QI m r Ls kv t k) : Ls.length = kv.length := I.sim.len
theorem QI.l64 (I : QI m r Ls kv t k) : kv.length ≤ 64 := by rw [← I.len]; exact I.que.le
theorem QI.pcs (I : QI m r Ls kv t k) : Pcs m 3 r.ps kv.length := by rw [← I.len]; exact I.que.kp.pcs
theorem QI.more {k2 : Nat} (I : QI m r Ls kv t k) (h : k ≤ k2) : QI m r Ls kv t k2 := { I with tk := by have := I.tk; omega }
/-- the first one -/
theorem QI.root (I : QI m r Ls kv t k) (hl : 0 < kv.length) : ∃ i : Nat, lsI (keysOf kv) = (i : Int) ∧ i < kv.length ∧ kv[i]? = some (nw (rw_ Ls 0)) ∧ lsP kv = nw (rw_ Ls 0) ∧ popY kv = delAt kv i 1 ∧ ∀ M, (rw_ Ls 0 :: M).Perm Ls → QSim M (delAt kv i 1) t := by
  obtain ⟨i, h1, h2, h3⟩ := I.sim.root I.ord (by rw [I.len]; exact hl)
  have e : lsI (keysOf kv) = (i : Int) := lsI_at h2
  have hi := (List.getElem?_eq_some_iff.1 h1).1
  refine ⟨i, e, hi, h1, ?_, ?_, h3⟩
  · unfold lsP
    rw [if_pos hl, e, Int.toNat_natCast]
    unfold keysOf valsOf
    rw [List.getD_eq_getElem?_getD, List.getD_eq_getElem?_getD, List.getElem?_map, List.getElem?_map, h1]
    rfl
  · unfold popY
    rw [if_pos hl, e, Int.toNat_natCast]
theorem AQ.q (X : AQ w W hb lb gb mb ab nb vk vv vk3 vv3 m r G op A B kv ys) (hq : Q W W') : AQ w W' hb lb gb mb ab nb vk vv vk3 vv3 m r G op A B kv ys :=
  ⟨X.rb, X.gk, X.ty, X.lg.q' hq, X.mo.q hq, X.no.q hq, (hq.below.block _ (blk_lt X.abox)).trans X.abox, X.ne⟩
theorem AQ.call (X : AQ w W hb lb gb mb ab nb vk vv vk3 vv3 m r G op A B kv ys) {P : Ending → HM → Rw → Prop} (hc : ∀ h, LR W h r → h.m = m → h.calls = m.calls → Calls Tryz.prog f args W fun e W' => ∃ m2 r2, LS W h r W' m2 r2 ∧ P e m2 r2) :
    Calls Tryz.prog f args W fun e W' => ∃ m2 r2, AQ w W' hb lb gb mb ab nb vk vv vk3 vv3 m2 r2 G op A B kv ys ∧ P e m2 r2 := by
  refine (X.lg.list (P := fun e _ m2 r2 => r2.ty = r.ty ∧ P e m2 r2) fun h L e1 e2 e3 => (hc h L e1 e3).mono ?_).mono ?_
  · rintro e W' ⟨m2, r2, hX, hP⟩
    exact ⟨m2, r2, hX, hX.ty', hP⟩
  · rintro e W' ⟨m2, r2, ⟨hl, hb, hs⟩, ht, hP⟩
    exact ⟨m2, r2, ⟨hb.trans X.rb, X.gk, ht.trans X.ty, hl, X.mo.same fun b e => hs b (.inr (.inl e)), X.no.same fun b e => hs b (.inr (.inr e)), (hs _ (.inl rfl)).trans X.abox, X.ne⟩, hP⟩
theorem AQ.cs (X : AQ w W hb lb gb mb ab nb vk vv vk3 vv3 m r G op A B kv ys) : W.cell? ⟨ab, 0, none⟩ = some (.int .i64 op) ∧ W.cell? ⟨ab, 1, none⟩ = some (.int .i64 A) ∧ W.cell? ⟨ab, 2, none⟩ = some (.int .i64 B) ∧ W.cell? ⟨nb, 0, none⟩ = some vk3 ∧ W.cell? ⟨nb, 1, none⟩ = some vv3 ∧ ab < W.heap.size ∧ nb < W.heap.size ∧ mb < W.heap.size ∧ W.frozen? ⟨mb, 0, none⟩ = false ∧ W.frozen? ⟨mb, 1, none⟩ = false ∧ W.cell? ⟨mb, 0, none⟩ = some vk ∧ W.cell? ⟨mb, 1, none⟩ = some vv := by
  refine ⟨?_, ?_, ?_, X.no.k.1, X.no.k.2.1, blk_lt X.abox, X.no.k.2.2.1, X.mo.k.2.2.1, X.mo.k.2.2.2.1, X.mo.k.2.2.2.2, X.mo.k.1, X.mo.k.2.1⟩
  all_goals (rw [cell_of_row _ _ _ _ _ _ X.abox]; rfl)
/-- what an act comes to -/
def ActQ (m2 : HM) (r2 : Rw) (G G2 : Gd) (k : Nat) (kv ys : List (Int × Int)) (got want : Int) (lg : Bool) : Prop :=
  NextO G m2 got want lg ys.length G2 ∧ ∃ (zs : List (Int × Int)) (L2 : List (List Int)) (t2 : Int), GI m2 3 r2.ps zs.length G2 (k + 1) ∧ QI m2 r2 L2 zs t2 (k + 1) ∧ (((got == 0) = true ∧ zs = ys) ∨ ((got == 0) = false ∧ zs = kv))
def psE (kv : List (Int × Int)) (n what : Int) : Int := if fits2 (n, what) = false then 1 else if 64 ≤ kv.length then 3 else 0
def psY (kv : List (Int × Int)) (n what : Int) : List (Int × Int) := if psE kv n what = 0 then kv ++ [(n, what)] else kv
theorem push_out {n what err : Int} (I : QI m r Ls kv t k) (g : GI m 3 r.ps kv.length G k) (O : PushO m m2 r r2 Ls L2 t n what err t2) : ∃ G2, ActQ m2 r2 G G2 k kv (psY kv n what) err (psE kv n what) true := by
  rcases O with ⟨h1, rfl, rfl, rfl, rfl, rfl⟩ | ⟨h1, ok, m1, rfl, D, Wr, S2, et, h2, h3⟩
  · have e : psE kv n what = 1 := by unfold psE; rw [if_pos h1]
    rw [e]
    exact ⟨G, .inl ⟨rfl, fun _ => rfl, g.calls, rfl⟩, kv, L2, t2, g.more (by omega), I.more (by omega), .inr ⟨rfl, rfl⟩⟩
  · have h64 := I.l64
    have hlen := I.len
    have hfr := D.fr.trans Wr.fr
    have hlow : ∀ d, Low m 3 r.ps d → Low m2 3 r2.ps d := fun d L => ((D.low d L).1).same Wr.fr Wr.failIn
    by_cases hf : kv.length = 64
    · obtain ⟨e1, e2⟩ := D.full (by rw [hlen]; exact hf)
      subst e1
      have el := h2 rfl
      subst el
      have et : t2 = t := et
      subst et
      have e : psE kv n what = 3 := by unfold psE; rw [if_neg (by rw [h1]; decide), if_pos (by omega)]
      have ey : psY kv n what = kv := by unfold psY; rw [e, if_neg (by decide)]
      rw [e, ey]
      have I2 : QI m2 r2 L2 kv t2 (k + 1) := ⟨S2, I.ord, I.sim, I.t0, by have := I.tk; omega, I.fit⟩
      exact ⟨G, .inl ⟨rfl, fun _ => rfl, by rw [Wr.calls, e2]; exact g.calls, rfl⟩, kv, L2, t2, g.quiet S2.inv hfr I2.pcs (Nat.le_refl _) (by rw [Wr.calls, e2]) fun L => hlow 0 L, I2, .inr ⟨rfl, rfl⟩⟩
    · have e : psE kv n what = 0 := by unfold psE; rw [if_neg (by rw [h1]; decide), if_neg (by omega)]
      have ey : psY kv n what = kv ++ [(n, what)] := by unfold psY; rw [e, if_pos rfl]
      rw [e, ey]
      have hcl := D.calls
      have hc2 := Wr.calls
      cases ok with
      | true =>
        obtain ⟨hp, ho⟩ := h3 rfl
        have et : t2 = t + 1 := et
        have I2 : QI m2 r2 L2 (kv ++ [(n, what)]) t2 (k + 1) := ⟨S2, ho, by rw [et]; exact (I.sim.push n what).perm hp, by have := I.t0; omega, by have := I.tk; omega, fun x hx => by
          rcases List.mem_append.1 hx with h | h
          · exact I.fit x h
          · rw [List.mem_singleton] at h
            rw [h]
            exact h1⟩
        exact ⟨_, .inr (.inl ⟨rfl, rfl, rfl, rfl⟩), kv ++ [(n, what)], L2, t2, g.ok S2.inv hfr I2.pcs I2.l64 (by omega) fun L => hlow 0 L, I2, .inl ⟨rfl, rfl⟩⟩
      | false =>
        have el := h2 rfl
        subst el
        have et : t2 = t := et
        subst et
        have I2 : QI m2 r2 L2 kv t2 (k + 1) := ⟨S2, I.ord, I.sim, I.t0, by have := I.tk; omega, I.fit⟩
        refine ⟨_, .inr (.inr ⟨rfl, rfl, rfl, fun hs => ?_, rfl⟩), kv, L2, t2, g.no S2.inv hfr I2.pcs (Nat.le_refl _) (by omega) fun L => hlow 0 L, I2, .inr ⟨rfl, rfl⟩⟩
        have h16 : ¬ kv.length < 16 := fun h => by
          have := (D.low 0 (g.low hs)).2 (by rw [hlen]; exact h)
          cases this
        simp
        omega
theorem pop_out (I : QI m r Ls kv t k) (g : GI m 3 r.ps kv.length G k) (hl : 0 < kv.length) (S2 : QueR m2 r2 L2 t) (D : Popd m m2 r.ps r2.ps) (hp : L2.Perm (popL Ls)) (ho : Ord L2) : GI m2 3 r2.ps (popY kv).length G (k + 1) ∧ QI m2 r2 L2 (popY kv) t (k + 1) := by
  obtain ⟨i, e, hi, h1, h2, h3, h4⟩ := I.root hl
  have hp2 : (rw_ Ls 0 :: L2).Perm Ls := (List.Perm.cons _ hp).trans (popL_perm (by rw [I.len]; exact hl))
  have I2 : QI m2 r2 L2 (popY kv) t (k + 1) := ⟨S2, ho, by rw [h3]; exact h4 L2 hp2, I.t0, by have := I.tk; omega, fun x hx => by rw [h3] at hx; exact I.fit x (delAt_mem hx)⟩
  refine ⟨g.quiet S2.inv D.fr I2.pcs ?_ D.calls fun L => D.low 0 L, I2⟩
  rw [h3, delAt_len _ _ _ (by omega)]
  omega
/-! the calls -/
theorem AQ.ptr (X : AQ w W hb lb gb mb ab nb vk vv vk3 vv3 m r G op A B kv ys) : r.ptr = .pointer (some ⟨lb, 0, none⟩) := by unfold Rw.ptr; rw [X.rb]
/-! the document's -/
theorem oq_pop (X : OQ W w.heap.size nb vk3 vv3 (keysOf ys) (valsOf ys)) (hsz : w.heap.size ≤ W.heap.size) (hn : ys.length ≤ 64) :
    Calls Tryz.prog 28 #[.pointer (some ⟨nb, 0, none⟩)] W fun e W' => e = .returned (.tuple #[.int .i64 (lsP ys).1, .int .i64 (lsP ys).2, .bool (decide (0 < ys.length))]) ∧ OQok W w.heap.size nb vk3 vv3 (keysOf (popY ys)) (valsOf (popY ys)) W' := by
  by_cases hl : 0 < ys.length
  · have lk : (keysOf ys).length = ys.length := by unfold keysOf; rw [List.length_map]
    obtain ⟨i, e, hi, -, -⟩ := lsU_least (keysOf ys) (keysOf ys).length (by omega) (Nat.le_refl _)
    have e : lsI (keysOf ys) = (i : Int) := e
    have hv : lsP ys = ((keysOf ys).getD i 0, (valsOf ys).getD i 0) := by unfold lsP; rw [if_pos hl, e, Int.toNat_natCast]
    have hy : popY ys = delAt ys i 1 := by unfold popY; rw [if_pos hl, e, Int.toNat_natCast]
    rw [hv, hy, show decide (0 < ys.length) = true by simpa using hl]
    refine (popR_some X hsz (by omega) i e (by omega)).mono ?_
    rintro e W' ⟨he, hr⟩
    refine ⟨he, ?_⟩
    rw [show keysOf (delAt ys i 1) = delAt (keysOf ys) i 1 by unfold keysOf; rw [delAt_map], show valsOf (delAt ys i 1) = delAt (valsOf ys) i 1 by unfold valsOf; rw [delAt_map]]
    exact hr
  · have hv : lsP ys = (0, 0) := by unfold lsP; rw [if_neg hl]
    have hy : popY ys = ys := by unfold popY; rw [if_neg hl]
    rw [hv, hy, show decide (0 < ys.length) = false by simpa using hl]
    refine (popR_none X (by omega)).mono ?_
    rintro e W' ⟨he, hq⟩
    exact ⟨he, .refl X hq⟩
end
end Go.Proofs.YtdaklffbfadghaaGreat

namespace Go.Proofs.YtdaklffbfadghaaGreat
open Go.RowKit HP
set_option linter.unusedVariables false
set_option linter.unusedSimpArgs false
def PXq (w : World) (hb lb gb mb i : Nat) (kv zs : List (Int × Int)) (vk vv : Value) (W : World) : Prop := ∃ (m : HM) (r : Rw) (G : Gd) (Ls : List (List Int)) (t : Int), r.blk = lb ∧ G.blk = gb ∧ r.ty = 124 ∧ LG w W hb m r G (OMt mb vk vv) ∧ OQ W w.heap.size mb vk vv (keysOf kv) (valsOf kv) ∧ GI m 3 r.ps zs.length G i ∧ QI m r Ls zs t i
/-- between two rounds -/
def PRq (w : World) (hb lb gb mb n i : Nat) (W : World) : Prop := i ≤ n ∧ ∃ (kv : List (Int × Int)) (vk vv : Value), PXq w hb lb gb mb i kv kv vk vv W
theorem newQueue_r (m : HM) (I : Inv m) (b : Nat) : QueR m (newRw b 124 [.int .i64 0]) [] 0 := ⟨I, Kp.nil m 3, rfl, rfl, (fun x hx => by cases hx), rfl⟩
theorem qi_start {m : HM} {r : Rw} (h : QueR m r [] 0) : QI m r [] [] 0 0 := ⟨h, Ord.nil, QSim.nil 0, by omega, by omega, fun x hx => by cases hx⟩
section
variable {w W W' wr wa : World} {hb lb gb mb ab nb n i k : Nat} {vk vv vk3 vv3 u1 u2 : Value} {m m2 : HM} {r r2 : Rw} {G G2 : Gd} {op A B t t2 : Int} {kv ys zs : List (Int × Int)} {Ls L2 : List (List Int)}
theorem PXq.q (X : PXq w hb lb gb mb i kv zs vk vv W) (hq : Q W W') : PXq w hb lb gb mb i kv zs vk vv W' := by
  obtain ⟨m, r, G, Ls, t, a1, a2, a3, a4, a5, a6⟩ := X
  exact ⟨m, r, G, Ls, t, a1, a2, a3, a4.q' hq, a5.q hq, a6⟩
theorem PXq.toQ (X : PXq w hb lb gb mb i kv zs vk vv W) : Q w W := by
  obtain ⟨m, r, G, Ls, t, a1, a2, a3, a4, a5, a6⟩ := X
  exact a4.q
theorem PRq.toQ (X : PRq w hb lb gb mb n i W) : Q w W := by
  obtain ⟨-, kv, vk, vv, X⟩ := X
  exact X.toQ
theorem PXq.l64 (X : PXq w hb lb gb mb i kv zs vk vv W) : zs.length ≤ 64 := by
  obtain ⟨m, r, G, Ls, t, a1, a2, a3, a4, a5, a6, I⟩ := X
  exact I.l64
/-- the model takes the next one's rows -/
theorem AQ.take (X : AQ w W hb lb gb mb ab nb vk vv vk3 vv3 m r G op A B kv ys) (g : GI m 3 r.ps ys.length G k) (I : QI m r Ls ys t k) : PXq w hb lb gb mb k ys ys vk3 vv3 ((W.setCell ⟨mb, 0, none⟩ vk3).setCell ⟨mb, 1, none⟩ vv3) := by
  have hb := X.mo.box
  have n1 := boxQ_ne hb X.no.ok
  have n2 := boxQ_ne hb X.no.ov
  have t1 : Turn (fun b => b = mb) W ((W.setCell ⟨mb, 0, none⟩ vk3).setCell ⟨mb, 1, none⟩ vv3) := ((Turn.refl (fun b => b = mb) W).set (p := ⟨mb, 0, none⟩) rfl vk3).set (p := ⟨mb, 1, none⟩) rfl vv3
  have keep : ∀ b, b < W.heap.size → b ≠ mb → ((W.setCell ⟨mb, 0, none⟩ vk3).setCell ⟨mb, 1, none⟩ vv3).heap[b]? = W.heap[b]? := fun b h1 h2 => t1.block b h1 h2
  refine ⟨m, r, G, Ls, t, X.rb, X.gk, X.ty, X.lg.turn t1 (fun b e => .inr (.inl (.inl e))) fun b e => ?_, ⟨?_, own_same X.no.ok fun g hg => keep g (X.no.ok.lt g hg).2 fun e => n1 (by rw [← e]; exact hg), own_same X.no.ov fun g hg => keep g (X.no.ov.lt g hg).2 fun e => n2 (by rw [← e]; exact hg), X.no.ap⟩, g, I⟩
  · rcases e with e | e | e
    · exact .inl (.inr (.inl (.inl e)))
    · exact .inl (.inr (.inr (.inr (.inl e))))
    · exact .inl (.inr (.inr (.inr (.inr e))))
  · have h1 := heap_setCell_same W mb 0 _ _ vk3 hb
    have h2 := heap_setCell_same _ mb 1 _ _ vv3 h1
    rw [h2]
    rfl
end
end Go.Proofs.YtdaklffbfadghaaGreat
