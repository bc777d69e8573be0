/- A region that draws its order and makes new memory, with a last operation: values of different groups lie in different blocks. Conditions: as each theorem says. -/
import Derived.Test.YtdaklffbfadghaaGreatMg
namespace Go.Proofs.YtdaklffbfadghaaGreat
open Go.RowKit
set_option linter.unusedVariables false
set_option linter.unusedSimpArgs false
namespace Ri
/-- the blocks of values of different groups differ -/
def ApD (grp : Nat → Nat) (D : Nat → Prop) (f : Nat → Value) : Prop := ∀ i j, D i → D j → grp i ≠ 0 → grp j ≠ 0 → grp i ≠ grp j → ∀ b, (f i).ownBlock = some b → (f j).ownBlock ≠ some b
/-- a value's block is new, or that of a value of its own group which it waits for -/
def FrD (l : List Oper) (grp : Nat → Nat) (f : Nat → Value) (k : Nat) (w w' : World) (v : Value) : Prop := ∀ b, v.ownBlock = some b → b < w'.heap.size ∧ (w.heap.size ≤ b ∨ ∃ j, dep l.toArray l.length k j = true ∧ grp j = grp k ∧ (f j).ownBlock = some b)
abbrev StepD (grp : Nat → Nat) (P : Program) (R : Exit → Act → World → Prop) (l : List Oper) (a : Act) (w0 : World) (φ : Nat → Value → World → Prop) (k : Nat) (o : Oper) : Prop :=
  o.guard = none ∧ ∀ (f : Nat → Value) (w : World), Q w0 w → (∀ j, dep l.toArray l.length k j = true → φ j (f j) w) → ApD grp (fun j => dep l.toArray l.length k j = true) f → ∀ A : Act, (∀ d i, ((l[i]?).bind (·.dst)) = some d → d < a.tmps.size → A.eval (.tmp d) = f i) → (∀ d, apartD (some d) l = true → A.eval (.tmp d) = a.eval (.tmp d)) → (∀ j, dep l.toArray l.length j k = true → f j = old a l j) →
      o.wp P A w (fun a' w' => ∃ v, a' = A.put o.dst v ∧ Q w w' ∧ φ k v w' ∧ (grp k = 0 ∨ FrD l grp f k w w' v)) R
theorem StepD.g {grp : Nat → Nat} {P : Program} {R : Exit → Act → World → Prop} {l : List Oper} {a : Act} {w0 : World} {φ : Nat → Value → World → Prop} {k : Nat} {o : Oper} (hk : grp k = 0) (h : StepG P R l a w0 φ k o) : StepD grp P R l a w0 φ k o :=
  ⟨h.1, fun f w hq hf hD A hA hB hO => Oper.wp_mono (fun a' w' ⟨v, e, hq, hp⟩ => ⟨v, e, hq, hp, .inl hk⟩) (h.2 f w hq hf A hA hB hO)⟩
theorem made_lastP {P : Program} {id : Nat} {R : Exit → Act → World → Prop} {a : Act} {w : World} {l : List Oper} {ol : Oper} (grp : Nat → Nat) (φ : Nat → Value → World → Prop) (hm : P.follows .mixedOrders = true) (hB : chk l = true) (hl : l.getLast? = some ol)
    (hall : ((List.range l.dropLast.length).all fun j => dep l.toArray l.length l.dropLast.length j) = true) (hg : ol.guard = none)
    (hmono : ∀ i v w1 w2, φ i v w1 → Q w1 w2 → φ i v w2) (hstep : All (StepD grp P R l a w.drew φ) 0 l.dropLast)
    (hend : ∀ f w', Q w w' → (∀ j, j < l.dropLast.length → φ j (f j) w') → ∀ A : Act, A = acts f 0 l a → (∀ d i, ((l[i]?).bind (·.dst)) = some d → d < a.tmps.size → A.eval (.tmp d) = f i) → (∀ d, apartD (some d) l = true → A.eval (.tmp d) = a.eval (.tmp d)) →
      ol.wp P A w' (fun a' w' => ∃ v, a' = A.put ol.dst v ∧ R .normal a' w') R) : (Code.region id l.toArray true).wp P R a w := by
  unfold chk at hB
  rw [Bool.and_eq_true] at hB
  have hd := hB.1
  obtain ⟨l0, hl0⟩ : ∃ l0, l0 = l.dropLast := ⟨_, rfl⟩
  have el : l0 ++ [ol] = l := by
    rw [hl0]
    have hne : l ≠ [] := fun h => by rw [h] at hl; cases hl
    rw [List.getLast?_eq_some_getLast hne] at hl
    rw [← Option.some.inj hl]
    exact List.dropLast_concat_getLast hne
  rw [← hl0] at hall hstep hend
  subst el
  clear hl0 hl
  have hlast : (l0 ++ [ol])[l0.length]? = some ol := by simp
  refine wp_region_any hm ?_
  have hst : a = acts (old a (l0 ++ [ol])) 0 (l0 ++ [ol]) a := start
  have hev : ∀ (f : Nat → Value) d i, (((l0 ++ [ol])[i]?).bind (·.dst)) = some d → d < a.tmps.size → (acts f 0 (l0 ++ [ol]) a).eval (.tmp d) = f i := fun f d i hdi hs => acts_get (l0 ++ [ol]) 0 a hd (Nat.zero_le _) (by simpa using hdi) hs
  have hsame : ∀ (f : Nat → Value) d, apartD (some d) (l0 ++ [ol]) = true → (acts f 0 (l0 ++ [ol]) a).eval (.tmp d) = a.eval (.tmp d) := fun f d hd' => acts_same (l0 ++ [ol]) 0 a hd'
  have key := any (P := P) (ops := (l0 ++ [ol]).toArray) (R := R) (A := fun f => acts f 0 (l0 ++ [ol]) a)
    (fun S f w' => if S l0.length = true then (∀ j, j ≤ l0.length → S j = true) ∧ R .normal (acts f 0 (l0 ++ [ol]) a) w' else Q w.drew w' ∧ (∀ j, j < l0.length → S j = true → φ j (f j) w') ∧ (∀ j, S j = false → f j = old a (l0 ++ [ol]) j) ∧ (∀ j, S j = true → grp j ≠ 0 → ∀ b, (f j).ownBlock = some b → b < w'.heap.size) ∧ ApD grp (fun j => S j = true) f)
    (fun f i o v ho => acts_upd v (l0 ++ [ol]) 0 a hB.1 (Nat.zero_le _) (by simpa using ho)) hB.2
    (fun S f w1 i o ho hSi hdep hwait hJ => by
      have ho' : (l0 ++ [ol])[i]? = some o := by simpa using ho
      have hil : i < l0.length + 1 := by simpa using (List.getElem?_eq_some_iff.1 ho').1
      have hnl : ¬ S l0.length = true := fun h => by
        rw [if_pos h] at hJ
        have := hJ.1 i (by omega)
        rw [hSi] at this
        cases this
      rw [if_neg hnl] at hJ
      by_cases hi : i = l0.length
      · subst hi
        rw [hlast] at ho'
        obtain rfl := Option.some.inj ho'
        have hSj : ∀ j, j < l0.length → S j = true := fun j hj => hdep j (by
          have := List.all_eq_true.1 hall j (List.mem_range.2 hj)
          simpa using this)
        have hu : upd S l0.length true l0.length = true := by simp [upd]
        have hua : ∀ j, j ≤ l0.length → upd S l0.length true j = true := fun j hj => by
          unfold upd
          split
          · rfl
          · exact hSj j (by omega)
        have := hend f w1 (((Q.refl w).drew).trans hJ.1) (fun j hj => hJ.2.1 j hj (hSj j hj)) _ rfl (hev f) (hsame f)
        have hp : ∀ v, (acts f 0 (l0 ++ [ol]) a).put ol.dst v = acts (upd f l0.length v) 0 (l0 ++ [ol]) a := fun v => acts_upd v (l0 ++ [ol]) 0 a hB.1 (Nat.zero_le _) (by simp)
        rw [if_pos (by simp [Region.wanted, hg])]
        refine Oper.wp_mono (fun a' w2 ⟨v, e, hR⟩ => ⟨v, e, ?_⟩) this
        rw [if_pos hu]
        exact ⟨hua, by rw [← hp v, ← e]; exact hR⟩
      · have hil2 : i < l0.length := by omega
        have ho2 : l0[i]? = some o := by rw [List.getElem?_append_left hil2] at ho'; exact ho'
        have hs := all_get hstep ho2
        rw [Nat.zero_add] at hs
        have hdl : ∀ j, dep (l0 ++ [ol]).toArray (l0 ++ [ol]).length i j = true → φ j (f j) w1 := fun j hj => by
          have hSj := hdep j (by simpa using hj)
          refine hJ.2.1 j ?_ hSj
          refine Classical.byContradiction fun hge => ?_
          by_cases e : j = l0.length
          · rw [e] at hSj
            exact hnl hSj
          · exact absurd hj (by rw [dep_far hB.2 _ i j (by simp; omega)]; exact Bool.false_ne_true)
        obtain ⟨h1, h2, h3, h4, h5⟩ := hJ
        have := hs.2 f w1 h1 hdl (fun p q hp hq => h5 p q (hdep p (by simpa using hp)) (hdep q (by simpa using hq))) _ (hev f) (hsame f) (fun j hj => h3 j (hwait j (by simpa using hj)))
        have hu : ¬ upd S i true l0.length = true := by
          unfold upd
          rw [if_neg (by omega)]
          exact hnl
        rw [if_pos (by simp [Region.wanted, hs.1])]
        refine Oper.wp_mono (fun a' w2 ⟨v, e, hq, hφ, hfr⟩ => ⟨v, e, ?_⟩) this
        rw [if_neg hu]
        refine ⟨h1.trans hq, fun j hj hSj => ?_, fun j hSj => ?_, fun j hSj hgj b hb => ?_, fun p q hp hq2 gp gq gpq b hb => ?_⟩
        · unfold upd at hSj ⊢
          by_cases e : j = i
          · rw [if_pos e, e]; exact hφ
          · rw [if_neg e] at hSj ⊢
            exact hmono _ _ _ _ (h2 j hj hSj) hq
        · unfold upd at hSj ⊢
          by_cases e : j = i
          · rw [if_pos e] at hSj; cases hSj
          · rw [if_neg e] at hSj ⊢
            exact h3 j hSj
        · unfold upd at hSj hb
          by_cases e : j = i
          · rw [if_pos e] at hb
            subst e
            rcases hfr with h | h
            · exact absurd h hgj
            · exact (h b hb).1
          · rw [if_neg e] at hSj hb
            exact Nat.lt_of_lt_of_le (h4 j hSj hgj b hb) hq.size
        · have hp1 : upd S i true p = true := hp
          have hq1 : upd S i true q = true := hq2
          clear hp hq2
          unfold upd at hp1 hq1 hb ⊢
          by_cases e1 : p = i
          · subst e1
            have e2 : q ≠ p := fun e => gpq (by rw [e])
            rw [if_pos rfl] at hb
            rw [if_neg e2] at hq1 ⊢
            intro hb2
            rcases hfr with h | h
            · exact gp h
            · rcases (h b hb).2 with h6 | ⟨j, h6, h7, h8⟩
              · have := h4 q hq1 gq b hb2
                omega
              · exact h5 j q (hdep j (by simpa using h6)) hq1 (by rw [h7]; exact gp) gq (by rw [h7]; exact gpq) b h8 hb2
          · rw [if_neg e1] at hp1 hb
            by_cases e2 : q = i
            · subst e2
              rw [if_pos rfl]
              intro hb2
              rcases hfr with h | h
              · exact gq h
              · rcases (h b hb2).2 with h6 | ⟨j, h6, h7, h8⟩
                · have := h4 p hp1 gp b hb
                  omega
                · exact h5 p j hp1 (hdep j (by simpa using h6)) gp (by rw [h7]; exact gq) (by rw [h7]; exact gpq) b hb h8
            · rw [if_neg e2] at hq1 ⊢
              exact h5 p q hp1 hq1 gp gq gpq b hb)
    (fun S f w1 hall' hJ => by
      rw [if_pos (hall' l0.length (by simp))] at hJ
      exact hJ.2)
    (l0 ++ [ol]).toArray.size (Array.replicate (l0 ++ [ol]).toArray.size false) (old a (l0 ++ [ol])) { w with drawn := w.drawn + 1 } (by simp) (by simp) (fun i o ho h => absurd h (by rw [getD_rep]; exact Bool.false_ne_true)) (by
      have hno : ∀ j, ¬ ((Array.replicate (l0 ++ [ol]).toArray.size false).getD j false = true) := fun j => by rw [getD_rep]; exact Bool.false_ne_true
      rw [if_neg (hno _)]
      exact ⟨Q.refl _, fun j hj h => absurd h (hno j), fun j _ => rfl, fun j h => absurd h (hno j), fun p q hp => absurd hp (hno p)⟩)
  rw [← hst] at key
  exact key
end Ri
section
variable {P : Program} {t e size bytes : Nat} {w : World} {base : Nat}
/-- append onto an empty slice without room: the row that was, or a new one -/
theorem run_append_new2 (E : El P t e size bytes) {b0 A : Option Addr} {m c B : Nat} {news : List Value} (hown : w.ownsRow base e size (.slice b0 0 0) 0 []) (hA : A = none → m = 0 ∧ c = 0) (hl : news.length = m * size) (hr : Rd w B A news) (h1 : ∀ u ∈ news, u.oneCell' = true)
    (hb : m * bytes ≤ 140737488355328) (hbase : base ≤ w.heap.size) (ty : TypeId) :
    ∃ v w', (Builtin.append_ #[t, t] ty #[.slice b0 0 0, .slice A m c]).run P w = .ok v w' ∧ w'.ownsRow base e size v m news ∧ Q w w' ∧ ∀ b, v.ownBlock = some b → w.heap.size ≤ b ∨ (Value.slice b0 0 0).ownBlock = some b := by
  obtain ⟨i, z, hi, hz, hsz, hby, hzs⟩ := E.inf
  have hle : m ≤ m * bytes := Nat.le_mul_of_pos_right _ E.bpos
  have hS : Src P i.size t (.slice A m c) m news w := by
    rcases A with _ | ad
    · obtain ⟨rfl, rfl⟩ := hA rfl
      have : news = [] := List.eq_nil_of_length_eq_zero (by simpa using hl)
      subst this
      exact Src.ofNil w E.und 0
    · refine Src.ofSlice w E.und ad m c news (by rw [hsz]; exact hl) (fun j u hu => ?_) h1
      rcases hr with rfl | ⟨b, o, h2, _, h3⟩
      · simp at hu
      · obtain rfl := Option.some.inj h2
        rw [addr_add]
        exact h3 j u hu
  rcases Nat.eq_zero_or_pos m with h0 | h0
  · subst h0
    have : news = [] := List.eq_nil_of_length_eq_zero (by simpa using hl)
    subst this
    exact ⟨_, _, run_append_nothing w t t ty e i E.und hi b0 0 0 (Nat.le_refl _) _ hS, hown, Q.refl w, fun b hb => .inr hb⟩
  · have hf : (Builtin.firstCells i.size 0 (.slice b0 0 0)).run P w.drew = .ok (List.toArray []) w.drew := by
      cases b0 with
      | none => exact run_firstCells_none w.drew i.size 0 0 0
      | some a => exact run_firstCells_some w.drew i.size 0 a 0 0 [] (by simp) (fun j u h => by simp at h)
    have hr2 := run_append_grow_src (P := P) w t t ty e i z E.und hi hz b0 0 0 [] hf _ m news hS (by omega) (by omega) (growslice_fits (by omega) (by rw [hby, Nat.zero_add]; exact hb))
    refine ⟨_, _, hr2, ?_, (Q.refl w).drew.alloc _, fun b hb2 => .inl ?_⟩
    · have hge := grownCap_ge w (0 + m) 0 e
      have hcm : grownCap w (0 + m) 0 e ≤ maxLen := grownCap_le_maxLen w (0 + m) 0 e (by simp only [maxLen]; omega)
      rw [Nat.zero_add] at hge hcm ⊢
      refine ⟨hl, .inr ⟨w.heap.size, _, _, rfl, hbase, heap_alloc_new w.drew _, hge, hcm, ?_, ?_⟩⟩
      · simp only [List.nil_append, Array.size_append, List.size_toArray, size_zeroCells, hzs, hl, ← Nat.add_mul]
        congr 1
        omega
      · simp only [List.nil_append, Array.toList_append]
        rw [← hl]
        exact List.take_left
    · simp [Value.ownBlock] at hb2
      omega
end
/-- the operation, within a region whose values' blocks are told apart -/
theorem Ri.wp_appendD {P : Program} {t e size bytes : Nat} {w : World} {base : Nat} {R : Exit → Act → World → Prop} {o : Oper} {A : Act} {φ : Value → World → Prop} {l : List Oper} {grp : Nat → Nat} {f : Nat → Value} {k jj : Nat} (E : El P t e size bytes) (s x : Operand) (ho : o.op = .call { callee := .builtin .append, args := #[s, x], argTypes := #[t, t] })
    {b0 Ad : Option Addr} {m c B : Nat} {news : List Value} (hs : A.eval s = .slice b0 0 0) (hx : A.eval x = .slice Ad m c) (hown : w.ownsRow base e size (.slice b0 0 0) 0 []) (hA : Ad = none → m = 0 ∧ c = 0) (hl : news.length = m * size) (hr : Rd w B Ad news) (h1 : ∀ u ∈ news, u.oneCell' = true)
    (hb : m * bytes ≤ 140737488355328) (hbase : base ≤ w.heap.size) (hj : dep l.toArray l.length k jj = true) (hgj : grp jj = grp k) (hfj : f jj = .slice b0 0 0) (h : ∀ v w', w'.ownsRow base e size v m news → φ v w') :
    o.wp P A w (fun a' w' => ∃ v, a' = A.put o.dst v ∧ Q w w' ∧ φ v w' ∧ (grp k = 0 ∨ Ri.FrD l grp f k w w' v)) R := by
  obtain ⟨v, w', hr2, h2, h3, h4⟩ := run_append_new2 (P := P) E hown hA hl hr h1 hb hbase o.type
  unfold Oper.wp
  have : (execOp A.eval o).run P w = .ok (.value v) w' := by
    unfold execOp
    simp only [ho, resolve, invoke, builtin, Sem.run_bind, Sem.run_pure, Result.andThen_ok, List.map_toArray, List.map_cons, List.map_nil, hs, hx, hr2]
  rw [this]
  refine ⟨v, rfl, h3, h v w' h2, .inr fun b hvb => ⟨(h2.lt b hvb).2, ?_⟩⟩
  rcases h4 b hvb with e | e
  · exact .inl e
  · exact .inr ⟨jj, hj, hgj, by rw [hfj]; exact e⟩
/-- a struct, made -/
theorem Ri.wp_structD {P : Program} {w : World} {R : Exit → Act → World → Prop} {o : Oper} {A : Act} {φ : Value → World → Prop} {l : List Oper} {grp : Nat → Nat} {f : Nat → Value} {k : Nat} {ty : TypeId} {parts : Array (Nat × Operand)} {cells : Array Value} (hk : grp k = 0) (ho : o.op = .build ty parts) (vals : List (Nat × Value)) (hp : (parts.map fun (i, x) => (i, A.eval x)).toList = vals) (hb : P.built ty vals = some cells) (h : φ (.agg cells) w) :
    o.wp P A w (fun a' w' => ∃ v, a' = A.put o.dst v ∧ Q w w' ∧ φ v w' ∧ (grp k = 0 ∨ Ri.FrD l grp f k w w' v)) R :=
  Oper.wp_mono (fun a' w' ⟨v, e, hq, hp⟩ => ⟨v, e, hq, hp, .inl hk⟩) (Ri.wp_struct ho vals hp hb h)
/-- an empty literal -/
theorem Ri.wp_litD {P : Program} {t e size bytes : Nat} {w : World} {R : Exit → Act → World → Prop} {o : Oper} {A : Act} {φ : Value → World → Prop} {l : List Oper} {grp : Nat → Nat} {f : Nat → Value} {k : Nat} (E : El P t e size bytes) (ho : o.op = .buildSlice t 0 #[]) (h : φ (.slice (some ⟨w.heap.size, 0, none⟩) 0 0) (w.alloc (.cells #[] e))) :
    o.wp P A w (fun a' w' => ∃ v, a' = A.put o.dst v ∧ Q w w' ∧ φ v w' ∧ (grp k = 0 ∨ Ri.FrD l grp f k w w' v)) R := by
  obtain ⟨i, z, hi, hz, hsz, hby, hzs⟩ := E.inf
  unfold Oper.wp
  have : (execOp A.eval o).run P w = .ok (.value (.slice (some ⟨w.heap.size, 0, none⟩) 0 0)) (w.alloc (.cells #[] e)) := by
    unfold execOp
    simp [ho, Instr.buildSlice, run_underlying E.und, sizeOf, typeInfo, hi, Instr.fill, newRow, Sem.run_bind]
    rw [show Array.range 0 = #[] from by simp [Array.range]]
    simp
  rw [this]
  refine ⟨_, rfl, (Q.refl _).alloc _, h, .inr fun b hvb => ?_⟩
  simp [Value.ownBlock] at hvb
  subst hvb
  exact ⟨by simp, .inl (Nat.le_refl _)⟩
end Go.Proofs.YtdaklffbfadghaaGreat
